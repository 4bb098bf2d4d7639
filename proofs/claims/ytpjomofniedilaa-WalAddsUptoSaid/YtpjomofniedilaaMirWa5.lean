/- Record by record, added and synced, all are opened, in order, and the Wal stands behind them; a Save takes them away. Part 5 of its proof. -/
import Derived.Test.YtpjomofniedilaaMirWa4
/- Walks: what many share. -/
set_option linter.unusedVariables false
set_option linter.unusedSimpArgs false
set_option maxRecDepth 100000
namespace Go.Mir.Try
open Go.Proofs Go.Mir.Q











set_option maxHeartbeats 2000000 in
theorem f64 {a b : List (Write)} (ha : a.length ≤ 1000000000) (hb : b.length ≤ 1000000000) : Fun G 64 [.one (.d (.sl (a.map eW))), .one (.d (.sl (b.map eW)))] (.bool (decide (a = b)), []) := by
  refine Fun.of_run (g := g64) (pf := pf64) rfl rfl rfl rfl ?_
  simp (maxSteps := 1000000) (disch := first | assumption | ((try simp only [LEN, LEN2]); omega)) only [push_cast, Int.reduceToNat, Int.reduceEq, Int.reduceNe, Int.reduceLT, Int.reduceLE, Int.reduceAdd, Int.reduceSub, Int.reduceMul, Int.reduceNeg, Nat.reduceEqDiff, Nat.reduceBEq, Nat.reduceBNe, Nat.reduceAdd, Nat.reduceLeDiff, Nat.reduceLT, Nat.reduceMul, ↓reduceIte, reduceCtorEq, g64, pf64, b64]
  refine If.dec (fun h => ?_) (fun h => ?_)
  · have : a ≠ b := fun e => h (by rw [e])
    simp (maxSteps := 1000000) (disch := first | assumption | ((try simp only [LEN, LEN2]); omega)) only [push_cast, Int.reduceToNat, Int.reduceEq, Int.reduceNe, Int.reduceLT, Int.reduceLE, Int.reduceAdd, Int.reduceSub, Int.reduceMul, Int.reduceNeg, Nat.reduceEqDiff, Nat.reduceBEq, Nat.reduceBNe, Nat.reduceAdd, Nat.reduceLeDiff, Nat.reduceLT, Nat.reduceMul, ↓reduceIte, reduceCtorEq, g64, pf64, b64]
    simp [this]
  simp (maxSteps := 1000000) (disch := first | assumption | ((try simp only [LEN, LEN2]); omega)) only [push_cast, Int.reduceToNat, Int.reduceEq, Int.reduceNe, Int.reduceLT, Int.reduceLE, Int.reduceAdd, Int.reduceSub, Int.reduceMul, Int.reduceNeg, Nat.reduceEqDiff, Nat.reduceBEq, Nat.reduceBNe, Nat.reduceAdd, Nat.reduceLeDiff, Nat.reduceLT, Nat.reduceMul, ↓reduceIte, reduceCtorEq, g64, pf64, b64]
  have hl : a.length = b.length := by omega
  refine run_loop' (fun i : Nat => [(0, T.one (.d (.sl (a.map eW)))), (1, T.one (.d (.sl (b.map eW)))), (5, T.int .i64 i)]) (fun i => i ≤ a.length ∧ a.take i = b.take i) (fun i => a.length - i) 0 rfl ⟨Nat.zero_le _, by simp⟩ (fun i hi => ?_)
  obtain ⟨hi, ht⟩ := hi
  simp (maxSteps := 1000000) (disch := first | assumption | ((try simp only [LEN, LEN2]); omega)) only [push_cast, Int.reduceToNat, Int.reduceEq, Int.reduceNe, Int.reduceLT, Int.reduceLE, Int.reduceAdd, Int.reduceSub, Int.reduceMul, Int.reduceNeg, Nat.reduceEqDiff, Nat.reduceBEq, Nat.reduceBNe, Nat.reduceAdd, Nat.reduceLeDiff, Nat.reduceLT, Nat.reduceMul, ↓reduceIte, reduceCtorEq, g64, pf64, b64]
  refine If.dec (fun h => ?_) (fun h => ?_)
  · replace h : i < a.length := by omega
    have h' : i < b.length := by omega
    simp (maxSteps := 1000000) (disch := first | assumption | ((try simp only [LEN, LEN2]); omega)) only [push_cast, Int.reduceToNat, Int.reduceEq, Int.reduceNe, Int.reduceLT, Int.reduceLE, Int.reduceAdd, Int.reduceSub, Int.reduceMul, Int.reduceNeg, Nat.reduceEqDiff, Nat.reduceBEq, Nat.reduceBNe, Nat.reduceAdd, Nat.reduceLeDiff, Nat.reduceLT, Nat.reduceMul, ↓reduceIte, reduceCtorEq, g64, pf64, b64, eW, eqW_fold]
    by_cases he : a[i] = b[i]
    · simp (maxSteps := 1000000) (disch := first | assumption | ((try simp only [LEN, LEN2]); omega)) only [push_cast, Int.reduceToNat, Int.reduceEq, Int.reduceNe, Int.reduceLT, Int.reduceLE, Int.reduceAdd, Int.reduceSub, Int.reduceMul, Int.reduceNeg, Nat.reduceEqDiff, Nat.reduceBEq, Nat.reduceBNe, Nat.reduceAdd, Nat.reduceLeDiff, Nat.reduceLT, Nat.reduceMul, ↓reduceIte, reduceCtorEq, g64, pf64, b64, he]
      refine ⟨i + 1, rfl, ⟨by omega, ?_⟩, by omega⟩
      rw [List.take_succ_eq_append_getElem h, List.take_succ_eq_append_getElem h', ht, he]
    · have hne : a ≠ b := fun e => he (by subst e; rfl)
      simp (maxSteps := 1000000) (disch := first | assumption | ((try simp only [LEN, LEN2]); omega)) only [push_cast, Int.reduceToNat, Int.reduceEq, Int.reduceNe, Int.reduceLT, Int.reduceLE, Int.reduceAdd, Int.reduceSub, Int.reduceMul, Int.reduceNeg, Nat.reduceEqDiff, Nat.reduceBEq, Nat.reduceBNe, Nat.reduceAdd, Nat.reduceLeDiff, Nat.reduceLT, Nat.reduceMul, ↓reduceIte, reduceCtorEq, g64, pf64, b64, he]
      simp [hne]
  · obtain rfl : i = a.length := by omega
    have : a = b := by rw [List.take_length] at ht; rw [ht, hl, List.take_length]
    simp (maxSteps := 1000000) (disch := first | assumption | ((try simp only [LEN, LEN2]); omega)) only [push_cast, Int.reduceToNat, Int.reduceEq, Int.reduceNe, Int.reduceLT, Int.reduceLE, Int.reduceAdd, Int.reduceSub, Int.reduceMul, Int.reduceNeg, Nat.reduceEqDiff, Nat.reduceBEq, Nat.reduceBNe, Nat.reduceAdd, Nat.reduceLeDiff, Nat.reduceLT, Nat.reduceMul, ↓reduceIte, reduceCtorEq, g64, pf64, b64]
    simp [this]
theorem f64c {a b : List (Write)} (ha : a.length ≤ 1000000000) (hb : b.length ≤ 1000000000) {g : VG} {F : Fn} {lk : Bool} {e : Env} {dst : Option Nat} {ops : List Ins} {keep : Option (List Nat)} {K : List Fr} : CallC G g F 64 [.one (.d (.sl (a.map eW))), .one (.d (.sl (b.map eW)))] lk e dst ops keep K = ThenL G g F (if lk && !(T.noSl (.bool (decide (a = b)))) then none else e.put g.un dst (.bool (decide (a = b)))) ops keep K := callC_eq (f64 ha hb)
attribute [push_cast] f64c
set_option maxHeartbeats 2000000 in
theorem f33 {a b : List (Row)} (ha : a.length ≤ 1000000000) (hb : b.length ≤ 1000000000) : Fun G 33 [.one (.d (.sl (a.map eRow))), .one (.d (.sl (b.map eRow)))] (.bool (decide (a = b)), []) := by
  refine Fun.of_run (g := g33) (pf := pf33) rfl rfl rfl rfl ?_
  simp (maxSteps := 1000000) (disch := first | assumption | ((try simp only [LEN, LEN2]); omega)) only [push_cast, Int.reduceToNat, Int.reduceEq, Int.reduceNe, Int.reduceLT, Int.reduceLE, Int.reduceAdd, Int.reduceSub, Int.reduceMul, Int.reduceNeg, Nat.reduceEqDiff, Nat.reduceBEq, Nat.reduceBNe, Nat.reduceAdd, Nat.reduceLeDiff, Nat.reduceLT, Nat.reduceMul, ↓reduceIte, reduceCtorEq, g33, pf33, b33]
  refine If.dec (fun h => ?_) (fun h => ?_)
  · have : a ≠ b := fun e => h (by rw [e])
    simp (maxSteps := 1000000) (disch := first | assumption | ((try simp only [LEN, LEN2]); omega)) only [push_cast, Int.reduceToNat, Int.reduceEq, Int.reduceNe, Int.reduceLT, Int.reduceLE, Int.reduceAdd, Int.reduceSub, Int.reduceMul, Int.reduceNeg, Nat.reduceEqDiff, Nat.reduceBEq, Nat.reduceBNe, Nat.reduceAdd, Nat.reduceLeDiff, Nat.reduceLT, Nat.reduceMul, ↓reduceIte, reduceCtorEq, g33, pf33, b33]
    simp [this]
  simp (maxSteps := 1000000) (disch := first | assumption | ((try simp only [LEN, LEN2]); omega)) only [push_cast, Int.reduceToNat, Int.reduceEq, Int.reduceNe, Int.reduceLT, Int.reduceLE, Int.reduceAdd, Int.reduceSub, Int.reduceMul, Int.reduceNeg, Nat.reduceEqDiff, Nat.reduceBEq, Nat.reduceBNe, Nat.reduceAdd, Nat.reduceLeDiff, Nat.reduceLT, Nat.reduceMul, ↓reduceIte, reduceCtorEq, g33, pf33, b33]
  have hl : a.length = b.length := by omega
  refine run_loop' (fun i : Nat => [(0, T.one (.d (.sl (a.map eRow)))), (1, T.one (.d (.sl (b.map eRow)))), (5, T.int .i64 i)]) (fun i => i ≤ a.length ∧ a.take i = b.take i) (fun i => a.length - i) 0 rfl ⟨Nat.zero_le _, by simp⟩ (fun i hi => ?_)
  obtain ⟨hi, ht⟩ := hi
  simp (maxSteps := 1000000) (disch := first | assumption | ((try simp only [LEN, LEN2]); omega)) only [push_cast, Int.reduceToNat, Int.reduceEq, Int.reduceNe, Int.reduceLT, Int.reduceLE, Int.reduceAdd, Int.reduceSub, Int.reduceMul, Int.reduceNeg, Nat.reduceEqDiff, Nat.reduceBEq, Nat.reduceBNe, Nat.reduceAdd, Nat.reduceLeDiff, Nat.reduceLT, Nat.reduceMul, ↓reduceIte, reduceCtorEq, g33, pf33, b33]
  refine If.dec (fun h => ?_) (fun h => ?_)
  · replace h : i < a.length := by omega
    have h' : i < b.length := by omega
    simp (maxSteps := 1000000) (disch := first | assumption | ((try simp only [LEN, LEN2]); omega)) only [push_cast, Int.reduceToNat, Int.reduceEq, Int.reduceNe, Int.reduceLT, Int.reduceLE, Int.reduceAdd, Int.reduceSub, Int.reduceMul, Int.reduceNeg, Nat.reduceEqDiff, Nat.reduceBEq, Nat.reduceBNe, Nat.reduceAdd, Nat.reduceLeDiff, Nat.reduceLT, Nat.reduceMul, ↓reduceIte, reduceCtorEq, g33, pf33, b33, eRow, eqRow_fold]
    by_cases he : a[i] = b[i]
    · simp (maxSteps := 1000000) (disch := first | assumption | ((try simp only [LEN, LEN2]); omega)) only [push_cast, Int.reduceToNat, Int.reduceEq, Int.reduceNe, Int.reduceLT, Int.reduceLE, Int.reduceAdd, Int.reduceSub, Int.reduceMul, Int.reduceNeg, Nat.reduceEqDiff, Nat.reduceBEq, Nat.reduceBNe, Nat.reduceAdd, Nat.reduceLeDiff, Nat.reduceLT, Nat.reduceMul, ↓reduceIte, reduceCtorEq, g33, pf33, b33, he]
      refine ⟨i + 1, rfl, ⟨by omega, ?_⟩, by omega⟩
      rw [List.take_succ_eq_append_getElem h, List.take_succ_eq_append_getElem h', ht, he]
    · have hne : a ≠ b := fun e => he (by subst e; rfl)
      simp (maxSteps := 1000000) (disch := first | assumption | ((try simp only [LEN, LEN2]); omega)) only [push_cast, Int.reduceToNat, Int.reduceEq, Int.reduceNe, Int.reduceLT, Int.reduceLE, Int.reduceAdd, Int.reduceSub, Int.reduceMul, Int.reduceNeg, Nat.reduceEqDiff, Nat.reduceBEq, Nat.reduceBNe, Nat.reduceAdd, Nat.reduceLeDiff, Nat.reduceLT, Nat.reduceMul, ↓reduceIte, reduceCtorEq, g33, pf33, b33, he]
      simp [hne]
  · obtain rfl : i = a.length := by omega
    have : a = b := by rw [List.take_length] at ht; rw [ht, hl, List.take_length]
    simp (maxSteps := 1000000) (disch := first | assumption | ((try simp only [LEN, LEN2]); omega)) only [push_cast, Int.reduceToNat, Int.reduceEq, Int.reduceNe, Int.reduceLT, Int.reduceLE, Int.reduceAdd, Int.reduceSub, Int.reduceMul, Int.reduceNeg, Nat.reduceEqDiff, Nat.reduceBEq, Nat.reduceBNe, Nat.reduceAdd, Nat.reduceLeDiff, Nat.reduceLT, Nat.reduceMul, ↓reduceIte, reduceCtorEq, g33, pf33, b33]
    simp [this]
theorem f33c {a b : List (Row)} (ha : a.length ≤ 1000000000) (hb : b.length ≤ 1000000000) {g : VG} {F : Fn} {lk : Bool} {e : Env} {dst : Option Nat} {ops : List Ins} {keep : Option (List Nat)} {K : List Fr} : CallC G g F 33 [.one (.d (.sl (a.map eRow))), .one (.d (.sl (b.map eRow)))] lk e dst ops keep K = ThenL G g F (if lk && !(T.noSl (.bool (decide (a = b)))) then none else e.put g.un dst (.bool (decide (a = b)))) ops keep K := callC_eq (f33 ha hb)
attribute [push_cast] f33c


set_option maxHeartbeats 2000000 in
theorem f12 {i : Int}  : Fun G 12 [.int .i64 i] (.int .i64 i, []) := by
  refine Fun.of_run (g := g12) (pf := pf12) rfl rfl rfl rfl ?_
  simp (maxSteps := 1000000) (disch := first | assumption | ((try simp only [LEN, LEN2]); omega)) only [push_cast, Int.reduceToNat, Int.reduceEq, Int.reduceNe, Int.reduceLT, Int.reduceLE, Int.reduceAdd, Int.reduceSub, Int.reduceMul, Int.reduceNeg, Nat.reduceEqDiff, Nat.reduceBEq, Nat.reduceBNe, Nat.reduceAdd, Nat.reduceLeDiff, Nat.reduceLT, Nat.reduceMul, ↓reduceIte, reduceCtorEq, g12, pf12, b12]
theorem f12c {i : Int}  {g : VG} {F : Fn} {lk : Bool} {e : Env} {dst : Option Nat} {ops : List Ins} {keep : Option (List Nat)} {K : List Fr} : CallC G g F 12 [.int .i64 i] lk e dst ops keep K = ThenL G g F (if lk && !(T.noSl (.int .i64 i)) then none else e.put g.un dst (.int .i64 i)) ops keep K := callC_eq (f12 )
attribute [push_cast] f12c

set_option maxHeartbeats 2000000 in
theorem f55 {n a b : Int}  : Fun G 55 [.int .i64 n, .int .i64 a, .int .i64 b] (.bool (decide (a ≤ n ∧ n ≤ b)), []) := by
  refine Fun.of_run (g := g55) (pf := pf55) rfl rfl rfl rfl ?_
  by_cases h : a ≤ n <;> by_cases h' : n ≤ b <;> simp (maxSteps := 1000000) (disch := first | assumption | ((try simp only [LEN, LEN2]); omega)) only [push_cast, Int.reduceToNat, Int.reduceEq, Int.reduceNe, Int.reduceLT, Int.reduceLE, Int.reduceAdd, Int.reduceSub, Int.reduceMul, Int.reduceNeg, Nat.reduceEqDiff, Nat.reduceBEq, Nat.reduceBNe, Nat.reduceAdd, Nat.reduceLeDiff, Nat.reduceLT, Nat.reduceMul, ↓reduceIte, reduceCtorEq, g55, pf55, b55, h, h']
theorem f55c {n a b : Int}  {g : VG} {F : Fn} {lk : Bool} {e : Env} {dst : Option Nat} {ops : List Ins} {keep : Option (List Nat)} {K : List Fr} : CallC G g F 55 [.int .i64 n, .int .i64 a, .int .i64 b] lk e dst ops keep K = ThenL G g F (if lk && !(T.noSl (.bool (decide (a ≤ n ∧ n ≤ b)))) then none else e.put g.un dst (.bool (decide (a ≤ n ∧ n ≤ b)))) ops keep K := callC_eq (f55 )
attribute [push_cast] f55c

set_option maxHeartbeats 2000000 in
theorem f73 {n a : Int}  : Fun G 73 [.int .i64 n, .int .i64 a] (.bool (decide (0 ≤ n ∧ n ≤ a)), []) := by
  refine Fun.of_run (g := g73) (pf := pf73) rfl rfl rfl rfl ?_
  by_cases h : 0 ≤ n <;> by_cases h' : n ≤ a <;> simp (maxSteps := 1000000) (disch := first | assumption | ((try simp only [LEN, LEN2]); omega)) only [push_cast, Int.reduceToNat, Int.reduceEq, Int.reduceNe, Int.reduceLT, Int.reduceLE, Int.reduceAdd, Int.reduceSub, Int.reduceMul, Int.reduceNeg, Nat.reduceEqDiff, Nat.reduceBEq, Nat.reduceBNe, Nat.reduceAdd, Nat.reduceLeDiff, Nat.reduceLT, Nat.reduceMul, ↓reduceIte, reduceCtorEq, g73, pf73, b73, h, h']
theorem f73c {n a : Int}  {g : VG} {F : Fn} {lk : Bool} {e : Env} {dst : Option Nat} {ops : List Ins} {keep : Option (List Nat)} {K : List Fr} : CallC G g F 73 [.int .i64 n, .int .i64 a] lk e dst ops keep K = ThenL G g F (if lk && !(T.noSl (.bool (decide (0 ≤ n ∧ n ≤ a)))) then none else e.put g.un dst (.bool (decide (0 ≤ n ∧ n ≤ a)))) ops keep K := callC_eq (f73 )
attribute [push_cast] f73c


abbrev oT (S : List (List UInt8)) (W : List Put) : List V := [.own 9 (S.map oS), .own 59 (W.map oP)]


def oMp (l : List Row) : List V := [.own 86 (l.map oRow)]
theorem toDss_oMp (l : Map) : toDss (l.map oMp) = some (l.map eMp) := toDss_map (fun x => by simp [oMp, eMp, toDs, V.toD, toDss_oRow]) l
theorem noSlss_oMp (l : Map) : noSlss (l.map oMp) = true := noSlss_map (fun x => by simp [oMp, noSls, V.noSl, noSlss_oRow]) l
attribute [push_cast] toDss_oMp noSlss_oMp


set_option maxHeartbeats 2000000 in
theorem f13 {a b : Map} (ha : smM a) (hb : smM b) : Fun G 13 [.one (.d (.sl (a.map eMp))), .one (.d (.sl (b.map eMp)))] (.bool (decide (a = b)), []) := by
  refine Fun.of_run (g := g13) (pf := pf13) rfl rfl rfl rfl ?_
  obtain ⟨ha, ha2⟩ := ha
  obtain ⟨hb, hb2⟩ := hb
  simp (maxSteps := 1000000) (disch := first | assumption | ((try simp only [LEN, LEN2]); omega)) only [push_cast, Int.reduceToNat, Int.reduceEq, Int.reduceNe, Int.reduceLT, Int.reduceLE, Int.reduceAdd, Int.reduceSub, Int.reduceMul, Int.reduceNeg, Nat.reduceEqDiff, Nat.reduceBEq, Nat.reduceBNe, Nat.reduceAdd, Nat.reduceLeDiff, Nat.reduceLT, Nat.reduceMul, ↓reduceIte, reduceCtorEq, g13, pf13, b13]
  refine If.dec (fun h => ?_) (fun h => ?_)
  · have : a ≠ b := fun e => h (by rw [e])
    simp (maxSteps := 1000000) (disch := first | assumption | ((try simp only [LEN, LEN2]); omega)) only [push_cast, Int.reduceToNat, Int.reduceEq, Int.reduceNe, Int.reduceLT, Int.reduceLE, Int.reduceAdd, Int.reduceSub, Int.reduceMul, Int.reduceNeg, Nat.reduceEqDiff, Nat.reduceBEq, Nat.reduceBNe, Nat.reduceAdd, Nat.reduceLeDiff, Nat.reduceLT, Nat.reduceMul, ↓reduceIte, reduceCtorEq, g13, pf13, b13]
    simp [this]
  simp (maxSteps := 1000000) (disch := first | assumption | ((try simp only [LEN, LEN2]); omega)) only [push_cast, Int.reduceToNat, Int.reduceEq, Int.reduceNe, Int.reduceLT, Int.reduceLE, Int.reduceAdd, Int.reduceSub, Int.reduceMul, Int.reduceNeg, Nat.reduceEqDiff, Nat.reduceBEq, Nat.reduceBNe, Nat.reduceAdd, Nat.reduceLeDiff, Nat.reduceLT, Nat.reduceMul, ↓reduceIte, reduceCtorEq, g13, pf13, b13]
  have hl : a.length = b.length := by omega
  refine run_loop' (fun i : Nat => [(0, T.one (.d (.sl (a.map eMp)))), (1, T.one (.d (.sl (b.map eMp)))), (5, T.int .i64 i)]) (fun i => i ≤ a.length ∧ a.take i = b.take i) (fun i => a.length - i) 0 rfl ⟨Nat.zero_le _, by simp⟩ (fun i hi => ?_)
  obtain ⟨hi, ht⟩ := hi
  simp (maxSteps := 1000000) (disch := first | assumption | ((try simp only [LEN, LEN2]); omega)) only [push_cast, Int.reduceToNat, Int.reduceEq, Int.reduceNe, Int.reduceLT, Int.reduceLE, Int.reduceAdd, Int.reduceSub, Int.reduceMul, Int.reduceNeg, Nat.reduceEqDiff, Nat.reduceBEq, Nat.reduceBNe, Nat.reduceAdd, Nat.reduceLeDiff, Nat.reduceLT, Nat.reduceMul, ↓reduceIte, reduceCtorEq, g13, pf13, b13]
  refine If.dec (fun h => ?_) (fun h => ?_)
  · replace h : i < a.length := by omega
    have h' : i < b.length := by omega
    have h1 := (ha2 a[i] (List.getElem_mem h)).1
    have h2 := (hb2 b[i] (List.getElem_mem h')).1
    simp (maxSteps := 1000000) (disch := first | assumption | ((try simp only [LEN, LEN2]); omega)) only [push_cast, Int.reduceToNat, Int.reduceEq, Int.reduceNe, Int.reduceLT, Int.reduceLE, Int.reduceAdd, Int.reduceSub, Int.reduceMul, Int.reduceNeg, Nat.reduceEqDiff, Nat.reduceBEq, Nat.reduceBNe, Nat.reduceAdd, Nat.reduceLeDiff, Nat.reduceLT, Nat.reduceMul, ↓reduceIte, reduceCtorEq, g13, pf13, b13, eMp]
    by_cases he : a[i] = b[i]
    · simp (maxSteps := 1000000) (disch := first | assumption | ((try simp only [LEN, LEN2]); omega)) only [push_cast, Int.reduceToNat, Int.reduceEq, Int.reduceNe, Int.reduceLT, Int.reduceLE, Int.reduceAdd, Int.reduceSub, Int.reduceMul, Int.reduceNeg, Nat.reduceEqDiff, Nat.reduceBEq, Nat.reduceBNe, Nat.reduceAdd, Nat.reduceLeDiff, Nat.reduceLT, Nat.reduceMul, ↓reduceIte, reduceCtorEq, g13, pf13, b13, he]
      refine ⟨i + 1, rfl, ⟨by omega, ?_⟩, by omega⟩
      rw [List.take_succ_eq_append_getElem h, List.take_succ_eq_append_getElem h', ht, he]
    · have hne : a ≠ b := fun e => he (by subst e; rfl)
      simp (maxSteps := 1000000) (disch := first | assumption | ((try simp only [LEN, LEN2]); omega)) only [push_cast, Int.reduceToNat, Int.reduceEq, Int.reduceNe, Int.reduceLT, Int.reduceLE, Int.reduceAdd, Int.reduceSub, Int.reduceMul, Int.reduceNeg, Nat.reduceEqDiff, Nat.reduceBEq, Nat.reduceBNe, Nat.reduceAdd, Nat.reduceLeDiff, Nat.reduceLT, Nat.reduceMul, ↓reduceIte, reduceCtorEq, g13, pf13, b13, he]
      simp [hne]
  · obtain rfl : i = a.length := by omega
    have : a = b := by rw [List.take_length] at ht; rw [ht, hl, List.take_length]
    simp (maxSteps := 1000000) (disch := first | assumption | ((try simp only [LEN, LEN2]); omega)) only [push_cast, Int.reduceToNat, Int.reduceEq, Int.reduceNe, Int.reduceLT, Int.reduceLE, Int.reduceAdd, Int.reduceSub, Int.reduceMul, Int.reduceNeg, Nat.reduceEqDiff, Nat.reduceBEq, Nat.reduceBNe, Nat.reduceAdd, Nat.reduceLeDiff, Nat.reduceLT, Nat.reduceMul, ↓reduceIte, reduceCtorEq, g13, pf13, b13]
    simp [this]
theorem f13c {a b : Map} (ha : smM a) (hb : smM b) {g : VG} {F : Fn} {lk : Bool} {e : Env} {dst : Option Nat} {ops : List Ins} {keep : Option (List Nat)} {K : List Fr} : CallC G g F 13 [.one (.d (.sl (a.map eMp))), .one (.d (.sl (b.map eMp)))] lk e dst ops keep K = ThenL G g F (if lk && !(T.noSl (.bool (decide (a = b)))) then none else e.put g.un dst (.bool (decide (a = b)))) ops keep K := callC_eq (f13 ha hb)
attribute [push_cast] f13c

set_option maxHeartbeats 2000000 in
theorem f62 {b : Bool}  : Fun G 62 [.bool b] (.int .u8 (if b then 1 else 0), []) := by
  refine Fun.of_run (g := g62) (pf := pf62) rfl rfl rfl rfl ?_
  cases b <;> simp (maxSteps := 1000000) (disch := first | assumption | ((try simp only [LEN, LEN2]); omega)) only [push_cast, Int.reduceToNat, Int.reduceEq, Int.reduceNe, Int.reduceLT, Int.reduceLE, Int.reduceAdd, Int.reduceSub, Int.reduceMul, Int.reduceNeg, Nat.reduceEqDiff, Nat.reduceBEq, Nat.reduceBNe, Nat.reduceAdd, Nat.reduceLeDiff, Nat.reduceLT, Nat.reduceMul, ↓reduceIte, reduceCtorEq, g62, pf62, b62]
theorem f62c {b : Bool}  {g : VG} {F : Fn} {lk : Bool} {e : Env} {dst : Option Nat} {ops : List Ins} {keep : Option (List Nat)} {K : List Fr} : CallC G g F 62 [.bool b] lk e dst ops keep K = ThenL G g F (if lk && !(T.noSl (.int .u8 (if b then 1 else 0))) then none else e.put g.un dst (.int .u8 (if b then 1 else 0))) ops keep K := callC_eq (f62 )
attribute [push_cast] f62c

set_option maxHeartbeats 2000000 in
theorem f34 {s : List UInt8} (h : s.length ≤ 9223372036854775807) : Fun G 34 [.str (bs s)] (.bool (decide (1 ≤ s.length ∧ s.length ≤ 12)), []) := by
  refine Fun.of_run (g := g34) (pf := pf34) rfl rfl rfl rfl ?_
  simp (maxSteps := 1000000) (disch := first | assumption | ((try simp only [LEN, LEN2]); omega)) only [push_cast, Int.reduceToNat, Int.reduceEq, Int.reduceNe, Int.reduceLT, Int.reduceLE, Int.reduceAdd, Int.reduceSub, Int.reduceMul, Int.reduceNeg, Nat.reduceEqDiff, Nat.reduceBEq, Nat.reduceBNe, Nat.reduceAdd, Nat.reduceLeDiff, Nat.reduceLT, Nat.reduceMul, ↓reduceIte, reduceCtorEq, g34, pf34, b34]
  exact boolRes (by omega)
theorem f34c {s : List UInt8} (h : s.length ≤ 9223372036854775807) {g : VG} {F : Fn} {lk : Bool} {e : Env} {dst : Option Nat} {ops : List Ins} {keep : Option (List Nat)} {K : List Fr} : CallC G g F 34 [.str (bs s)] lk e dst ops keep K = ThenL G g F (if lk && !(T.noSl (.bool (decide (1 ≤ s.length ∧ s.length ≤ 12)))) then none else e.put g.un dst (.bool (decide (1 ≤ s.length ∧ s.length ≤ 12)))) ops keep K := callC_eq (f34 h)
attribute [push_cast] f34c

set_option maxHeartbeats 2000000 in
theorem f35 {s : List UInt8}  : Fun G 35 [.str (bs s)] (.bool (decide (s.length ≤ 20)), []) := by
  refine Fun.of_run (g := g35) (pf := pf35) rfl rfl rfl rfl ?_
  simp (maxSteps := 1000000) (disch := first | assumption | ((try simp only [LEN, LEN2]); omega)) only [push_cast, Int.reduceToNat, Int.reduceEq, Int.reduceNe, Int.reduceLT, Int.reduceLE, Int.reduceAdd, Int.reduceSub, Int.reduceMul, Int.reduceNeg, Nat.reduceEqDiff, Nat.reduceBEq, Nat.reduceBNe, Nat.reduceAdd, Nat.reduceLeDiff, Nat.reduceLT, Nat.reduceMul, ↓reduceIte, reduceCtorEq, g35, pf35, b35]
  exact boolRes (by omega)
theorem f35c {s : List UInt8}  {g : VG} {F : Fn} {lk : Bool} {e : Env} {dst : Option Nat} {ops : List Ins} {keep : Option (List Nat)} {K : List Fr} : CallC G g F 35 [.str (bs s)] lk e dst ops keep K = ThenL G g F (if lk && !(T.noSl (.bool (decide (s.length ≤ 20)))) then none else e.put g.un dst (.bool (decide (s.length ≤ 20)))) ops keep K := callC_eq (f35 )
attribute [push_cast] f35c

set_option maxHeartbeats 2000000 in
theorem f77 {s : List UInt8}  : Fun G 77 [.str (bs s)] (.bool (decide (s.length ≤ 20)), []) := by
  refine Fun.of_run (g := g77) (pf := pf77) rfl rfl rfl rfl ?_
  simp (maxSteps := 1000000) (disch := first | assumption | ((try simp only [LEN, LEN2]); omega)) only [push_cast, Int.reduceToNat, Int.reduceEq, Int.reduceNe, Int.reduceLT, Int.reduceLE, Int.reduceAdd, Int.reduceSub, Int.reduceMul, Int.reduceNeg, Nat.reduceEqDiff, Nat.reduceBEq, Nat.reduceBNe, Nat.reduceAdd, Nat.reduceLeDiff, Nat.reduceLT, Nat.reduceMul, ↓reduceIte, reduceCtorEq, g77, pf77, b77]
  exact boolRes (by omega)
theorem f77c {s : List UInt8}  {g : VG} {F : Fn} {lk : Bool} {e : Env} {dst : Option Nat} {ops : List Ins} {keep : Option (List Nat)} {K : List Fr} : CallC G g F 77 [.str (bs s)] lk e dst ops keep K = ThenL G g F (if lk && !(T.noSl (.bool (decide (s.length ≤ 20)))) then none else e.put g.un dst (.bool (decide (s.length ≤ 20)))) ops keep K := callC_eq (f77 )
attribute [push_cast] f77c

set_option maxHeartbeats 2000000 in
theorem f75 {t : Int}  : Fun G 75 [.int .i64 t] (.bool (decide (0 ≤ t ∧ t < 3)), []) := by
  refine Fun.of_run (g := g75) (pf := pf75) rfl rfl rfl rfl ?_
  by_cases h : 0 ≤ t <;> by_cases h' : t < 3 <;> simp (maxSteps := 1000000) (disch := first | assumption | ((try simp only [LEN, LEN2]); omega)) only [push_cast, Int.reduceToNat, Int.reduceEq, Int.reduceNe, Int.reduceLT, Int.reduceLE, Int.reduceAdd, Int.reduceSub, Int.reduceMul, Int.reduceNeg, Nat.reduceEqDiff, Nat.reduceBEq, Nat.reduceBNe, Nat.reduceAdd, Nat.reduceLeDiff, Nat.reduceLT, Nat.reduceMul, ↓reduceIte, reduceCtorEq, g75, pf75, b75, h, h']
theorem f75c {t : Int}  {g : VG} {F : Fn} {lk : Bool} {e : Env} {dst : Option Nat} {ops : List Ins} {keep : Option (List Nat)} {K : List Fr} : CallC G g F 75 [.int .i64 t] lk e dst ops keep K = ThenL G g F (if lk && !(T.noSl (.bool (decide (0 ≤ t ∧ t < 3)))) then none else e.put g.un dst (.bool (decide (0 ≤ t ∧ t < 3)))) ops keep K := callC_eq (f75 )
attribute [push_cast] f75c

set_option maxHeartbeats 2000000 in
theorem f76 {s : List UInt8}  : Fun G 76 [.str (bs s)] (.bool (decide (s ≠ [] ∧ s.length ≤ 12)), []) := by
  refine Fun.of_run (g := g76) (pf := pf76) rfl rfl rfl rfl ?_
  by_cases h : s = [] <;> by_cases h' : (s.length : Int) ≤ 12 <;> simp (maxSteps := 1000000) (disch := first | assumption | ((try simp only [LEN, LEN2]); omega)) only [push_cast, Int.reduceToNat, Int.reduceEq, Int.reduceNe, Int.reduceLT, Int.reduceLE, Int.reduceAdd, Int.reduceSub, Int.reduceMul, Int.reduceNeg, Nat.reduceEqDiff, Nat.reduceBEq, Nat.reduceBNe, Nat.reduceAdd, Nat.reduceLeDiff, Nat.reduceLT, Nat.reduceMul, ↓reduceIte, reduceCtorEq, g76, pf76, b76, h, h'] <;> simp <;> omega
theorem f76c {s : List UInt8}  {g : VG} {F : Fn} {lk : Bool} {e : Env} {dst : Option Nat} {ops : List Ins} {keep : Option (List Nat)} {K : List Fr} : CallC G g F 76 [.str (bs s)] lk e dst ops keep K = ThenL G g F (if lk && !(T.noSl (.bool (decide (s ≠ [] ∧ s.length ≤ 12)))) then none else e.put g.un dst (.bool (decide (s ≠ [] ∧ s.length ≤ 12)))) ops keep K := callC_eq (f76 )
attribute [push_cast] f76c

set_option maxHeartbeats 2000000 in
theorem f59 {t : Int} {k v : List UInt8} {d : Bool}  : Fun G 59 [.vs true (cW t k v d)] (.bool (okW ⟨t, k, v, d⟩), []) := by
  refine Fun.of_run (g := g59) (pf := pf59) rfl rfl rfl rfl ?_
  by_cases h1 : 0 ≤ t ∧ t < 3
  · by_cases h2 : k = []
    · simp (maxSteps := 1000000) (disch := first | assumption | ((try simp only [LEN, LEN2]); omega)) only [push_cast, Int.reduceToNat, Int.reduceEq, Int.reduceNe, Int.reduceLT, Int.reduceLE, Int.reduceAdd, Int.reduceSub, Int.reduceMul, Int.reduceNeg, Nat.reduceEqDiff, Nat.reduceBEq, Nat.reduceBNe, Nat.reduceAdd, Nat.reduceLeDiff, Nat.reduceLT, Nat.reduceMul, ↓reduceIte, reduceCtorEq, g59, pf59, b59, h1, h2]
      simp [okW]
    · by_cases h3 : k.length ≤ 12
      · by_cases h4 : v.length ≤ 20
        · cases d <;> by_cases h5 : v = [] <;> simp (maxSteps := 1000000) (disch := first | assumption | ((try simp only [LEN, LEN2]); omega)) only [push_cast, Int.reduceToNat, Int.reduceEq, Int.reduceNe, Int.reduceLT, Int.reduceLE, Int.reduceAdd, Int.reduceSub, Int.reduceMul, Int.reduceNeg, Nat.reduceEqDiff, Nat.reduceBEq, Nat.reduceBNe, Nat.reduceAdd, Nat.reduceLeDiff, Nat.reduceLT, Nat.reduceMul, ↓reduceIte, reduceCtorEq, g59, pf59, b59, h1, h2, h3, h4, h5] <;> simp [okW, *]
        · simp (maxSteps := 1000000) (disch := first | assumption | ((try simp only [LEN, LEN2]); omega)) only [push_cast, Int.reduceToNat, Int.reduceEq, Int.reduceNe, Int.reduceLT, Int.reduceLE, Int.reduceAdd, Int.reduceSub, Int.reduceMul, Int.reduceNeg, Nat.reduceEqDiff, Nat.reduceBEq, Nat.reduceBNe, Nat.reduceAdd, Nat.reduceLeDiff, Nat.reduceLT, Nat.reduceMul, ↓reduceIte, reduceCtorEq, g59, pf59, b59, h1, h2, h3, h4]
          simp [okW, *]
      · simp (maxSteps := 1000000) (disch := first | assumption | ((try simp only [LEN, LEN2]); omega)) only [push_cast, Int.reduceToNat, Int.reduceEq, Int.reduceNe, Int.reduceLT, Int.reduceLE, Int.reduceAdd, Int.reduceSub, Int.reduceMul, Int.reduceNeg, Nat.reduceEqDiff, Nat.reduceBEq, Nat.reduceBNe, Nat.reduceAdd, Nat.reduceLeDiff, Nat.reduceLT, Nat.reduceMul, ↓reduceIte, reduceCtorEq, g59, pf59, b59, h1, h2, h3]
        simp [okW, *]
  · simp (maxSteps := 1000000) (disch := first | assumption | ((try simp only [LEN, LEN2]); omega)) only [push_cast, Int.reduceToNat, Int.reduceEq, Int.reduceNe, Int.reduceLT, Int.reduceLE, Int.reduceAdd, Int.reduceSub, Int.reduceMul, Int.reduceNeg, Nat.reduceEqDiff, Nat.reduceBEq, Nat.reduceBNe, Nat.reduceAdd, Nat.reduceLeDiff, Nat.reduceLT, Nat.reduceMul, ↓reduceIte, reduceCtorEq, g59, pf59, b59, h1]
    have : okW ⟨t, k, v, d⟩ = false := by simp only [okW, decide_eq_false_iff_not]; omega
    rw [this]
theorem f59c {t : Int} {k v : List UInt8} {d : Bool}  {g : VG} {F : Fn} {lk : Bool} {e : Env} {dst : Option Nat} {ops : List Ins} {keep : Option (List Nat)} {K : List Fr} : CallC G g F 59 [.vs true (cW t k v d)] lk e dst ops keep K = ThenL G g F (if lk && !(T.noSl (.bool (okW ⟨t, k, v, d⟩))) then none else e.put g.un dst (.bool (okW ⟨t, k, v, d⟩))) ops keep K := callC_eq (f59 )
attribute [push_cast] f59c

set_option maxHeartbeats 2000000 in
theorem f56 {t : Int} {k v : List UInt8} {d : Bool} (h : k.length ≤ 9223372036854775807) : Fun G 56 [.vs true (cW t k v d)] (.bool (okW ⟨t, k, v, d⟩), []) := by
  refine Fun.of_run (g := g56) (pf := pf56) rfl rfl rfl rfl ?_
  by_cases h1 : 0 ≤ t ∧ t ≤ 2
  · by_cases h2 : 1 ≤ k.length ∧ k.length ≤ 12
    · have h0 : k ≠ [] := by intro hk; subst hk; simp at h2
      by_cases h4 : v.length ≤ 20
      · cases d <;> by_cases h5 : v = [] <;> simp (maxSteps := 1000000) (disch := first | assumption | ((try simp only [LEN, LEN2]); omega)) only [push_cast, Int.reduceToNat, Int.reduceEq, Int.reduceNe, Int.reduceLT, Int.reduceLE, Int.reduceAdd, Int.reduceSub, Int.reduceMul, Int.reduceNeg, Nat.reduceEqDiff, Nat.reduceBEq, Nat.reduceBNe, Nat.reduceAdd, Nat.reduceLeDiff, Nat.reduceLT, Nat.reduceMul, ↓reduceIte, reduceCtorEq, g56, pf56, b56, h1, h2, h4, h5] <;> simp [okW, *] <;> omega
      · simp (maxSteps := 1000000) (disch := first | assumption | ((try simp only [LEN, LEN2]); omega)) only [push_cast, Int.reduceToNat, Int.reduceEq, Int.reduceNe, Int.reduceLT, Int.reduceLE, Int.reduceAdd, Int.reduceSub, Int.reduceMul, Int.reduceNeg, Nat.reduceEqDiff, Nat.reduceBEq, Nat.reduceBNe, Nat.reduceAdd, Nat.reduceLeDiff, Nat.reduceLT, Nat.reduceMul, ↓reduceIte, reduceCtorEq, g56, pf56, b56, h1, h2, h4]
        simp [okW, *]
    · have : okW ⟨t, k, v, d⟩ = false := by
        simp only [okW, decide_eq_false_iff_not]
        rintro ⟨_, _, hk, hl, _⟩
        have := List.length_pos_iff.2 hk
        omega
      simp (maxSteps := 1000000) (disch := first | assumption | ((try simp only [LEN, LEN2]); omega)) only [push_cast, Int.reduceToNat, Int.reduceEq, Int.reduceNe, Int.reduceLT, Int.reduceLE, Int.reduceAdd, Int.reduceSub, Int.reduceMul, Int.reduceNeg, Nat.reduceEqDiff, Nat.reduceBEq, Nat.reduceBNe, Nat.reduceAdd, Nat.reduceLeDiff, Nat.reduceLT, Nat.reduceMul, ↓reduceIte, reduceCtorEq, g56, pf56, b56, h1, h2]
      rw [this]
  · simp (maxSteps := 1000000) (disch := first | assumption | ((try simp only [LEN, LEN2]); omega)) only [push_cast, Int.reduceToNat, Int.reduceEq, Int.reduceNe, Int.reduceLT, Int.reduceLE, Int.reduceAdd, Int.reduceSub, Int.reduceMul, Int.reduceNeg, Nat.reduceEqDiff, Nat.reduceBEq, Nat.reduceBNe, Nat.reduceAdd, Nat.reduceLeDiff, Nat.reduceLT, Nat.reduceMul, ↓reduceIte, reduceCtorEq, g56, pf56, b56, h1]
    have : okW ⟨t, k, v, d⟩ = false := by simp only [okW, decide_eq_false_iff_not]; omega
    rw [this]
theorem f56c {t : Int} {k v : List UInt8} {d : Bool} (h : k.length ≤ 9223372036854775807) {g : VG} {F : Fn} {lk : Bool} {e : Env} {dst : Option Nat} {ops : List Ins} {keep : Option (List Nat)} {K : List Fr} : CallC G g F 56 [.vs true (cW t k v d)] lk e dst ops keep K = ThenL G g F (if lk && !(T.noSl (.bool (okW ⟨t, k, v, d⟩))) then none else e.put g.un dst (.bool (okW ⟨t, k, v, d⟩))) ops keep K := callC_eq (f56 h)
attribute [push_cast] f56c

set_option maxHeartbeats 2000000 in
theorem f58 {t : Int} {k v : List UInt8} {d : Bool}  : Fun G 58 [.vs true (cW t k v d)] (.bool (!okW ⟨t, k, v, d⟩), []) := by
  refine Fun.of_run (g := g58) (pf := pf58) rfl rfl rfl rfl ?_
  simp (maxSteps := 1000000) (disch := first | assumption | ((try simp only [LEN, LEN2]); omega)) only [push_cast, Int.reduceToNat, Int.reduceEq, Int.reduceNe, Int.reduceLT, Int.reduceLE, Int.reduceAdd, Int.reduceSub, Int.reduceMul, Int.reduceNeg, Nat.reduceEqDiff, Nat.reduceBEq, Nat.reduceBNe, Nat.reduceAdd, Nat.reduceLeDiff, Nat.reduceLT, Nat.reduceMul, ↓reduceIte, reduceCtorEq, g58, pf58, b58]
theorem f58c {t : Int} {k v : List UInt8} {d : Bool}  {g : VG} {F : Fn} {lk : Bool} {e : Env} {dst : Option Nat} {ops : List Ins} {keep : Option (List Nat)} {K : List Fr} : CallC G g F 58 [.vs true (cW t k v d)] lk e dst ops keep K = ThenL G g F (if lk && !(T.noSl (.bool (!okW ⟨t, k, v, d⟩))) then none else e.put g.un dst (.bool (!okW ⟨t, k, v, d⟩))) ops keep K := callC_eq (f58 )
attribute [push_cast] f58c

set_option maxHeartbeats 2000000 in
theorem f40 {n m : Int} {a b : List Write} (ha : a.length ≤ 1000000000) (hb : b.length ≤ 1000000000) : Fun G 40 [.vs true [.d (.sc (.int .i64 n)), .d (.sl (a.map eW))], .vs true [.d (.sc (.int .i64 m)), .d (.sl (b.map eW))]] (.bool (decide (n = m ∧ a = b)), []) := by
  refine Fun.of_run (g := g40) (pf := pf40) rfl rfl rfl rfl ?_
  by_cases h : n = m <;> simp (maxSteps := 1000000) (disch := first | assumption | ((try simp only [LEN, LEN2]); omega)) only [push_cast, Int.reduceToNat, Int.reduceEq, Int.reduceNe, Int.reduceLT, Int.reduceLE, Int.reduceAdd, Int.reduceSub, Int.reduceMul, Int.reduceNeg, Nat.reduceEqDiff, Nat.reduceBEq, Nat.reduceBNe, Nat.reduceAdd, Nat.reduceLeDiff, Nat.reduceLT, Nat.reduceMul, ↓reduceIte, reduceCtorEq, g40, pf40, b40, h] <;> simp
theorem f40c {n m : Int} {a b : List Write} (ha : a.length ≤ 1000000000) (hb : b.length ≤ 1000000000) {g : VG} {F : Fn} {lk : Bool} {e : Env} {dst : Option Nat} {ops : List Ins} {keep : Option (List Nat)} {K : List Fr} : CallC G g F 40 [.vs true [.d (.sc (.int .i64 n)), .d (.sl (a.map eW))], .vs true [.d (.sc (.int .i64 m)), .d (.sl (b.map eW))]] lk e dst ops keep K = ThenL G g F (if lk && !(T.noSl (.bool (decide (n = m ∧ a = b)))) then none else e.put g.un dst (.bool (decide (n = m ∧ a = b)))) ops keep K := callC_eq (f40 ha hb)
attribute [push_cast] f40c


theorem f42 {l : List (List UInt8)} (hl : l.length ≤ 1048576) (h : ∀ s ∈ l, s.length ≤ 1048576) : ∃ n : Int, Fun G 42 [.one (.d (.sl (l.map eS)))] (.int .i64 n, []) ∧ 0 ≤ n ∧ n ≤ 2097152 := by
  obtain ⟨r, h1, n, rfl, h2⟩ := Fun.ex_of_run (G := G) (f := 42) (args := [.one (.d (.sl (l.map eS)))]) (Q := fun r => ∃ n : Int, r = (.int .i64 n, []) ∧ 0 ≤ n ∧ n ≤ 2097152) (g := g42) (pf := pf42) rfl rfl rfl rfl (by
    simp (maxSteps := 1000000) (disch := first | assumption | ((try simp only [LEN, LEN2]); omega)) only [push_cast, Int.reduceToNat, Int.reduceEq, Int.reduceNe, Int.reduceLT, Int.reduceLE, Int.reduceAdd, Int.reduceSub, Int.reduceMul, Int.reduceNeg, Nat.reduceEqDiff, Nat.reduceBEq, Nat.reduceBNe, Nat.reduceAdd, Nat.reduceLeDiff, Nat.reduceLT, Nat.reduceMul, ↓reduceIte, reduceCtorEq, g42, pf42, b42]
    refine run_loop' (fun x : Nat × Int => [(0, T.one (.d (.sl (l.map eS)))), (3, T.int .i64 x.2), (4, T.int .i64 x.1)]) (fun x => x.1 ≤ l.length ∧ 0 ≤ x.2 ∧ x.2 ≤ 2097152) (fun x => l.length - x.1) (0, l.length) rfl (by simp only; omega) (fun ⟨i, n⟩ hi => ?_)
    simp only at hi
    by_cases h1 : (i : Int) < l.length
    · have hi' : i < l.length := by omega
      have hs := h l[i] (List.getElem_mem hi')
      simp (maxSteps := 1000000) (disch := first | assumption | ((try simp only [LEN, LEN2]); omega)) only [push_cast, Int.reduceToNat, Int.reduceEq, Int.reduceNe, Int.reduceLT, Int.reduceLE, Int.reduceAdd, Int.reduceSub, Int.reduceMul, Int.reduceNeg, Nat.reduceEqDiff, Nat.reduceBEq, Nat.reduceBNe, Nat.reduceAdd, Nat.reduceLeDiff, Nat.reduceLT, Nat.reduceMul, ↓reduceIte, reduceCtorEq, g42, pf42, b42, h1]
      refine If.dec (fun h2 => ?_) (fun h2 => ?_)
      · simp (maxSteps := 1000000) (disch := first | assumption | ((try simp only [LEN, LEN2]); omega)) only [push_cast, Int.reduceToNat, Int.reduceEq, Int.reduceNe, Int.reduceLT, Int.reduceLE, Int.reduceAdd, Int.reduceSub, Int.reduceMul, Int.reduceNeg, Nat.reduceEqDiff, Nat.reduceBEq, Nat.reduceBNe, Nat.reduceAdd, Nat.reduceLeDiff, Nat.reduceLT, Nat.reduceMul, ↓reduceIte, reduceCtorEq, g42, pf42, b42, eS]
        exact ⟨(i + 1, n + l[i].length), rfl, by simp only; omega, by simp only; omega⟩
      · simp (maxSteps := 1000000) (disch := first | assumption | ((try simp only [LEN, LEN2]); omega)) only [push_cast, Int.reduceToNat, Int.reduceEq, Int.reduceNe, Int.reduceLT, Int.reduceLE, Int.reduceAdd, Int.reduceSub, Int.reduceMul, Int.reduceNeg, Nat.reduceEqDiff, Nat.reduceBEq, Nat.reduceBNe, Nat.reduceAdd, Nat.reduceLeDiff, Nat.reduceLT, Nat.reduceMul, ↓reduceIte, reduceCtorEq, g42, pf42, b42]
        exact ⟨n, rfl, hi.2⟩
    · simp (maxSteps := 1000000) (disch := first | assumption | ((try simp only [LEN, LEN2]); omega)) only [push_cast, Int.reduceToNat, Int.reduceEq, Int.reduceNe, Int.reduceLT, Int.reduceLE, Int.reduceAdd, Int.reduceSub, Int.reduceMul, Int.reduceNeg, Nat.reduceEqDiff, Nat.reduceBEq, Nat.reduceBNe, Nat.reduceAdd, Nat.reduceLeDiff, Nat.reduceLT, Nat.reduceMul, ↓reduceIte, reduceCtorEq, g42, pf42, b42, h1]
      exact ⟨n, rfl, hi.2⟩)
  exact ⟨n, h1, h2⟩

theorem f65 {l : List Write} (hl : smW l) : ∃ n : Int, Fun G 65 [.one (.d (.sl (l.map eW)))] (.int .i64 n, []) ∧ 0 ≤ n ∧ n ≤ 2097152 := by
  obtain ⟨hl, h⟩ := hl
  obtain ⟨r, h1, n, rfl, h2⟩ := Fun.ex_of_run (G := G) (f := 65) (args := [.one (.d (.sl (l.map eW)))]) (Q := fun r => ∃ n : Int, r = (.int .i64 n, []) ∧ 0 ≤ n ∧ n ≤ 2097152) (g := g65) (pf := pf65) rfl rfl rfl rfl (by
    simp (maxSteps := 1000000) (disch := first | assumption | ((try simp only [LEN, LEN2]); omega)) only [push_cast, Int.reduceToNat, Int.reduceEq, Int.reduceNe, Int.reduceLT, Int.reduceLE, Int.reduceAdd, Int.reduceSub, Int.reduceMul, Int.reduceNeg, Nat.reduceEqDiff, Nat.reduceBEq, Nat.reduceBNe, Nat.reduceAdd, Nat.reduceLeDiff, Nat.reduceLT, Nat.reduceMul, ↓reduceIte, reduceCtorEq, g65, pf65, b65]
    refine run_loop' (fun x : Nat × Int => [(0, T.one (.d (.sl (l.map eW)))), (3, T.int .i64 x.2), (4, T.int .i64 x.1)]) (fun x => x.1 ≤ l.length ∧ 0 ≤ x.2 ∧ x.2 ≤ 2097152) (fun x => l.length - x.1) (0, l.length) rfl (by simp only; omega) (fun ⟨i, n⟩ hi => ?_)
    simp only at hi
    by_cases h1 : (i : Int) < l.length
    · have hi' : i < l.length := by omega
      have hs := h l[i] (List.getElem_mem hi')
      simp (maxSteps := 1000000) (disch := first | assumption | ((try simp only [LEN, LEN2]); omega)) only [push_cast, Int.reduceToNat, Int.reduceEq, Int.reduceNe, Int.reduceLT, Int.reduceLE, Int.reduceAdd, Int.reduceSub, Int.reduceMul, Int.reduceNeg, Nat.reduceEqDiff, Nat.reduceBEq, Nat.reduceBNe, Nat.reduceAdd, Nat.reduceLeDiff, Nat.reduceLT, Nat.reduceMul, ↓reduceIte, reduceCtorEq, g65, pf65, b65, h1]
      refine If.dec (fun h2 => ?_) (fun h2 => ?_)
      · simp (maxSteps := 1000000) (disch := first | assumption | ((try simp only [LEN, LEN2]); omega)) only [push_cast, Int.reduceToNat, Int.reduceEq, Int.reduceNe, Int.reduceLT, Int.reduceLE, Int.reduceAdd, Int.reduceSub, Int.reduceMul, Int.reduceNeg, Nat.reduceEqDiff, Nat.reduceBEq, Nat.reduceBNe, Nat.reduceAdd, Nat.reduceLeDiff, Nat.reduceLT, Nat.reduceMul, ↓reduceIte, reduceCtorEq, g65, pf65, b65, eW]
        exact ⟨(i + 1, n + ((l[i].Key.length : Int) + l[i].Value.length) / 8), rfl, by simp only; omega, by simp only; omega⟩
      · simp (maxSteps := 1000000) (disch := first | assumption | ((try simp only [LEN, LEN2]); omega)) only [push_cast, Int.reduceToNat, Int.reduceEq, Int.reduceNe, Int.reduceLT, Int.reduceLE, Int.reduceAdd, Int.reduceSub, Int.reduceMul, Int.reduceNeg, Nat.reduceEqDiff, Nat.reduceBEq, Nat.reduceBNe, Nat.reduceAdd, Nat.reduceLeDiff, Nat.reduceLT, Nat.reduceMul, ↓reduceIte, reduceCtorEq, g65, pf65, b65]
        exact ⟨n, rfl, hi.2⟩
    · simp (maxSteps := 1000000) (disch := first | assumption | ((try simp only [LEN, LEN2]); omega)) only [push_cast, Int.reduceToNat, Int.reduceEq, Int.reduceNe, Int.reduceLT, Int.reduceLE, Int.reduceAdd, Int.reduceSub, Int.reduceMul, Int.reduceNeg, Nat.reduceEqDiff, Nat.reduceBEq, Nat.reduceBNe, Nat.reduceAdd, Nat.reduceLeDiff, Nat.reduceLT, Nat.reduceMul, ↓reduceIte, reduceCtorEq, g65, pf65, b65, h1]
      exact ⟨n, rfl, hi.2⟩)
  exact ⟨n, h1, h2⟩

theorem f41 {l : List Record} (hl : smR l) : ∃ n : Int, Fun G 41 [.one (.d (.sl (l.map eR)))] (.int .i64 n, []) ∧ 0 ≤ n ∧ n ≤ 4194304 := by
  obtain ⟨hl, h⟩ := hl
  obtain ⟨r, h1, n, rfl, h2⟩ := Fun.ex_of_run (G := G) (f := 41) (args := [.one (.d (.sl (l.map eR)))]) (Q := fun r => ∃ n : Int, r = (.int .i64 n, []) ∧ 0 ≤ n ∧ n ≤ 4194304) (g := g41) (pf := pf41) rfl rfl rfl rfl (by
    simp (maxSteps := 1000000) (disch := first | assumption | ((try simp only [LEN, LEN2]); omega)) only [push_cast, Int.reduceToNat, Int.reduceEq, Int.reduceNe, Int.reduceLT, Int.reduceLE, Int.reduceAdd, Int.reduceSub, Int.reduceMul, Int.reduceNeg, Nat.reduceEqDiff, Nat.reduceBEq, Nat.reduceBNe, Nat.reduceAdd, Nat.reduceLeDiff, Nat.reduceLT, Nat.reduceMul, ↓reduceIte, reduceCtorEq, g41, pf41, b41]
    refine run_loop' (fun x : Nat × Int => [(0, T.one (.d (.sl (l.map eR)))), (3, T.int .i64 x.2), (4, T.int .i64 x.1)]) (fun x => x.1 ≤ l.length ∧ 0 ≤ x.2 ∧ x.2 ≤ 4194304) (fun x => l.length - x.1) (0, l.length) rfl (by simp only; omega) (fun ⟨i, n⟩ hi => ?_)
    simp only at hi
    by_cases h1 : (i : Int) < l.length
    · have hi' : i < l.length := by omega
      obtain ⟨m, hm, hm1, hm2⟩ := f65 (h l[i] (List.getElem_mem hi')).1
      simp (maxSteps := 1000000) (disch := first | assumption | ((try simp only [LEN, LEN2]); omega)) only [push_cast, Int.reduceToNat, Int.reduceEq, Int.reduceNe, Int.reduceLT, Int.reduceLE, Int.reduceAdd, Int.reduceSub, Int.reduceMul, Int.reduceNeg, Nat.reduceEqDiff, Nat.reduceBEq, Nat.reduceBNe, Nat.reduceAdd, Nat.reduceLeDiff, Nat.reduceLT, Nat.reduceMul, ↓reduceIte, reduceCtorEq, g41, pf41, b41, h1]
      refine If.dec (fun h2 => ?_) (fun h2 => ?_)
      · simp (maxSteps := 1000000) (disch := first | assumption | ((try simp only [LEN, LEN2]); omega)) only [push_cast, Int.reduceToNat, Int.reduceEq, Int.reduceNe, Int.reduceLT, Int.reduceLE, Int.reduceAdd, Int.reduceSub, Int.reduceMul, Int.reduceNeg, Nat.reduceEqDiff, Nat.reduceBEq, Nat.reduceBNe, Nat.reduceAdd, Nat.reduceLeDiff, Nat.reduceLT, Nat.reduceMul, ↓reduceIte, reduceCtorEq, g41, pf41, b41, eR, callC_eq hm]
        exact ⟨(i + 1, n + m), rfl, by simp only; omega, by simp only; omega⟩
      · simp (maxSteps := 1000000) (disch := first | assumption | ((try simp only [LEN, LEN2]); omega)) only [push_cast, Int.reduceToNat, Int.reduceEq, Int.reduceNe, Int.reduceLT, Int.reduceLE, Int.reduceAdd, Int.reduceSub, Int.reduceMul, Int.reduceNeg, Nat.reduceEqDiff, Nat.reduceBEq, Nat.reduceBNe, Nat.reduceAdd, Nat.reduceLeDiff, Nat.reduceLT, Nat.reduceMul, ↓reduceIte, reduceCtorEq, g41, pf41, b41]
        exact ⟨n, rfl, hi.2⟩
    · simp (maxSteps := 1000000) (disch := first | assumption | ((try simp only [LEN, LEN2]); omega)) only [push_cast, Int.reduceToNat, Int.reduceEq, Int.reduceNe, Int.reduceLT, Int.reduceLE, Int.reduceAdd, Int.reduceSub, Int.reduceMul, Int.reduceNeg, Nat.reduceEqDiff, Nat.reduceBEq, Nat.reduceBNe, Nat.reduceAdd, Nat.reduceLeDiff, Nat.reduceLT, Nat.reduceMul, ↓reduceIte, reduceCtorEq, g41, pf41, b41, h1]
      exact ⟨n, rfl, hi.2⟩)
  exact ⟨n, h1, h2⟩

theorem f20 {R : List Record} {S : List (List UInt8)} {N : List Int} {L : List (List (List UInt8))} (hR : smR R) (hS : smS S) (hN : N.length ≤ 1048576) (hL : L.length ≤ 1048576 ∧ ∀ l ∈ L, smS l) :
    ∃ b : Bool, Fun G 20 [.vs true [.d (.sl (R.map eR)), .d (.sl (S.map eS)), .d (.sl (N.map eN)), .d (.sl (L.map fun l => [.sl (l.map eS)]))]] (.bool b, []) := by
  obtain ⟨a, ha, ha1, ha2⟩ := f41 hR
  obtain ⟨c, hc, hc1, hc2⟩ := f42 hS.1 hS.2
  obtain ⟨r, h1, b, rfl⟩ := Fun.ex_of_run (G := G) (f := 20) (args := [.vs true [.d (.sl (R.map eR)), .d (.sl (S.map eS)), .d (.sl (N.map eN)), .d (.sl (L.map fun l => [.sl (l.map eS)]))]]) (Q := fun r => ∃ b : Bool, r = (.bool b, [])) (g := g20) (pf := pf20) rfl rfl rfl rfl (by
    simp (maxSteps := 1000000) (disch := first | assumption | ((try simp only [LEN, LEN2]); omega)) only [push_cast, Int.reduceToNat, Int.reduceEq, Int.reduceNe, Int.reduceLT, Int.reduceLE, Int.reduceAdd, Int.reduceSub, Int.reduceMul, Int.reduceNeg, Nat.reduceEqDiff, Nat.reduceBEq, Nat.reduceBNe, Nat.reduceAdd, Nat.reduceLeDiff, Nat.reduceLT, Nat.reduceMul, ↓reduceIte, reduceCtorEq, g20, pf20, b20, callC_eq ha, callC_eq hc]
    refine run_loop' (fun x : Nat × Int => [(1, T.one (.box [.d (.sl (R.map eR)), .d (.sl (S.map eS)), .d (.sl (N.map eN)), .d (.sl (L.map fun l => [.sl (l.map eS)]))])), (3, T.int .i64 x.2), (4, T.int .i64 x.1)]) (fun x => x.1 ≤ L.length ∧ 0 ≤ x.2 ∧ x.2 ≤ 1099511627776) (fun x => L.length - x.1) (0, a * 8 + c + N.length + L.length) rfl (by simp only; omega) (fun ⟨i, n⟩ hi => ?_)
    simp only at hi
    by_cases h1 : (i : Int) < L.length
    · have hi' : i < L.length := by omega
      have hs := hL.2 L[i] (List.getElem_mem hi')
      obtain ⟨m, hm, hm1, hm2⟩ := f42 hs.1 hs.2
      simp (maxSteps := 1000000) (disch := first | assumption | ((try simp only [LEN, LEN2]); omega)) only [push_cast, Int.reduceToNat, Int.reduceEq, Int.reduceNe, Int.reduceLT, Int.reduceLE, Int.reduceAdd, Int.reduceSub, Int.reduceMul, Int.reduceNeg, Nat.reduceEqDiff, Nat.reduceBEq, Nat.reduceBNe, Nat.reduceAdd, Nat.reduceLeDiff, Nat.reduceLT, Nat.reduceMul, ↓reduceIte, reduceCtorEq, g20, pf20, b20, h1]
      refine If.dec (fun h2 => ?_) (fun h2 => ?_)
      · simp (maxSteps := 1000000) (disch := first | assumption | ((try simp only [LEN, LEN2]); omega)) only [push_cast, Int.reduceToNat, Int.reduceEq, Int.reduceNe, Int.reduceLT, Int.reduceLE, Int.reduceAdd, Int.reduceSub, Int.reduceMul, Int.reduceNeg, Nat.reduceEqDiff, Nat.reduceBEq, Nat.reduceBNe, Nat.reduceAdd, Nat.reduceLeDiff, Nat.reduceLT, Nat.reduceMul, ↓reduceIte, reduceCtorEq, g20, pf20, b20, callC_eq hm]
        exact ⟨(i + 1, n + m), rfl, by simp only; omega, by simp only; omega⟩
      · simp (maxSteps := 1000000) (disch := first | assumption | ((try simp only [LEN, LEN2]); omega)) only [push_cast, Int.reduceToNat, Int.reduceEq, Int.reduceNe, Int.reduceLT, Int.reduceLE, Int.reduceAdd, Int.reduceSub, Int.reduceMul, Int.reduceNeg, Nat.reduceEqDiff, Nat.reduceBEq, Nat.reduceBNe, Nat.reduceAdd, Nat.reduceLeDiff, Nat.reduceLT, Nat.reduceMul, ↓reduceIte, reduceCtorEq, g20, pf20, b20]
        exact ⟨_, rfl⟩
    · simp (maxSteps := 1000000) (disch := first | assumption | ((try simp only [LEN, LEN2]); omega)) only [push_cast, Int.reduceToNat, Int.reduceEq, Int.reduceNe, Int.reduceLT, Int.reduceLE, Int.reduceAdd, Int.reduceSub, Int.reduceMul, Int.reduceNeg, Nat.reduceEqDiff, Nat.reduceBEq, Nat.reduceBNe, Nat.reduceAdd, Nat.reduceLeDiff, Nat.reduceLT, Nat.reduceMul, ↓reduceIte, reduceCtorEq, g20, pf20, b20, h1]
      exact ⟨_, rfl⟩)
  exact ⟨b, h1⟩

set_option maxHeartbeats 2000000 in
theorem f18 {a b : List Record} (ha : a.length ≤ 1000000000) (hb : b.length ≤ 1000000000) (ha' : ∀ r ∈ a, r.Writes.length ≤ 1000000000) (hb' : ∀ r ∈ b, r.Writes.length ≤ 1000000000) : Fun G 18 [.one (.d (.sl (a.map eR))), .one (.d (.sl (b.map eR)))] (.bool (decide (a = b)), []) := by
  refine Fun.of_run (g := g18) (pf := pf18) rfl rfl rfl rfl ?_
  simp (maxSteps := 1000000) (disch := first | assumption | ((try simp only [LEN, LEN2]); omega)) only [push_cast, Int.reduceToNat, Int.reduceEq, Int.reduceNe, Int.reduceLT, Int.reduceLE, Int.reduceAdd, Int.reduceSub, Int.reduceMul, Int.reduceNeg, Nat.reduceEqDiff, Nat.reduceBEq, Nat.reduceBNe, Nat.reduceAdd, Nat.reduceLeDiff, Nat.reduceLT, Nat.reduceMul, ↓reduceIte, reduceCtorEq, g18, pf18, b18]
  refine If.dec (fun h => ?_) (fun h => ?_)
  · have : a ≠ b := fun e => h (by rw [e])
    simp (maxSteps := 1000000) (disch := first | assumption | ((try simp only [LEN, LEN2]); omega)) only [push_cast, Int.reduceToNat, Int.reduceEq, Int.reduceNe, Int.reduceLT, Int.reduceLE, Int.reduceAdd, Int.reduceSub, Int.reduceMul, Int.reduceNeg, Nat.reduceEqDiff, Nat.reduceBEq, Nat.reduceBNe, Nat.reduceAdd, Nat.reduceLeDiff, Nat.reduceLT, Nat.reduceMul, ↓reduceIte, reduceCtorEq, g18, pf18, b18]
    simp [this]
  simp (maxSteps := 1000000) (disch := first | assumption | ((try simp only [LEN, LEN2]); omega)) only [push_cast, Int.reduceToNat, Int.reduceEq, Int.reduceNe, Int.reduceLT, Int.reduceLE, Int.reduceAdd, Int.reduceSub, Int.reduceMul, Int.reduceNeg, Nat.reduceEqDiff, Nat.reduceBEq, Nat.reduceBNe, Nat.reduceAdd, Nat.reduceLeDiff, Nat.reduceLT, Nat.reduceMul, ↓reduceIte, reduceCtorEq, g18, pf18, b18]
  have hl : a.length = b.length := by omega
  refine run_loop' (fun i : Nat => [(0, T.one (.d (.sl (a.map eR)))), (1, T.one (.d (.sl (b.map eR)))), (5, T.int .i64 i)]) (fun i => i ≤ a.length ∧ a.take i = b.take i) (fun i => a.length - i) 0 rfl ⟨Nat.zero_le _, by simp⟩ (fun i hi => ?_)
  obtain ⟨hi, ht⟩ := hi
  simp (maxSteps := 1000000) (disch := first | assumption | ((try simp only [LEN, LEN2]); omega)) only [push_cast, Int.reduceToNat, Int.reduceEq, Int.reduceNe, Int.reduceLT, Int.reduceLE, Int.reduceAdd, Int.reduceSub, Int.reduceMul, Int.reduceNeg, Nat.reduceEqDiff, Nat.reduceBEq, Nat.reduceBNe, Nat.reduceAdd, Nat.reduceLeDiff, Nat.reduceLT, Nat.reduceMul, ↓reduceIte, reduceCtorEq, g18, pf18, b18]
  refine If.dec (fun h => ?_) (fun h => ?_)
  · replace h : i < a.length := by omega
    have h' : i < b.length := by omega
    have h1 := ha' a[i] (List.getElem_mem h)
    have h2 := hb' b[i] (List.getElem_mem h')
    by_cases he : a[i].Commit = b[i].Commit ∧ a[i].Writes = b[i].Writes
    · simp (maxSteps := 1000000) (disch := first | assumption | ((try simp only [LEN, LEN2]); omega)) only [push_cast, Int.reduceToNat, Int.reduceEq, Int.reduceNe, Int.reduceLT, Int.reduceLE, Int.reduceAdd, Int.reduceSub, Int.reduceMul, Int.reduceNeg, Nat.reduceEqDiff, Nat.reduceBEq, Nat.reduceBNe, Nat.reduceAdd, Nat.reduceLeDiff, Nat.reduceLT, Nat.reduceMul, ↓reduceIte, reduceCtorEq, g18, pf18, b18, eR, he]
      refine ⟨i + 1, rfl, ⟨by omega, ?_⟩, by omega⟩
      rw [List.take_succ_eq_append_getElem h, List.take_succ_eq_append_getElem h', ht, show a[i] = b[i] by cases hx : a[i]; cases hy : b[i]; rw [hx, hy] at he; simpa using he]
    · have hne : a ≠ b := fun e => he (by subst e; exact ⟨rfl, rfl⟩)
      simp (maxSteps := 1000000) (disch := first | assumption | ((try simp only [LEN, LEN2]); omega)) only [push_cast, Int.reduceToNat, Int.reduceEq, Int.reduceNe, Int.reduceLT, Int.reduceLE, Int.reduceAdd, Int.reduceSub, Int.reduceMul, Int.reduceNeg, Nat.reduceEqDiff, Nat.reduceBEq, Nat.reduceBNe, Nat.reduceAdd, Nat.reduceLeDiff, Nat.reduceLT, Nat.reduceMul, ↓reduceIte, reduceCtorEq, g18, pf18, b18, eR, he]
      simp [hne]
  · obtain rfl : i = a.length := by omega
    have : a = b := by rw [List.take_length] at ht; rw [ht, hl, List.take_length]
    simp (maxSteps := 1000000) (disch := first | assumption | ((try simp only [LEN, LEN2]); omega)) only [push_cast, Int.reduceToNat, Int.reduceEq, Int.reduceNe, Int.reduceLT, Int.reduceLE, Int.reduceAdd, Int.reduceSub, Int.reduceMul, Int.reduceNeg, Nat.reduceEqDiff, Nat.reduceBEq, Nat.reduceBNe, Nat.reduceAdd, Nat.reduceLeDiff, Nat.reduceLT, Nat.reduceMul, ↓reduceIte, reduceCtorEq, g18, pf18, b18]
    simp [this]
theorem f18c {a b : List Record} (ha : a.length ≤ 1000000000) (hb : b.length ≤ 1000000000) (ha' : ∀ r ∈ a, r.Writes.length ≤ 1000000000) (hb' : ∀ r ∈ b, r.Writes.length ≤ 1000000000) {g : VG} {F : Fn} {lk : Bool} {e : Env} {dst : Option Nat} {ops : List Ins} {keep : Option (List Nat)} {K : List Fr} : CallC G g F 18 [.one (.d (.sl (a.map eR))), .one (.d (.sl (b.map eR)))] lk e dst ops keep K = ThenL G g F (if lk && !(T.noSl (.bool (decide (a = b)))) then none else e.put g.un dst (.bool (decide (a = b)))) ops keep K := callC_eq (f18 ha hb ha' hb')
attribute [push_cast] f18c
end Go.Mir.Try

/- Walks: bytes, records. -/
set_option linter.unusedVariables false
set_option linter.unusedSimpArgs false
set_option maxRecDepth 100000
namespace Go.Mir.Try
open Go.Proofs Go.Mir.Q

set_option maxHeartbeats 2000000 in
theorem f61 {b : List UInt8} {n : Int} (hb : b.length ≤ 1000000000) : Fun G 61 [.one (.own 5 (b.map oB)), .int .i64 n] (.one (.own 5 ((b ++ be 4 n).map oB)), []) := by
  refine Fun.of_run (g := g61) (pf := pf61) rfl rfl rfl rfl ?_
  simp (maxSteps := 1000000) (disch := first | assumption | ((try simp only [LEN, LEN2]); omega)) only [push_cast, Int.reduceToNat, Int.reduceEq, Int.reduceNe, Int.reduceLT, Int.reduceLE, Int.reduceAdd, Int.reduceSub, Int.reduceMul, Int.reduceNeg, Nat.reduceEqDiff, Nat.reduceBEq, Nat.reduceBNe, Nat.reduceAdd, Nat.reduceLeDiff, Nat.reduceLT, Nat.reduceMul, ↓reduceIte, reduceCtorEq, g61, pf61, b61]
  simp only [be4, List.map_append, List.map_cons, List.map_nil, oB_byt]
theorem f61t {b : List UInt8} {n : Int} (hb : b.length ≤ 1000000000) {g : VG} {F : Fn} {lk : Bool} {ags : List Arg} {e0 e1 : Env} {dst : Option Nat} {ops : List Ins} {keep : Option (List Nat)} {K : List Fr} : CallT G g F 61 [.one (.own 5 (b.map oB)), .int .i64 n] lk ags e0 e1 dst ops keep K = RetT G g F (.one (.own 5 ((b ++ be 4 n).map oB))) [] lk ags e0 e1 dst ops keep K := callT_eq (f61 hb)
attribute [push_cast] f61t



theorem f74 {l : List (Write)} {f : FuncId} {caps : List T} {p : (Write) → Bool} (hl : l.length ≤ 1000000000) (hpm : G.pm f = [.ro] ∨ G.pm f = [.ro, .ro] ∨ G.pm f = [.ro, .ro, .ro] ∨ G.pm f = [.ro, .ro, .ro, .ro]) (hcap : capsData caps = true) (hf : ∀ w ∈ l, Fun G f (.vs true (oW w) :: caps) (.bool (p w), [])) :
    Fun G 74 [.one (.d (.sl (l.map eW))), .fn f caps] (.int .i64 (idx p l), []) := by
  refine Fun.of_run (g := g74) (pf := pf74) rfl rfl rfl rfl ?_
  have hcap2 := capsRo_data (caps := caps) hcap
  have hcap3 := rootsL_data (caps := caps) hcap
  simp (maxSteps := 1000000) (disch := first | assumption | ((try simp only [LEN, LEN2]); omega)) only [push_cast, Int.reduceToNat, Int.reduceEq, Int.reduceNe, Int.reduceLT, Int.reduceLE, Int.reduceAdd, Int.reduceSub, Int.reduceMul, Int.reduceNeg, Nat.reduceEqDiff, Nat.reduceBEq, Nat.reduceBNe, Nat.reduceAdd, Nat.reduceLeDiff, Nat.reduceLT, Nat.reduceMul, ↓reduceIte, reduceCtorEq, g74, pf74, b74, hcap2, hcap3, List.all_nil]
  refine run_loop' (fun i : Nat => [(0, T.one (.d (.sl (l.map eW)))), (1, T.fn f caps), (7, T.int .i64 l.length), (8, T.int .i64 i)]) (fun i => i ≤ l.length ∧ ∀ x ∈ l.take i, p x = false) (fun i => l.length - i) 0 rfl ⟨Nat.zero_le _, by simp⟩ (fun i hi => ?_)
  obtain ⟨hi, ht⟩ := hi
  simp (maxSteps := 1000000) (disch := first | assumption | ((try simp only [LEN, LEN2]); omega)) only [push_cast, Int.reduceToNat, Int.reduceEq, Int.reduceNe, Int.reduceLT, Int.reduceLE, Int.reduceAdd, Int.reduceSub, Int.reduceMul, Int.reduceNeg, Nat.reduceEqDiff, Nat.reduceBEq, Nat.reduceBNe, Nat.reduceAdd, Nat.reduceLeDiff, Nat.reduceLT, Nat.reduceMul, ↓reduceIte, reduceCtorEq, g74, pf74, b74, hcap2, hcap3, List.all_nil]
  refine If.dec (fun h => ?_) (fun h => ?_)
  · replace h : i < l.length := by omega
    have h2 := hf l[i] (List.getElem_mem h)
    try simp only [oW] at h2
    by_cases hp : p l[i] = true
    · rcases hpm with hpm | hpm | hpm | hpm <;> simp (maxSteps := 1000000) (disch := first | assumption | ((try simp only [LEN, LEN2]); omega)) only [push_cast, Int.reduceToNat, Int.reduceEq, Int.reduceNe, Int.reduceLT, Int.reduceLE, Int.reduceAdd, Int.reduceSub, Int.reduceMul, Int.reduceNeg, Nat.reduceEqDiff, Nat.reduceBEq, Nat.reduceBNe, Nat.reduceAdd, Nat.reduceLeDiff, Nat.reduceLT, Nat.reduceMul, ↓reduceIte, reduceCtorEq, g74, pf74, b74, hcap2, hcap3, List.all_nil, hpm, eW, callT_eq h2, hp] <;> rw [idx_some h ht hp]
    · rw [Bool.not_eq_true] at hp
      rcases hpm with hpm | hpm | hpm | hpm <;> simp (maxSteps := 1000000) (disch := first | assumption | ((try simp only [LEN, LEN2]); omega)) only [push_cast, Int.reduceToNat, Int.reduceEq, Int.reduceNe, Int.reduceLT, Int.reduceLE, Int.reduceAdd, Int.reduceSub, Int.reduceMul, Int.reduceNeg, Nat.reduceEqDiff, Nat.reduceBEq, Nat.reduceBNe, Nat.reduceAdd, Nat.reduceLeDiff, Nat.reduceLT, Nat.reduceMul, ↓reduceIte, reduceCtorEq, g74, pf74, b74, hcap2, hcap3, List.all_nil, hpm, eW, callT_eq h2, hp]
      all_goals
        refine ⟨i + 1, rfl, ⟨by omega, fun x hx => ?_⟩, by omega⟩
        rw [List.take_succ_eq_append_getElem h, List.mem_append, List.mem_singleton] at hx
        rcases hx with hx | rfl
        · exact ht x hx
        · exact hp
  · obtain rfl : i = l.length := by omega
    simp (maxSteps := 1000000) (disch := first | assumption | ((try simp only [LEN, LEN2]); omega)) only [push_cast, Int.reduceToNat, Int.reduceEq, Int.reduceNe, Int.reduceLT, Int.reduceLE, Int.reduceAdd, Int.reduceSub, Int.reduceMul, Int.reduceNeg, Nat.reduceEqDiff, Nat.reduceBEq, Nat.reduceBNe, Nat.reduceAdd, Nat.reduceLeDiff, Nat.reduceLT, Nat.reduceMul, ↓reduceIte, reduceCtorEq, g74, pf74, b74, hcap2, hcap3, List.all_nil]
    rw [idx_none (fun x hx => ht x (by rw [List.take_length]; exact hx))]
theorem f57 {l : List (Write)} {f : FuncId} {caps : List T} {p : (Write) → Bool} (hl : l.length ≤ 1000000000) (hpm : G.pm f = [.ro] ∨ G.pm f = [.ro, .ro] ∨ G.pm f = [.ro, .ro, .ro] ∨ G.pm f = [.ro, .ro, .ro, .ro]) (hcap : capsData caps = true) (hf : ∀ w ∈ l, Fun G f (.vs true (oW w) :: caps) (.bool (p w), [])) :
    Fun G 57 [.one (.d (.sl (l.map eW))), .fn f caps] (.bool (l.any p), []) := by
  refine Fun.of_run (g := g57) (pf := pf57) rfl rfl rfl rfl ?_
  have hcap2 := capsRo_data (caps := caps) hcap
  have hcap3 := rootsL_data (caps := caps) hcap
  simp (maxSteps := 1000000) (disch := first | assumption | ((try simp only [LEN, LEN2]); omega)) only [push_cast, Int.reduceToNat, Int.reduceEq, Int.reduceNe, Int.reduceLT, Int.reduceLE, Int.reduceAdd, Int.reduceSub, Int.reduceMul, Int.reduceNeg, Nat.reduceEqDiff, Nat.reduceBEq, Nat.reduceBNe, Nat.reduceAdd, Nat.reduceLeDiff, Nat.reduceLT, Nat.reduceMul, ↓reduceIte, reduceCtorEq, g57, pf57, b57, hcap2, hcap3, List.all_nil, callC_eq (f74 hl hpm hcap hf)]
  rw [← idx_nonneg]

set_option maxHeartbeats 2000000 in
theorem f37 {n : Int} {l : List Write} (hl : l.length ≤ 1000000000) : Fun G 37 [.vs true [.d (.sc (.int .i64 n)), .d (.sl (l.map eW))]] (.bool (okR ⟨n, l⟩), []) := by
  refine Fun.of_run (g := g37) (pf := pf37) rfl rfl rfl rfl ?_
  have h := f57 (l := l) (f := 58) (caps := []) (p := fun w => !okW w) hl (.inl rfl) rfl (fun w _ => f58)
  by_cases h1 : 1 ≤ n
  · by_cases h2 : n ≤ 1073741824
    · by_cases h3 : (l.length : Int) ≤ 64
      · simp (maxSteps := 1000000) (disch := first | assumption | ((try simp only [LEN, LEN2]); omega)) only [push_cast, Int.reduceToNat, Int.reduceEq, Int.reduceNe, Int.reduceLT, Int.reduceLE, Int.reduceAdd, Int.reduceSub, Int.reduceMul, Int.reduceNeg, Nat.reduceEqDiff, Nat.reduceBEq, Nat.reduceBNe, Nat.reduceAdd, Nat.reduceLeDiff, Nat.reduceLT, Nat.reduceMul, ↓reduceIte, reduceCtorEq, g37, pf37, b37, h1, h2, h3, callC_eq h]
        simp only [okR]
        have : l.length ≤ 64 := by omega
        simp [h1, h2, this, List.not_any_eq_all_not]
      · simp (maxSteps := 1000000) (disch := first | assumption | ((try simp only [LEN, LEN2]); omega)) only [push_cast, Int.reduceToNat, Int.reduceEq, Int.reduceNe, Int.reduceLT, Int.reduceLE, Int.reduceAdd, Int.reduceSub, Int.reduceMul, Int.reduceNeg, Nat.reduceEqDiff, Nat.reduceBEq, Nat.reduceBNe, Nat.reduceAdd, Nat.reduceLeDiff, Nat.reduceLT, Nat.reduceMul, ↓reduceIte, reduceCtorEq, g37, pf37, b37, h1, h2, h3]
        simp [okR, show ¬ l.length ≤ 64 by omega]
    · simp (maxSteps := 1000000) (disch := first | assumption | ((try simp only [LEN, LEN2]); omega)) only [push_cast, Int.reduceToNat, Int.reduceEq, Int.reduceNe, Int.reduceLT, Int.reduceLE, Int.reduceAdd, Int.reduceSub, Int.reduceMul, Int.reduceNeg, Nat.reduceEqDiff, Nat.reduceBEq, Nat.reduceBNe, Nat.reduceAdd, Nat.reduceLeDiff, Nat.reduceLT, Nat.reduceMul, ↓reduceIte, reduceCtorEq, g37, pf37, b37, h1, h2]
      simp [okR, h2]
  · simp (maxSteps := 1000000) (disch := first | assumption | ((try simp only [LEN, LEN2]); omega)) only [push_cast, Int.reduceToNat, Int.reduceEq, Int.reduceNe, Int.reduceLT, Int.reduceLE, Int.reduceAdd, Int.reduceSub, Int.reduceMul, Int.reduceNeg, Nat.reduceEqDiff, Nat.reduceBEq, Nat.reduceBNe, Nat.reduceAdd, Nat.reduceLeDiff, Nat.reduceLT, Nat.reduceMul, ↓reduceIte, reduceCtorEq, g37, pf37, b37, h1]
    simp [okR, h1]
theorem f37c {n : Int} {l : List Write} (hl : l.length ≤ 1000000000) {g : VG} {F : Fn} {lk : Bool} {e : Env} {dst : Option Nat} {ops : List Ins} {keep : Option (List Nat)} {K : List Fr} : CallC G g F 37 [.vs true [.d (.sc (.int .i64 n)), .d (.sl (l.map eW))]] lk e dst ops keep K = ThenL G g F (if lk && !(T.noSl (.bool (okR ⟨n, l⟩))) then none else e.put g.un dst (.bool (okR ⟨n, l⟩))) ops keep K := callC_eq (f37 hl)
attribute [push_cast] f37c

set_option maxHeartbeats 2000000 in
theorem f36 {n : Int} {l : List Write} (hs : smW l) : Fun G 36 [.vs true [.d (.sc (.int .i64 n)), .d (.sl (l.map eW))]] (.bool (okR ⟨n, l⟩), []) := by
  refine Fun.of_run (g := g36) (pf := pf36) rfl rfl rfl rfl ?_
  obtain ⟨hl, hs⟩ := hs
  by_cases h1 : 1 ≤ n ∧ n ≤ 1073741824
  · by_cases h3 : 64 < (l.length : Int)
    · simp (maxSteps := 1000000) (disch := first | assumption | ((try simp only [LEN, LEN2]); omega)) only [push_cast, Int.reduceToNat, Int.reduceEq, Int.reduceNe, Int.reduceLT, Int.reduceLE, Int.reduceAdd, Int.reduceSub, Int.reduceMul, Int.reduceNeg, Nat.reduceEqDiff, Nat.reduceBEq, Nat.reduceBNe, Nat.reduceAdd, Nat.reduceLeDiff, Nat.reduceLT, Nat.reduceMul, ↓reduceIte, reduceCtorEq, g36, pf36, b36, h1, h3]
      simp [okR, show ¬ l.length ≤ 64 by omega]
    simp (maxSteps := 1000000) (disch := first | assumption | ((try simp only [LEN, LEN2]); omega)) only [push_cast, Int.reduceToNat, Int.reduceEq, Int.reduceNe, Int.reduceLT, Int.reduceLE, Int.reduceAdd, Int.reduceSub, Int.reduceMul, Int.reduceNeg, Nat.reduceEqDiff, Nat.reduceBEq, Nat.reduceBNe, Nat.reduceAdd, Nat.reduceLeDiff, Nat.reduceLT, Nat.reduceMul, ↓reduceIte, reduceCtorEq, g36, pf36, b36, h1, h3]
    refine run_loop' (fun i : Nat => [(1, T.one (.box [.d (.sc (.int .i64 n)), .d (.sl (l.map eW))])), (3, T.int .i64 i)]) (fun i => i ≤ l.length ∧ (l.take i).all okW = true) (fun i => l.length - i) 0 rfl ⟨Nat.zero_le _, by simp⟩ (fun i hi => ?_)
    obtain ⟨hi, ht⟩ := hi
    simp (maxSteps := 1000000) (disch := first | assumption | ((try simp only [LEN, LEN2]); omega)) only [push_cast, Int.reduceToNat, Int.reduceEq, Int.reduceNe, Int.reduceLT, Int.reduceLE, Int.reduceAdd, Int.reduceSub, Int.reduceMul, Int.reduceNeg, Nat.reduceEqDiff, Nat.reduceBEq, Nat.reduceBNe, Nat.reduceAdd, Nat.reduceLeDiff, Nat.reduceLT, Nat.reduceMul, ↓reduceIte, reduceCtorEq, g36, pf36, b36]
    refine If.dec (fun h => ?_) (fun h => ?_)
    · replace h : i < l.length := by omega
      have hk := (hs l[i] (List.getElem_mem h)).1
      simp (maxSteps := 1000000) (disch := first | assumption | ((try simp only [LEN, LEN2]); omega)) only [push_cast, Int.reduceToNat, Int.reduceEq, Int.reduceNe, Int.reduceLT, Int.reduceLE, Int.reduceAdd, Int.reduceSub, Int.reduceMul, Int.reduceNeg, Nat.reduceEqDiff, Nat.reduceBEq, Nat.reduceBNe, Nat.reduceAdd, Nat.reduceLeDiff, Nat.reduceLT, Nat.reduceMul, ↓reduceIte, reduceCtorEq, g36, pf36, b36, eW]
      by_cases hp : okW l[i] = true
      · simp (maxSteps := 1000000) (disch := first | assumption | ((try simp only [LEN, LEN2]); omega)) only [push_cast, Int.reduceToNat, Int.reduceEq, Int.reduceNe, Int.reduceLT, Int.reduceLE, Int.reduceAdd, Int.reduceSub, Int.reduceMul, Int.reduceNeg, Nat.reduceEqDiff, Nat.reduceBEq, Nat.reduceBNe, Nat.reduceAdd, Nat.reduceLeDiff, Nat.reduceLT, Nat.reduceMul, ↓reduceIte, reduceCtorEq, g36, pf36, b36, hp]
        refine ⟨i + 1, rfl, ⟨by omega, ?_⟩, by omega⟩
        rw [List.take_succ_eq_append_getElem h, List.all_append, ht, List.all_cons, hp]; rfl
      · have : okR ⟨n, l⟩ = false := by
          simp only [okR, Bool.and_eq_false_iff]
          exact .inr (by rw [← Bool.not_eq_true, List.all_eq_true]; exact fun hh => hp (hh _ (List.getElem_mem h)))
        rw [Bool.not_eq_true] at hp
        simp (maxSteps := 1000000) (disch := first | assumption | ((try simp only [LEN, LEN2]); omega)) only [push_cast, Int.reduceToNat, Int.reduceEq, Int.reduceNe, Int.reduceLT, Int.reduceLE, Int.reduceAdd, Int.reduceSub, Int.reduceMul, Int.reduceNeg, Nat.reduceEqDiff, Nat.reduceBEq, Nat.reduceBNe, Nat.reduceAdd, Nat.reduceLeDiff, Nat.reduceLT, Nat.reduceMul, ↓reduceIte, reduceCtorEq, g36, pf36, b36, hp, this]
    · obtain rfl : i = l.length := by omega
      rw [List.take_length] at ht
      have : okR ⟨n, l⟩ = true := by
        simp only [okR, ht, Bool.and_true, decide_eq_true_eq]; omega
      simp (maxSteps := 1000000) (disch := first | assumption | ((try simp only [LEN, LEN2]); omega)) only [push_cast, Int.reduceToNat, Int.reduceEq, Int.reduceNe, Int.reduceLT, Int.reduceLE, Int.reduceAdd, Int.reduceSub, Int.reduceMul, Int.reduceNeg, Nat.reduceEqDiff, Nat.reduceBEq, Nat.reduceBNe, Nat.reduceAdd, Nat.reduceLeDiff, Nat.reduceLT, Nat.reduceMul, ↓reduceIte, reduceCtorEq, g36, pf36, b36]
      rw [this]
  · have : okR ⟨n, l⟩ = false := by
      simp only [okR, Bool.and_eq_false_iff, decide_eq_false_iff_not]; left; omega
    simp (maxSteps := 1000000) (disch := first | assumption | ((try simp only [LEN, LEN2]); omega)) only [push_cast, Int.reduceToNat, Int.reduceEq, Int.reduceNe, Int.reduceLT, Int.reduceLE, Int.reduceAdd, Int.reduceSub, Int.reduceMul, Int.reduceNeg, Nat.reduceEqDiff, Nat.reduceBEq, Nat.reduceBNe, Nat.reduceAdd, Nat.reduceLeDiff, Nat.reduceLT, Nat.reduceMul, ↓reduceIte, reduceCtorEq, g36, pf36, b36, h1, this]
theorem f36c {n : Int} {l : List Write} (hs : smW l) {g : VG} {F : Fn} {lk : Bool} {e : Env} {dst : Option Nat} {ops : List Ins} {keep : Option (List Nat)} {K : List Fr} : CallC G g F 36 [.vs true [.d (.sc (.int .i64 n)), .d (.sl (l.map eW))]] lk e dst ops keep K = ThenL G g F (if lk && !(T.noSl (.bool (okR ⟨n, l⟩))) then none else e.put g.un dst (.bool (okR ⟨n, l⟩))) ops keep K := callC_eq (f36 hs)
attribute [push_cast] f36c


set_option maxHeartbeats 2000000 in
theorem f60 {n : Int} {l : List Write} (hs : smW l) (h64 : l.length ≤ 64) : Fun G 60 [.vs true [.d (.sc (.int .i64 n)), .d (.sl (l.map eW))]] (.str (bs (spelt ⟨n, l⟩)), []) := by
  refine Fun.of_run (g := g60) (pf := pf60) rfl rfl rfl rfl ?_
  obtain ⟨hl, hs⟩ := hs
  have f0 := @f61t [] n (by simp)
  simp only [List.map_nil] at f0
  simp (maxSteps := 1000000) (disch := first | assumption | ((try simp only [LEN, LEN2]); omega)) only [push_cast, Int.reduceToNat, Int.reduceEq, Int.reduceNe, Int.reduceLT, Int.reduceLE, Int.reduceAdd, Int.reduceSub, Int.reduceMul, Int.reduceNeg, Nat.reduceEqDiff, Nat.reduceBEq, Nat.reduceBNe, Nat.reduceAdd, Nat.reduceLeDiff, Nat.reduceLT, Nat.reduceMul, ↓reduceIte, reduceCtorEq, g60, pf60, b60, f0]
  refine run_loop' (fun i : Nat => [(1, T.one (.box [.d (.sc (.int .i64 n)), .d (.sl (l.map eW))])), (3, T.one (.own 5 ((be 4 n ++ be 4 l.length ++ wrs (l.take i)).map oB))), (14, T.one (.d (.sl (l.map eW)))), (15, T.int .i64 l.length), (16, T.int .i64 i)]) (fun i => i ≤ l.length) (fun i => l.length - i) 0 ?_ (Nat.zero_le _) (fun i hi => ?_)
  · simp [wrs]
  have hw := wrs_len (l.take i) fun w hw => hs w (List.mem_of_mem_take hw)
  rw [List.length_take] at hw
  simp (maxSteps := 1000000) (disch := first | assumption | ((try simp only [LEN, LEN2]); omega)) only [push_cast, Int.reduceToNat, Int.reduceEq, Int.reduceNe, Int.reduceLT, Int.reduceLE, Int.reduceAdd, Int.reduceSub, Int.reduceMul, Int.reduceNeg, Nat.reduceEqDiff, Nat.reduceBEq, Nat.reduceBNe, Nat.reduceAdd, Nat.reduceLeDiff, Nat.reduceLT, Nat.reduceMul, ↓reduceIte, reduceCtorEq, g60, pf60, b60]
  refine If.dec (fun h => ?_) (fun h => ?_)
  · replace h : i < l.length := by omega
    have hk := hs l[i] (List.getElem_mem h)
    simp (maxSteps := 1000000) (disch := first | assumption | ((try simp only [LEN, LEN2]); omega)) only [push_cast, Int.reduceToNat, Int.reduceEq, Int.reduceNe, Int.reduceLT, Int.reduceLE, Int.reduceAdd, Int.reduceSub, Int.reduceMul, Int.reduceNeg, Nat.reduceEqDiff, Nat.reduceBEq, Nat.reduceBNe, Nat.reduceAdd, Nat.reduceLeDiff, Nat.reduceLT, Nat.reduceMul, ↓reduceIte, reduceCtorEq, g60, pf60, b60, eW]
    refine ⟨i + 1, ?_, by omega, by omega⟩
    rw [List.take_succ_eq_append_getElem h, wrs_snoc]
    have e1 : ∀ n : Int, be 1 n = [byt n] := fun n => by simp [be]
    have e2 : ∀ b : Bool, (if b then (1 : Int) else 0) % 256 = if b then 1 else 0 := fun b => by cases b <;> rfl
    simp [wr, e1, oB_byt, e2, List.map_append]
  · obtain rfl : i = l.length := by omega
    simp (maxSteps := 1000000) (disch := first | assumption | ((try simp only [LEN, LEN2]); omega)) only [push_cast, Int.reduceToNat, Int.reduceEq, Int.reduceNe, Int.reduceLT, Int.reduceLE, Int.reduceAdd, Int.reduceSub, Int.reduceMul, Int.reduceNeg, Nat.reduceEqDiff, Nat.reduceBEq, Nat.reduceBNe, Nat.reduceAdd, Nat.reduceLeDiff, Nat.reduceLT, Nat.reduceMul, ↓reduceIte, reduceCtorEq, g60, pf60, b60]
    simp [spelt]
theorem f60c {n : Int} {l : List Write} (hs : smW l) (h64 : l.length ≤ 64) {g : VG} {F : Fn} {lk : Bool} {e : Env} {dst : Option Nat} {ops : List Ins} {keep : Option (List Nat)} {K : List Fr} : CallC G g F 60 [.vs true [.d (.sc (.int .i64 n)), .d (.sl (l.map eW))]] lk e dst ops keep K = ThenL G g F (if lk && !(T.noSl (.str (bs (spelt ⟨n, l⟩)))) then none else e.put g.un dst (.str (bs (spelt ⟨n, l⟩)))) ops keep K := callC_eq (f60 hs h64)
attribute [push_cast] f60c


end Go.Mir.Try

/- Walks: reading bytes. -/
set_option linter.unusedVariables false
set_option linter.unusedSimpArgs false
set_option maxRecDepth 100000
namespace Go.Mir.Try
open Go.Proofs Go.Mir.Q

set_option maxHeartbeats 2000000 in
theorem f85 {s : List UInt8} {b : Bool} {n : Int} (h0 : 0 ≤ n) (hs : s.length ≤ 1000000000) : Fun G 85 [.one (.box [.d (.sc (.string (bs s))), .d (.sc (.bool b))]), .int .i64 n] (.str (bs (tk n.toNat (s, b)).1), [bR (tk n.toNat (s, b)).2]) := by
  refine Fun.of_run (g := g85) (pf := pf85) rfl rfl rfl rfl ?_
  cases b with
  | true =>
    simp (maxSteps := 1000000) (disch := first | assumption | ((try simp only [LEN, LEN2]); omega)) only [push_cast, Int.reduceToNat, Int.reduceEq, Int.reduceNe, Int.reduceLT, Int.reduceLE, Int.reduceAdd, Int.reduceSub, Int.reduceMul, Int.reduceNeg, Nat.reduceEqDiff, Nat.reduceBEq, Nat.reduceBNe, Nat.reduceAdd, Nat.reduceLeDiff, Nat.reduceLT, Nat.reduceMul, ↓reduceIte, reduceCtorEq, g85, pf85, b85]
    simp [tk]
  | false =>
    by_cases h : (s.length : Int) < n
    · simp (maxSteps := 1000000) (disch := first | assumption | ((try simp only [LEN, LEN2]); omega)) only [push_cast, Int.reduceToNat, Int.reduceEq, Int.reduceNe, Int.reduceLT, Int.reduceLE, Int.reduceAdd, Int.reduceSub, Int.reduceMul, Int.reduceNeg, Nat.reduceEqDiff, Nat.reduceBEq, Nat.reduceBNe, Nat.reduceAdd, Nat.reduceLeDiff, Nat.reduceLT, Nat.reduceMul, ↓reduceIte, reduceCtorEq, g85, pf85, b85, h]
      have : s.length < n.toNat := by omega
      simp [tk, this]
    · simp (maxSteps := 1000000) (disch := first | assumption | ((try simp only [LEN, LEN2]); omega)) only [push_cast, Int.reduceToNat, Int.reduceEq, Int.reduceNe, Int.reduceLT, Int.reduceLE, Int.reduceAdd, Int.reduceSub, Int.reduceMul, Int.reduceNeg, Nat.reduceEqDiff, Nat.reduceBEq, Nat.reduceBNe, Nat.reduceAdd, Nat.reduceLeDiff, Nat.reduceLT, Nat.reduceMul, ↓reduceIte, reduceCtorEq, g85, pf85, b85, h]
      have : ¬ s.length < n.toNat := by omega
      simp [tk, this]
theorem f85t {s : List UInt8} {b : Bool} {n : Int} (h0 : 0 ≤ n) (hs : s.length ≤ 1000000000) {g : VG} {F : Fn} {lk : Bool} {ags : List Arg} {e0 e1 : Env} {dst : Option Nat} {ops : List Ins} {keep : Option (List Nat)} {K : List Fr} : CallT G g F 85 [.one (.box [.d (.sc (.string (bs s))), .d (.sc (.bool b))]), .int .i64 n] lk ags e0 e1 dst ops keep K = RetT G g F (.str (bs (tk n.toNat (s, b)).1)) [bR (tk n.toNat (s, b)).2] lk ags e0 e1 dst ops keep K := callT_eq (f85 h0 hs)
attribute [push_cast] f85t

set_option maxHeartbeats 2000000 in
theorem f71 {s : List UInt8} {b : Bool} {n : Int} (h0 : 0 ≤ n) (h6 : n ≤ 6) (hs : s.length ≤ 1000000000) : Fun G 71 [.one (.box [.d (.sc (.string (bs s))), .d (.sc (.bool b))]), .int .i64 n] (.int .i64 (num (tk n.toNat (s, b)).1), [bR (tk n.toNat (s, b)).2]) := by
  refine Fun.of_run (g := g71) (pf := pf71) rfl rfl rfl rfl ?_
  simp (maxSteps := 1000000) (disch := first | assumption | ((try simp only [LEN, LEN2]); omega)) only [push_cast, Int.reduceToNat, Int.reduceEq, Int.reduceNe, Int.reduceLT, Int.reduceLE, Int.reduceAdd, Int.reduceSub, Int.reduceMul, Int.reduceNeg, Nat.reduceEqDiff, Nat.reduceBEq, Nat.reduceBNe, Nat.reduceAdd, Nat.reduceLeDiff, Nat.reduceLT, Nat.reduceMul, ↓reduceIte, reduceCtorEq, g71, pf71, b71]
  obtain ⟨t, ht⟩ : ∃ t, t = (tk n.toNat (s, b)).1 := ⟨_, rfl⟩
  have hl : t.length ≤ 6 := by have := (tk_len n.toNat (s, b)).1; rw [← ht] at this; omega
  rw [← ht]
  refine run_loop' (fun i : Nat => [(0, T.one (bR (tk n.toNat (s, b)).2)), (5, T.int .i64 (num (t.take i))), (11, T.one (.row (t.map oB))), (12, T.int .i64 t.length), (13, T.int .i64 i)]) (fun i => i ≤ t.length) (fun i => t.length - i) 0 rfl (Nat.zero_le _) (fun i hi => ?_)
  have hb := num_bd6 (t.take i) (by simp; omega)
  simp (maxSteps := 1000000) (disch := first | assumption | ((try simp only [LEN, LEN2]); omega)) only [push_cast, Int.reduceToNat, Int.reduceEq, Int.reduceNe, Int.reduceLT, Int.reduceLE, Int.reduceAdd, Int.reduceSub, Int.reduceMul, Int.reduceNeg, Nat.reduceEqDiff, Nat.reduceBEq, Nat.reduceBNe, Nat.reduceAdd, Nat.reduceLeDiff, Nat.reduceLT, Nat.reduceMul, ↓reduceIte, reduceCtorEq, g71, pf71, b71]
  refine If.dec (fun h => ?_) (fun h => ?_)
  · replace h : i < t.length := by omega
    have e := or_byte (a := num (t.take i)) (b := t[i].toNat) hb.1 (by omega) (by omega) (by have := t[i].toNat_lt; omega)
    simp (maxSteps := 1000000) (disch := first | assumption | ((try simp only [LEN, LEN2]); omega)) only [push_cast, Int.reduceToNat, Int.reduceEq, Int.reduceNe, Int.reduceLT, Int.reduceLE, Int.reduceAdd, Int.reduceSub, Int.reduceMul, Int.reduceNeg, Nat.reduceEqDiff, Nat.reduceBEq, Nat.reduceBNe, Nat.reduceAdd, Nat.reduceLeDiff, Nat.reduceLT, Nat.reduceMul, ↓reduceIte, reduceCtorEq, g71, pf71, b71, oB, e]
    refine ⟨i + 1, ?_, by omega, by omega⟩
    rw [List.take_succ_eq_append_getElem h, num_snoc]; rfl
  · obtain rfl : i = t.length := by omega
    simp (maxSteps := 1000000) (disch := first | assumption | ((try simp only [LEN, LEN2]); omega)) only [push_cast, Int.reduceToNat, Int.reduceEq, Int.reduceNe, Int.reduceLT, Int.reduceLE, Int.reduceAdd, Int.reduceSub, Int.reduceMul, Int.reduceNeg, Nat.reduceEqDiff, Nat.reduceBEq, Nat.reduceBNe, Nat.reduceAdd, Nat.reduceLeDiff, Nat.reduceLT, Nat.reduceMul, ↓reduceIte, reduceCtorEq, g71, pf71, b71]
    simp
theorem f71t {s : List UInt8} {b : Bool} {n : Int} (h0 : 0 ≤ n) (h6 : n ≤ 6) (hs : s.length ≤ 1000000000) {g : VG} {F : Fn} {lk : Bool} {ags : List Arg} {e0 e1 : Env} {dst : Option Nat} {ops : List Ins} {keep : Option (List Nat)} {K : List Fr} : CallT G g F 71 [.one (.box [.d (.sc (.string (bs s))), .d (.sc (.bool b))]), .int .i64 n] lk ags e0 e1 dst ops keep K = RetT G g F (.int .i64 (num (tk n.toNat (s, b)).1)) [bR (tk n.toNat (s, b)).2] lk ags e0 e1 dst ops keep K := callT_eq (f71 h0 h6 hs)
attribute [push_cast] f71t

set_option maxHeartbeats 2000000 in
theorem f72 {s : List UInt8} {b : Bool} (hs : s.length ≤ 1000000000) : Fun G 72 [.one (.box [.d (.sc (.string (bs s))), .d (.sc (.bool b))])] (.vs true (cW (rdW (s, b)).1.Table (rdW (s, b)).1.Key (rdW (s, b)).1.Value (rdW (s, b)).1.Gone), [bR (rdW (s, b)).2]) := by
  refine Fun.of_run (g := g72) (pf := pf72) rfl rfl rfl rfl ?_
  obtain ⟨⟨a1, s1, b1⟩, e1⟩ : ∃ x, tk 1 (s, b) = x := ⟨_, rfl⟩
  obtain ⟨⟨a2, s2, b2⟩, e2⟩ : ∃ x, tk 1 (s1, b1) = x := ⟨_, rfl⟩
  obtain ⟨c, ec⟩ : ∃ c, c = (b2 || decide (1 < num a2)) := ⟨_, rfl⟩
  obtain ⟨⟨a3, s3, b3⟩, e3⟩ : ∃ x, tk 1 (s2, c) = x := ⟨_, rfl⟩
  obtain ⟨⟨a4, s4, b4⟩, e4⟩ : ∃ x, tk (num a3).toNat (s3, b3) = x := ⟨_, rfl⟩
  obtain ⟨⟨a5, s5, b5⟩, e5⟩ : ∃ x, tk 1 (s4, b4) = x := ⟨_, rfl⟩
  obtain ⟨⟨a6, s6, b6⟩, e6⟩ : ∃ x, tk (num a5).toNat (s5, b5) = x := ⟨_, rfl⟩
  have hr : rdW (s, b) = (⟨num a1, a4, a6, decide (num a2 = 1)⟩, s6, b6) := by simp only [rdW, rdK, rdG, e1, e2, ← ec, e3, e4, e5, e6]
  have l1 := (tk_len 1 (s, b)).2
  have l2 := (tk_len 1 (s1, b1)).2
  have l3 := (tk_len 1 (s2, c)).2
  have l4 := (tk_len (num a3).toNat (s3, b3)).2
  have l5 := (tk_len 1 (s4, b4)).2
  have n3 := num_one 1 (by omega) (s2, c)
  have n5 := num_one 1 (by omega) (s4, b4)
  rw [e1] at l1; rw [e2] at l2; rw [e3] at l3 n3; rw [e4] at l4; rw [e5] at l5 n5
  simp only at l1 l2 l3 l4 l5 n3 n5
  obtain ⟨n3, n3'⟩ := n3
  obtain ⟨n5, n5'⟩ := n5
  rw [hr]
  cases b2 with
  | true =>
    obtain rfl : c = true := by simpa using ec
    simp (maxSteps := 1000000) (disch := first | assumption | ((try simp only [LEN, LEN2]); omega)) only [push_cast, Int.reduceToNat, Int.reduceEq, Int.reduceNe, Int.reduceLT, Int.reduceLE, Int.reduceAdd, Int.reduceSub, Int.reduceMul, Int.reduceNeg, Nat.reduceEqDiff, Nat.reduceBEq, Nat.reduceBNe, Nat.reduceAdd, Nat.reduceLeDiff, Nat.reduceLT, Nat.reduceMul, ↓reduceIte, reduceCtorEq, g72, pf72, b72, e1, e2, e3, e4, e5, e6]
  | false =>
    rw [Bool.false_or] at ec
    simp (maxSteps := 1000000) (disch := first | assumption | ((try simp only [LEN, LEN2]); omega)) only [push_cast, Int.reduceToNat, Int.reduceEq, Int.reduceNe, Int.reduceLT, Int.reduceLE, Int.reduceAdd, Int.reduceSub, Int.reduceMul, Int.reduceNeg, Nat.reduceEqDiff, Nat.reduceBEq, Nat.reduceBNe, Nat.reduceAdd, Nat.reduceLeDiff, Nat.reduceLT, Nat.reduceMul, ↓reduceIte, reduceCtorEq, g72, pf72, b72, e1, e2, ← ec, e3, e4, e5, e6]
theorem f72t {s : List UInt8} {b : Bool} (hs : s.length ≤ 1000000000) {g : VG} {F : Fn} {lk : Bool} {ags : List Arg} {e0 e1 : Env} {dst : Option Nat} {ops : List Ins} {keep : Option (List Nat)} {K : List Fr} : CallT G g F 72 [.one (.box [.d (.sc (.string (bs s))), .d (.sc (.bool b))])] lk ags e0 e1 dst ops keep K = RetT G g F (.vs true (cW (rdW (s, b)).1.Table (rdW (s, b)).1.Key (rdW (s, b)).1.Value (rdW (s, b)).1.Gone)) [bR (rdW (s, b)).2] lk ags e0 e1 dst ops keep K := callT_eq (f72 hs)
attribute [push_cast] f72t

set_option maxHeartbeats 2000000 in
theorem f53 {s : List UInt8} (hs : s.length ≤ 100000000) : Fun G 53 [.str (bs s)] (.tup [(true, [.d (.sc (.int .i64 (rc s).Commit)), .own 89 ((rc s).Writes.map oW)]), (false, [.d (.sc (.int .i64 (if (take s).isSome then 0 else 10)))])], []) := by
  refine Fun.of_run (g := g53) (pf := pf53) rfl rfl rfl rfl ?_
  obtain ⟨⟨a1, s1, b1⟩, e1⟩ : ∃ x, tk 4 (s, false) = x := ⟨_, rfl⟩
  obtain ⟨⟨a2, s2, b2⟩, e2⟩ : ∃ x, tk 4 (s1, b1) = x := ⟨_, rfl⟩
  have l1 := (tk_len 4 (s, false)).2
  have l2 := (tk_len 4 (s1, b1)).2
  rw [e1] at l1; rw [e2] at l2
  simp only at l1 l2
  obtain ⟨ws, hws⟩ : ∃ x, x = rdWs (num a2).toNat (s2, b2) := ⟨_, rfl⟩
  have hrec : rdRec s = (⟨num a1, ws.1⟩, ws.2) := by simp only [rdRec, e1, e2, ← hws]
  have hn2 : 0 ≤ num a2 ∧ num a2 < 281474976710656 := num_bd6 a2 (by have := (tk_len 4 (s1, b1)).1; rw [e2] at this; simp only at this; omega)
  simp (maxSteps := 1000000) (disch := first | assumption | ((try simp only [LEN, LEN2]); omega)) only [push_cast, Int.reduceToNat, Int.reduceEq, Int.reduceNe, Int.reduceLT, Int.reduceLE, Int.reduceAdd, Int.reduceSub, Int.reduceMul, Int.reduceNeg, Nat.reduceEqDiff, Nat.reduceBEq, Nat.reduceBNe, Nat.reduceAdd, Nat.reduceLeDiff, Nat.reduceLT, Nat.reduceMul, ↓reduceIte, reduceCtorEq, g53, pf53, b53, e1, e2]
  refine run_loop' (fun x : Nat × List Write × Rdr => [(2, T.one (.box [.d (.sc (.int .i64 0)), .own 89 []])), (4, T.one (bR x.2.2)), (5, T.one (.box [.d (.sc (.int .i64 (num a1))), .own 89 (x.2.1.map oW)])), (6, T.int .i64 x.1)])
    (fun x => x.1 < 281474976710656 ∧ (x.2.1 ++ (rdWs x.1 x.2.2).1, (rdWs x.1 x.2.2).2) = ws ∧ x.2.2.1.length ≤ s.length ∧ (x.2.2.2 = false → x.2.1.length + x.2.2.1.length ≤ s.length) ∧ x.2.1.length ≤ s.length + 1)
    (fun x => x.1) ((num a2).toNat, [], (s2, b2)) ?_ ?_ (fun ⟨n, l, s3, b3⟩ hi => ?_)
  · simp only [Int.toNat_of_nonneg hn2.1]; rfl
  · simp only [List.nil_append, hws]; simp; omega
  obtain ⟨hn, hw, hs3, hl, hl2⟩ := hi
  simp only at hn hw hs3 hl hl2
  by_cases hx : 0 < n ∧ b3 = false
  · obtain ⟨m, rfl⟩ : ∃ m, n = m + 1 := ⟨n - 1, by omega⟩
    obtain ⟨h0, rfl⟩ := hx
    have hl := hl rfl
    have h1 : (0 : Int) < (m : Int) + 1 := by omega
    have g1 := @rdW_good (s3, false)
    have g2 := rdW_len (s3, false)
    have e3 : (m : Int) + 1 - 1 = m := by omega
    simp only at g1 g2
    simp (maxSteps := 1000000) (disch := first | assumption | ((try simp only [LEN, LEN2]); omega)) only [push_cast, Int.reduceToNat, Int.reduceEq, Int.reduceNe, Int.reduceLT, Int.reduceLE, Int.reduceAdd, Int.reduceSub, Int.reduceMul, Int.reduceNeg, Nat.reduceEqDiff, Nat.reduceBEq, Nat.reduceBNe, Nat.reduceAdd, Nat.reduceLeDiff, Nat.reduceLT, Nat.reduceMul, ↓reduceIte, reduceCtorEq, g53, pf53, b53, h1, e3]
    refine ⟨(m, l ++ [(rdW (s3, false)).1], (rdW (s3, false)).2), ?_, ⟨by simp only; omega, ?_, by simp only; omega, fun hf => ?_, by simp only [List.length_append, List.length_singleton]; omega⟩, by simp only; omega⟩
    · simp only [List.map_append, List.map_cons, List.map_nil, oW]
    · rw [← hw]; simp [rdWs]
    · have := g1 hf; simp only [List.length_append, List.length_singleton]; omega
  · have hw' : ws = (l, s3, b3) := by
      rw [← hw]
      cases n with
      | zero => simp [rdWs]
      | succ n =>
        have : b3 = true := by
          cases b3 with
          | true => rfl
          | false => exact (hx ⟨by omega, rfl⟩).elim
        subst this; simp [rdWs]
    have hrec' : rdRec s = (⟨num a1, l⟩, s3, b3) := by rw [hrec, hw']
    have ex : (decide (0 < (n : Int)) = false) ∨ (decide (0 < (n : Int)) = true ∧ b3 = true) := by
      by_cases h : 0 < n
      · right
        refine ⟨by simpa using h, ?_⟩
        cases b3 with
        | true => rfl
        | false => exact (hx ⟨h, rfl⟩).elim
      · left; simp; omega
    by_cases hb : b3 = true
    · have ht : take s = none := by simp [take, hrec', hb]
      subst hb
      rcases ex with h | ⟨h, _⟩ <;> simp (maxSteps := 1000000) (disch := first | assumption | ((try simp only [LEN, LEN2]); omega)) only [push_cast, Int.reduceToNat, Int.reduceEq, Int.reduceNe, Int.reduceLT, Int.reduceLE, Int.reduceAdd, Int.reduceSub, Int.reduceMul, Int.reduceNeg, Nat.reduceEqDiff, Nat.reduceBEq, Nat.reduceBNe, Nat.reduceAdd, Nat.reduceLeDiff, Nat.reduceLT, Nat.reduceMul, ↓reduceIte, reduceCtorEq, g53, pf53, b53, h, ht, rc] <;> try rfl
    · rw [Bool.not_eq_true] at hb
      subst hb
      have h : decide (0 < (n : Int)) = false := by rcases ex with h | ⟨_, h⟩; exact h; cases h
      by_cases h3 : s3 = []
      · by_cases hr : okR ⟨num a1, l⟩ = true
        · have ht : take s = some ⟨num a1, l⟩ := by simp [take, hrec', h3, hr]
          simp (maxSteps := 1000000) (disch := first | assumption | ((try simp only [LEN, LEN2]); omega)) only [push_cast, Int.reduceToNat, Int.reduceEq, Int.reduceNe, Int.reduceLT, Int.reduceLE, Int.reduceAdd, Int.reduceSub, Int.reduceMul, Int.reduceNeg, Nat.reduceEqDiff, Nat.reduceBEq, Nat.reduceBNe, Nat.reduceAdd, Nat.reduceLeDiff, Nat.reduceLT, Nat.reduceMul, ↓reduceIte, reduceCtorEq, g53, pf53, b53, h, h3, hr, ht, rc]
          try rfl
        · rw [Bool.not_eq_true] at hr
          have ht : take s = none := by simp [take, hrec', h3, hr]
          simp (maxSteps := 1000000) (disch := first | assumption | ((try simp only [LEN, LEN2]); omega)) only [push_cast, Int.reduceToNat, Int.reduceEq, Int.reduceNe, Int.reduceLT, Int.reduceLE, Int.reduceAdd, Int.reduceSub, Int.reduceMul, Int.reduceNeg, Nat.reduceEqDiff, Nat.reduceBEq, Nat.reduceBNe, Nat.reduceAdd, Nat.reduceLeDiff, Nat.reduceLT, Nat.reduceMul, ↓reduceIte, reduceCtorEq, g53, pf53, b53, h, h3, hr, ht, rc]
          try rfl
      · have ht : take s = none := by simp [take, hrec', h3]
        simp (maxSteps := 1000000) (disch := first | assumption | ((try simp only [LEN, LEN2]); omega)) only [push_cast, Int.reduceToNat, Int.reduceEq, Int.reduceNe, Int.reduceLT, Int.reduceLE, Int.reduceAdd, Int.reduceSub, Int.reduceMul, Int.reduceNeg, Nat.reduceEqDiff, Nat.reduceBEq, Nat.reduceBNe, Nat.reduceAdd, Nat.reduceLeDiff, Nat.reduceLT, Nat.reduceMul, ↓reduceIte, reduceCtorEq, g53, pf53, b53, h, h3, ht, rc]
        try rfl
theorem f53c {s : List UInt8} (hs : s.length ≤ 100000000) {g : VG} {F : Fn} {lk : Bool} {e : Env} {dst : Option Nat} {ops : List Ins} {keep : Option (List Nat)} {K : List Fr} : CallC G g F 53 [.str (bs s)] lk e dst ops keep K = ThenL G g F (if lk && !(T.noSl (.tup [(true, [.d (.sc (.int .i64 (rc s).Commit)), .own 89 ((rc s).Writes.map oW)]), (false, [.d (.sc (.int .i64 (if (take s).isSome then 0 else 10)))])])) then none else e.put g.un dst (.tup [(true, [.d (.sc (.int .i64 (rc s).Commit)), .own 89 ((rc s).Writes.map oW)]), (false, [.d (.sc (.int .i64 (if (take s).isSome then 0 else 10)))])])) ops keep K := callC_eq (f53 hs)
attribute [push_cast] f53c
theorem f53t {s : List UInt8} (hs : s.length ≤ 100000000) {g : VG} {F : Fn} {lk : Bool} {ags : List Arg} {e0 e1 : Env} {dst : Option Nat} {ops : List Ins} {keep : Option (List Nat)} {K : List Fr} : CallT G g F 53 [.str (bs s)] lk ags e0 e1 dst ops keep K = RetT G g F (.tup [(true, [.d (.sc (.int .i64 (rc s).Commit)), .own 89 ((rc s).Writes.map oW)]), (false, [.d (.sc (.int .i64 (if (take s).isSome then 0 else 10)))])]) [] lk ags e0 e1 dst ops keep K := callT_eq (f53 hs)
attribute [push_cast] f53t
end Go.Mir.Try

/- Walks: the page's Take. -/
set_option linter.unusedVariables false
set_option linter.unusedSimpArgs false
set_option maxRecDepth 100000
namespace Go.Mir.Try
open Go.Proofs Go.Mir.Q

end Go.Mir.Try

/- Walks: sectors. -/
set_option linter.unusedVariables false
set_option linter.unusedSimpArgs false
set_option maxRecDepth 100000
namespace Go.Mir.Try
open Go.Proofs Go.Mir.Q

theorem f63 {c : Int} (h0 : 0 ≤ c) (h1 : c ≤ 20) : Fun G 63 [.str (bs [0]), .int .i64 c] (.str (bs (List.replicate c.toNat 0)), []) := by
  refine ⟨1, ?_⟩
  show repGiven.2 _ = _
  simp only [repGiven]
  have hs : (bs [0]).size = 1 := rfl
  refine (if_pos ⟨h0, by rw [hs]; omega, by omega⟩).trans ?_
  have e : ∀ k : Nat, (List.replicate k (bs [0]).data.toList).flatten = List.replicate k 0 := by
    intro k
    induction k with
    | zero => rfl
    | succ k ih => rw [List.replicate_succ, List.flatten_cons, ih, List.replicate_succ]; rfl
  rw [e]


set_option maxHeartbeats 2000000 in
theorem f54 {a b : List (List UInt8)} (ha : a.length ≤ 1000000000) (hb : b.length ≤ 1000000000) : Fun G 54 [.one (.d (.sl (a.map eS))), .one (.d (.sl (b.map eS)))] (.bool (decide (a = b)), []) := by
  refine Fun.of_run (g := g54) (pf := pf54) rfl rfl rfl rfl ?_
  simp (maxSteps := 1000000) (disch := first | assumption | ((try simp only [LEN, LEN2]); omega)) only [push_cast, Int.reduceToNat, Int.reduceEq, Int.reduceNe, Int.reduceLT, Int.reduceLE, Int.reduceAdd, Int.reduceSub, Int.reduceMul, Int.reduceNeg, Nat.reduceEqDiff, Nat.reduceBEq, Nat.reduceBNe, Nat.reduceAdd, Nat.reduceLeDiff, Nat.reduceLT, Nat.reduceMul, ↓reduceIte, reduceCtorEq, g54, pf54, b54]
  refine If.dec (fun h => ?_) (fun h => ?_)
  · have : a ≠ b := fun e => h (by rw [e])
    simp (maxSteps := 1000000) (disch := first | assumption | ((try simp only [LEN, LEN2]); omega)) only [push_cast, Int.reduceToNat, Int.reduceEq, Int.reduceNe, Int.reduceLT, Int.reduceLE, Int.reduceAdd, Int.reduceSub, Int.reduceMul, Int.reduceNeg, Nat.reduceEqDiff, Nat.reduceBEq, Nat.reduceBNe, Nat.reduceAdd, Nat.reduceLeDiff, Nat.reduceLT, Nat.reduceMul, ↓reduceIte, reduceCtorEq, g54, pf54, b54]
    simp [this]
  simp (maxSteps := 1000000) (disch := first | assumption | ((try simp only [LEN, LEN2]); omega)) only [push_cast, Int.reduceToNat, Int.reduceEq, Int.reduceNe, Int.reduceLT, Int.reduceLE, Int.reduceAdd, Int.reduceSub, Int.reduceMul, Int.reduceNeg, Nat.reduceEqDiff, Nat.reduceBEq, Nat.reduceBNe, Nat.reduceAdd, Nat.reduceLeDiff, Nat.reduceLT, Nat.reduceMul, ↓reduceIte, reduceCtorEq, g54, pf54, b54]
  have hl : a.length = b.length := by omega
  refine run_loop' (fun i : Nat => [(0, T.one (.d (.sl (a.map eS)))), (1, T.one (.d (.sl (b.map eS)))), (12, T.int .i64 a.length), (13, T.int .i64 i)]) (fun i => i ≤ a.length ∧ a.take i = b.take i) (fun i => a.length - i) 0 rfl ⟨Nat.zero_le _, by simp⟩ (fun i hi => ?_)
  obtain ⟨hi, ht⟩ := hi
  simp (maxSteps := 1000000) (disch := first | assumption | ((try simp only [LEN, LEN2]); omega)) only [push_cast, Int.reduceToNat, Int.reduceEq, Int.reduceNe, Int.reduceLT, Int.reduceLE, Int.reduceAdd, Int.reduceSub, Int.reduceMul, Int.reduceNeg, Nat.reduceEqDiff, Nat.reduceBEq, Nat.reduceBNe, Nat.reduceAdd, Nat.reduceLeDiff, Nat.reduceLT, Nat.reduceMul, ↓reduceIte, reduceCtorEq, g54, pf54, b54]
  refine If.dec (fun h => ?_) (fun h => ?_)
  · replace h : i < a.length := by omega
    have h' : i < b.length := by omega
    by_cases he : a[i] = b[i]
    · simp (maxSteps := 1000000) (disch := first | assumption | ((try simp only [LEN, LEN2]); omega)) only [push_cast, Int.reduceToNat, Int.reduceEq, Int.reduceNe, Int.reduceLT, Int.reduceLE, Int.reduceAdd, Int.reduceSub, Int.reduceMul, Int.reduceNeg, Nat.reduceEqDiff, Nat.reduceBEq, Nat.reduceBNe, Nat.reduceAdd, Nat.reduceLeDiff, Nat.reduceLT, Nat.reduceMul, ↓reduceIte, reduceCtorEq, g54, pf54, b54, eS, he]
      refine ⟨i + 1, rfl, ⟨by omega, ?_⟩, by omega⟩
      rw [List.take_succ_eq_append_getElem h, List.take_succ_eq_append_getElem h', ht, he]
    · have hne : a ≠ b := fun e => he (by subst e; rfl)
      simp (maxSteps := 1000000) (disch := first | assumption | ((try simp only [LEN, LEN2]); omega)) only [push_cast, Int.reduceToNat, Int.reduceEq, Int.reduceNe, Int.reduceLT, Int.reduceLE, Int.reduceAdd, Int.reduceSub, Int.reduceMul, Int.reduceNeg, Nat.reduceEqDiff, Nat.reduceBEq, Nat.reduceBNe, Nat.reduceAdd, Nat.reduceLeDiff, Nat.reduceLT, Nat.reduceMul, ↓reduceIte, reduceCtorEq, g54, pf54, b54, eS, he]
      simp [hne]
  · obtain rfl : i = a.length := by omega
    have : a = b := by rw [List.take_length] at ht; rw [ht, hl, List.take_length]
    simp (maxSteps := 1000000) (disch := first | assumption | ((try simp only [LEN, LEN2]); omega)) only [push_cast, Int.reduceToNat, Int.reduceEq, Int.reduceNe, Int.reduceLT, Int.reduceLE, Int.reduceAdd, Int.reduceSub, Int.reduceMul, Int.reduceNeg, Nat.reduceEqDiff, Nat.reduceBEq, Nat.reduceBNe, Nat.reduceAdd, Nat.reduceLeDiff, Nat.reduceLT, Nat.reduceMul, ↓reduceIte, reduceCtorEq, g54, pf54, b54]
    simp [this]
theorem f54c {a b : List (List UInt8)} (ha : a.length ≤ 1000000000) (hb : b.length ≤ 1000000000) {g : VG} {F : Fn} {lk : Bool} {e : Env} {dst : Option Nat} {ops : List Ins} {keep : Option (List Nat)} {K : List Fr} : CallC G g F 54 [.one (.d (.sl (a.map eS))), .one (.d (.sl (b.map eS)))] lk e dst ops keep K = ThenL G g F (if lk && !(T.noSl (.bool (decide (a = b)))) then none else e.put g.un dst (.bool (decide (a = b)))) ops keep K := callC_eq (f54 ha hb)
attribute [push_cast] f54c

theorem foldB (x p : List UInt8) (a c d : Int) (b : Bool) : x.map oB ++ [[V.d (.sc (.int .u8 (a % 256)))], [V.d (.sc (.int .u8 (c % 256)))], [V.d (.sc (.int .u8 (if b = true then 1 else 0)))], [V.d (.sc (.int .u8 (d % 256)))]] ++ p.map oB = (x ++ [byt a, byt c, if b then 1 else 0, byt d] ++ p).map oB := by
  cases b <;> simp [oB_byt] <;> rfl

theorem foldS1 (l : List (List UInt8)) (x : List UInt8) : l.map oS ++ [[V.d (.sc (.string (bs x)))]] = (l ++ [x]).map oS := by simp [oS]

set_option maxHeartbeats 2000000 in
theorem f38 {n run num' : Int} {l : List Write} (hs : smW l) (hr : okR ⟨n, l⟩ = true) : Fun G 38 [.vs true [.d (.sc (.int .i64 n)), .d (.sl (l.map eW))], .int .i64 run, .int .i64 num'] (.one (.own 9 ((cuts run num' (spelt ⟨n, l⟩)).map oS)), []) := by
  refine Fun.of_run (g := g38) (pf := pf38) rfl rfl rfl rfl ?_
  have h64 : l.length ≤ 64 := by simp [okR] at hr; omega
  simp (maxSteps := 1000000) (disch := first | assumption | ((try simp only [LEN, LEN2]); omega)) only [push_cast, Int.reduceToNat, Int.reduceEq, Int.reduceNe, Int.reduceLT, Int.reduceLE, Int.reduceAdd, Int.reduceSub, Int.reduceMul, Int.reduceNeg, Nat.reduceEqDiff, Nat.reduceBEq, Nat.reduceBNe, Nat.reduceAdd, Nat.reduceLeDiff, Nat.reduceLT, Nat.reduceMul, ↓reduceIte, reduceCtorEq, g38, pf38, b38]
  obtain ⟨s, hsd⟩ : ∃ s, spelt ⟨n, l⟩ = s := ⟨_, rfl⟩
  obtain ⟨hl1, hl2⟩ := okR_len hr
  obtain ⟨hc1, hc2⟩ := cnt_pos hr
  rw [hsd] at hl1 hl2 hc1 hc2 ⊢
  refine run_loop' (fun i : Nat => [(1, T.int .i64 run), (2, T.int .i64 num'), (6, T.one (.own 9 ((cutK run num' s i).map oS))), (7, T.str (bs (s.drop (20 * i)))), (8, T.int .i64 i)]) (fun i => i ≤ cnt s) (fun i => cnt s - i) 0 rfl (Nat.zero_le _) (fun i hi => ?_)
  have hkl : (cutK run num' s i).length = i := by simp [cutK]
  have hf := @f61t [] run (by simp)
  simp only [List.map_nil] at hf
  by_cases h : i < cnt s
  · have hdr : (s.drop (20 * i)).drop (piece s i).length = s.drop (20 * (i + 1)) := by
      rw [List.drop_drop, piece, List.length_take, List.length_drop]
      by_cases h2 : 20 ≤ s.length - 20 * i
      · rw [Nat.min_eq_left h2]; rfl
      · rw [List.drop_of_length_le (by omega), List.drop_of_length_le (by omega)]
    have hb : decide (((piece s i).length : Int) = (s.drop (20 * i)).length) = decide (i + 1 = cnt s) := by
      apply decide_eq_decide.2
      unfold cnt at *
      simp only [piece, List.length_take, List.length_drop]
      omega
    have hm : (if ((s.drop (20 * i)).length : Int) < 20 then ((s.drop (20 * i)).length : Int) else 20) = (piece s i).length := by
      simp only [piece, List.length_take]
      split <;> omega
    have hp := piece_len s i
    have htk : (s.drop (20 * i)).take (piece s i).length = piece s i := by
      simp only [piece, List.length_take]
      by_cases h2 : 20 ≤ (s.drop (20 * i)).length
      · rw [Nat.min_eq_left h2]
      · rw [Nat.min_eq_right (by omega), List.take_of_length_le (Nat.le_refl _), List.take_of_length_le (by omega)]
    have hpd : (piece s i).length ≤ (s.drop (20 * i)).length := by simp only [piece, List.length_take]; omega
    have hdl : (s.drop (20 * i)).length ≤ 3000 := by rw [List.length_drop]; omega
    have hne : s.drop (20 * i) ≠ [] := by
      intro he
      have := congrArg List.length he
      simp [cnt] at this h
      omega
    have hr64 := @f63 (20 - (piece s i).length) (by omega) (by omega)
    have e20 : (20 - ((piece s i).length : Int)).toNat = 20 - (piece s i).length := by omega
    obtain ⟨d, hd⟩ : ∃ d, s.drop (20 * i) = d := ⟨_, rfl⟩
    obtain ⟨p, hpp⟩ : ∃ p, piece s i = p := ⟨_, rfl⟩
    rw [hd, hpp] at hdr hb hm htk hpd
    rw [hd] at hdl hne ⊢
    rw [hpp] at hp hr64 e20
    simp (maxSteps := 1000000) (disch := first | assumption | ((try simp only [LEN, LEN2]); omega)) only [push_cast, Int.reduceToNat, Int.reduceEq, Int.reduceNe, Int.reduceLT, Int.reduceLE, Int.reduceAdd, Int.reduceSub, Int.reduceMul, Int.reduceNeg, Nat.reduceEqDiff, Nat.reduceBEq, Nat.reduceBNe, Nat.reduceAdd, Nat.reduceLeDiff, Nat.reduceLT, Nat.reduceMul, ↓reduceIte, reduceCtorEq, g38, pf38, b38, hne, hf, hm, hb, htk, foldB]
    simp (maxSteps := 1000000) (disch := first | assumption | ((try simp only [LEN, LEN2]); omega)) only [push_cast, Int.reduceToNat, Int.reduceEq, Int.reduceNe, Int.reduceLT, Int.reduceLE, Int.reduceAdd, Int.reduceSub, Int.reduceMul, Int.reduceNeg, Nat.reduceEqDiff, Nat.reduceBEq, Nat.reduceBNe, Nat.reduceAdd, Nat.reduceLeDiff, Nat.reduceLT, Nat.reduceMul, ↓reduceIte, reduceCtorEq, g38, pf38, b38, callC_eq hr64, foldS1, hdr, e20]
    refine ⟨i + 1, ?_, by omega, by omega⟩
    rw [cutK_succ, hpp]
    simp [sec, hdr]
  · obtain rfl : i = cnt s := by omega
    have hz : s.drop (20 * cnt s) = [] := List.drop_of_length_le (by unfold cnt; omega)
    have hz0 : ((cnt s : Int) = 0) = False := by simp; omega
    simp (maxSteps := 1000000) (disch := first | assumption | ((try simp only [LEN, LEN2]); omega)) only [push_cast, Int.reduceToNat, Int.reduceEq, Int.reduceNe, Int.reduceLT, Int.reduceLE, Int.reduceAdd, Int.reduceSub, Int.reduceMul, Int.reduceNeg, Nat.reduceEqDiff, Nat.reduceBEq, Nat.reduceBNe, Nat.reduceAdd, Nat.reduceLeDiff, Nat.reduceLT, Nat.reduceMul, ↓reduceIte, reduceCtorEq, g38, pf38, b38, hz, hz0]
    rfl
theorem f38c {n run num' : Int} {l : List Write} (hs : smW l) (hr : okR ⟨n, l⟩ = true) {g : VG} {F : Fn} {lk : Bool} {e : Env} {dst : Option Nat} {ops : List Ins} {keep : Option (List Nat)} {K : List Fr} : CallC G g F 38 [.vs true [.d (.sc (.int .i64 n)), .d (.sl (l.map eW))], .int .i64 run, .int .i64 num'] lk e dst ops keep K = ThenL G g F (if lk && !(T.noSl (.one (.own 9 ((cuts run num' (spelt ⟨n, l⟩)).map oS)))) then none else e.put g.un dst (.one (.own 9 ((cuts run num' (spelt ⟨n, l⟩)).map oS)))) ops keep K := callC_eq (f38 hs hr)
attribute [push_cast] f38c


set_option maxHeartbeats 2000000 in
theorem f30 {run nn : Int} {L : List (List UInt8)} (hL : L.length ≤ 4000000) : Fun G 30 [.one (.d (.sl (L.map eS))), .int .i64 run, .int .i64 nn] (.tup [(true, [.d (.sc (.int .i64 (whole1 run nn L).1.Commit)), .own 89 ((whole1 run nn L).1.Writes.map oW)]), (false, [.d (.sc (.int .i64 (whole1 run nn L).2))])], []) := by
  refine Fun.of_run (g := g30) (pf := pf30) rfl rfl rfl rfl ?_
  simp (maxSteps := 1000000) (disch := first | assumption | ((try simp only [LEN, LEN2]); omega)) only [push_cast, Int.reduceToNat, Int.reduceEq, Int.reduceNe, Int.reduceLT, Int.reduceLE, Int.reduceAdd, Int.reduceSub, Int.reduceMul, Int.reduceNeg, Nat.reduceEqDiff, Nat.reduceBEq, Nat.reduceBNe, Nat.reduceAdd, Nat.reduceLeDiff, Nat.reduceLT, Nat.reduceMul, ↓reduceIte, reduceCtorEq, g30, pf30, b30]
  obtain ⟨W, hW⟩ : ∃ W, whole1 run nn L = W := ⟨_, rfl⟩
  rw [hW]
  refine run_loop' (fun x : Nat × List UInt8 => [(0, T.one (.d (.sl (L.map eS)))), (1, T.int .i64 run), (2, T.int .i64 nn), (6, T.one (.box [.d (.sc (.int .i64 0)), .own 89 []])), (8, T.str (bs x.2)), (14, T.one (.d (.sl (L.map eS)))), (15, T.int .i64 L.length), (16, T.int .i64 x.1)])
    (fun x => x.1 ≤ L.length ∧ x.2.length ≤ 20 * x.1 ∧ W = whole run nn L (L.drop x.1) x.1 x.2) (fun x => L.length - x.1) (0, []) rfl ⟨Nat.zero_le _, by simp, hW.symm⟩ (fun ⟨i, b⟩ hi => ?_)
  obtain ⟨hi, hb, hw⟩ := hi
  simp only at hi hb hw
  by_cases h : (i : Int) < L.length
  · have hi' : i < L.length := by omega
    rw [List.drop_eq_getElem_cons hi', whole] at hw
    obtain ⟨s, hs⟩ : ∃ s, L[i] = s := ⟨_, rfl⟩
    rw [hs] at hw
    by_cases h32 : s.length = 32
    · rw [if_neg (by omega)] at hw
      obtain ⟨k, hk⟩ : ∃ k, s[11] = k := ⟨_, rfl⟩
      obtain ⟨z, hz⟩ : ∃ z, s[10] = z := ⟨_, rfl⟩
      have hk' : s[11]?.getD 0 = k := by rw [List.getElem?_eq_getElem (by omega), hk]; rfl
      have hz' : s[10]?.getD 0 = z := by rw [List.getElem?_eq_getElem (by omega), hz]; rfl
      rw [hk', hz'] at hw
      by_cases h20 : 20 < k.toNat
      · rw [if_pos h20] at hw
        have hI : ((20 : Int) < k.toNat) = True := by simp; omega
        simp (maxSteps := 1000000) (disch := first | assumption | ((try simp only [LEN, LEN2]); omega)) only [push_cast, Int.reduceToNat, Int.reduceEq, Int.reduceNe, Int.reduceLT, Int.reduceLE, Int.reduceAdd, Int.reduceSub, Int.reduceMul, Int.reduceNeg, Nat.reduceEqDiff, Nat.reduceBEq, Nat.reduceBNe, Nat.reduceAdd, Nat.reduceLeDiff, Nat.reduceLT, Nat.reduceMul, ↓reduceIte, reduceCtorEq, g30, pf30, b30, h, eS, hs, h32, hk, hI, hw]
      · rw [if_neg h20] at hw
        have hI : ((20 : Int) < k.toNat) = False := by simp; omega
        have hk20 : (12 + (k.toNat : Int)).toNat = 12 + k.toNat := by omega
        obtain ⟨p, hp⟩ : ∃ p, (s.drop 12).take k.toNat = p := ⟨_, rfl⟩
        have hpl : p.length ≤ 20 := by rw [← hp, List.length_take]; omega
        rw [hp] at hw
        have hp2 : (s.take (12 + k.toNat)).drop 12 = p := by rw [← hp, List.drop_take]; congr 1; omega
        by_cases h0 : z = 0
        · rw [if_pos h0] at hw
          have hz0 : ((z.toNat : Int) = 0) = True := by subst h0; simp
          simp (maxSteps := 1000000) (disch := first | assumption | ((try simp only [LEN, LEN2]); omega)) only [push_cast, Int.reduceToNat, Int.reduceEq, Int.reduceNe, Int.reduceLT, Int.reduceLE, Int.reduceAdd, Int.reduceSub, Int.reduceMul, Int.reduceNeg, Nat.reduceEqDiff, Nat.reduceBEq, Nat.reduceBNe, Nat.reduceAdd, Nat.reduceLeDiff, Nat.reduceLT, Nat.reduceMul, ↓reduceIte, reduceCtorEq, g30, pf30, b30, h, eS, hs, h32, hk, hI, hz, hz0, hk20, hp2]
          exact ⟨(i + 1, b ++ p), rfl, ⟨by simp only; omega, by simp only [List.length_append]; omega, hw⟩, by simp only; omega⟩
        · have hz0 : ((z.toNat : Int) = 0) = False := by
            simp only [eq_iff_iff, iff_false]
            intro hz0
            exact h0 (UInt8.toNat_inj.1 (by simpa using hz0))
          rw [if_neg h0] at hw
          have hbl : (b ++ p).length ≤ 100000000 := by rw [List.length_append]; omega
          cases ht : take (b ++ p) with
          | none =>
            rw [ht] at hw
            simp (maxSteps := 1000000) (disch := first | assumption | ((try simp only [LEN, LEN2]); omega)) only [push_cast, Int.reduceToNat, Int.reduceEq, Int.reduceNe, Int.reduceLT, Int.reduceLE, Int.reduceAdd, Int.reduceSub, Int.reduceMul, Int.reduceNeg, Nat.reduceEqDiff, Nat.reduceBEq, Nat.reduceBNe, Nat.reduceAdd, Nat.reduceLeDiff, Nat.reduceLT, Nat.reduceMul, ↓reduceIte, reduceCtorEq, g30, pf30, b30, h, eS, hs, h32, hk, hI, hz, hz0, hk20, hp2, ht, hw]
          | some r =>
            rw [ht] at hw
            simp only at hw
            have hr := take_ok ht
            have hws := okR_smW hr
            have hcl : (cuts run nn (spelt r)).length ≤ 1000000000 := by have := (cnt_pos hr).2; rw [cuts_len]; omega
            have htl : (L.take (i + 1)).length ≤ 1000000000 := by rw [List.length_take]; omega
            have ei : ((i : Int) + 1).toNat = i + 1 := by omega
            obtain ⟨c, ws⟩ := r
            simp only at hws
            by_cases hc : cuts run nn (spelt ⟨c, ws⟩) = L.take (i + 1)
            · rw [if_pos hc] at hw
              simp (maxSteps := 1000000) (disch := first | assumption | ((try simp only [LEN, LEN2]); omega)) only [push_cast, Int.reduceToNat, Int.reduceEq, Int.reduceNe, Int.reduceLT, Int.reduceLE, Int.reduceAdd, Int.reduceSub, Int.reduceMul, Int.reduceNeg, Nat.reduceEqDiff, Nat.reduceBEq, Nat.reduceBNe, Nat.reduceAdd, Nat.reduceLeDiff, Nat.reduceLT, Nat.reduceMul, ↓reduceIte, reduceCtorEq, g30, pf30, b30, h, hs, h32, hk, hI, hz, hz0, hk20, hp2, ht, hw, rc, eS, ei, hc]
              done
            · rw [if_neg hc] at hw
              simp (maxSteps := 1000000) (disch := first | assumption | ((try simp only [LEN, LEN2]); omega)) only [push_cast, Int.reduceToNat, Int.reduceEq, Int.reduceNe, Int.reduceLT, Int.reduceLE, Int.reduceAdd, Int.reduceSub, Int.reduceMul, Int.reduceNeg, Nat.reduceEqDiff, Nat.reduceBEq, Nat.reduceBNe, Nat.reduceAdd, Nat.reduceLeDiff, Nat.reduceLT, Nat.reduceMul, ↓reduceIte, reduceCtorEq, g30, pf30, b30, h, hs, h32, hk, hI, hz, hz0, hk20, hp2, ht, hw, rc, eS, ei, hc]
              done
    · rw [if_pos h32] at hw
      have hn : ((s.length : Int) = 32) = False := by simp; omega
      simp (maxSteps := 1000000) (disch := first | assumption | ((try simp only [LEN, LEN2]); omega)) only [push_cast, Int.reduceToNat, Int.reduceEq, Int.reduceNe, Int.reduceLT, Int.reduceLE, Int.reduceAdd, Int.reduceSub, Int.reduceMul, Int.reduceNeg, Nat.reduceEqDiff, Nat.reduceBEq, Nat.reduceBNe, Nat.reduceAdd, Nat.reduceLeDiff, Nat.reduceLT, Nat.reduceMul, ↓reduceIte, reduceCtorEq, g30, pf30, b30, h, eS, hs, hn, hw]
  · obtain rfl : i = L.length := by omega
    rw [List.drop_length, whole] at hw
    simp (maxSteps := 1000000) (disch := first | assumption | ((try simp only [LEN, LEN2]); omega)) only [push_cast, Int.reduceToNat, Int.reduceEq, Int.reduceNe, Int.reduceLT, Int.reduceLE, Int.reduceAdd, Int.reduceSub, Int.reduceMul, Int.reduceNeg, Nat.reduceEqDiff, Nat.reduceBEq, Nat.reduceBNe, Nat.reduceAdd, Nat.reduceLeDiff, Nat.reduceLT, Nat.reduceMul, ↓reduceIte, reduceCtorEq, g30, pf30, b30, h, hw]
theorem f30c {run nn : Int} {L : List (List UInt8)} (hL : L.length ≤ 4000000) {g : VG} {F : Fn} {lk : Bool} {e : Env} {dst : Option Nat} {ops : List Ins} {keep : Option (List Nat)} {K : List Fr} : CallC G g F 30 [.one (.d (.sl (L.map eS))), .int .i64 run, .int .i64 nn] lk e dst ops keep K = ThenL G g F (if lk && !(T.noSl (.tup [(true, [.d (.sc (.int .i64 (whole1 run nn L).1.Commit)), .own 89 ((whole1 run nn L).1.Writes.map oW)]), (false, [.d (.sc (.int .i64 (whole1 run nn L).2))])])) then none else e.put g.un dst (.tup [(true, [.d (.sc (.int .i64 (whole1 run nn L).1.Commit)), .own 89 ((whole1 run nn L).1.Writes.map oW)]), (false, [.d (.sc (.int .i64 (whole1 run nn L).2))])])) ops keep K := callC_eq (f30 hL)
attribute [push_cast] f30c
theorem f30t {run nn : Int} {L : List (List UInt8)} (hL : L.length ≤ 4000000) {g : VG} {F : Fn} {lk : Bool} {ags : List Arg} {e0 e1 : Env} {dst : Option Nat} {ops : List Ins} {keep : Option (List Nat)} {K : List Fr} : CallT G g F 30 [.one (.d (.sl (L.map eS))), .int .i64 run, .int .i64 nn] lk ags e0 e1 dst ops keep K = RetT G g F (.tup [(true, [.d (.sc (.int .i64 (whole1 run nn L).1.Commit)), .own 89 ((whole1 run nn L).1.Writes.map oW)]), (false, [.d (.sc (.int .i64 (whole1 run nn L).2))])]) [] lk ags e0 e1 dst ops keep K := callT_eq (f30 hL)
attribute [push_cast] f30t

theorem toDs_oR (c : Int) (ws : List Write) : toDs [.d (.sc (.int .i64 c)), .own 89 (ws.map oW)] = some [.sc (.int .i64 c), .sl (ws.map eW)] := by simp [toDs, V.toD, toDss_oW]

def oR (r : Record) : List V := [.d (.sc (.int .i64 r.Commit)), .own 89 (r.Writes.map oW)]

theorem toDss_oR (l : List Record) : toDss (l.map oR) = some (l.map eR) := toDss_map (fun _ => toDs_oR _ _) l

theorem noSlss_oR (l : List Record) : noSlss (l.map oR) = true := noSlss_map (fun x => by simp [oR, noSls, V.noSl, noSlss_oW]) l

attribute [push_cast] toDss_oR noSlss_oR

set_option maxHeartbeats 2000000 in
theorem f32 {run n0 : Int} {L : List (List UInt8)} (hL : L.length ≤ 4000000) (h0 : okN n0) : Fun G 32 [.one (.d (.sl (L.map eS))), .int .i64 run, .int .i64 n0] (.tup [(false, [.own 57 ((rd run n0 L).1.map oR)]), (false, [.d (.sc (.int .i64 (rd run n0 L).2))])], []) := by
  refine Fun.of_run (g := g32) (pf := pf32) rfl rfl rfl rfl ?_
  simp (maxSteps := 1000000) (disch := first | assumption | ((try simp only [LEN, LEN2]); omega)) only [push_cast, Int.reduceToNat, Int.reduceEq, Int.reduceNe, Int.reduceLT, Int.reduceLE, Int.reduceAdd, Int.reduceSub, Int.reduceMul, Int.reduceNeg, Nat.reduceEqDiff, Nat.reduceBEq, Nat.reduceBNe, Nat.reduceAdd, Nat.reduceLeDiff, Nat.reduceLT, Nat.reduceMul, ↓reduceIte, reduceCtorEq, g32, pf32, b32]
  obtain ⟨W, hW⟩ : ∃ W, rd run n0 L = W := ⟨_, rfl⟩
  rw [hW]
  refine run_loop' (fun x : Nat × Int × Nat × List Record => [(0, T.one (.d (.sl (L.map eS)))), (1, T.int .i64 run), (2, T.int .i64 x.2.1), (6, T.one (.own 57 (x.2.2.2.map oR))), (7, T.int .i64 x.2.2.1)])
    (fun x => x.2.2.1 ≤ L.length ∧ L.length - x.2.2.1 < x.1 ∧ x.2.2.2.length ≤ x.2.2.1 ∧ okN x.2.1 ∧ W = (x.2.2.2 ++ (runF run L x.1 x.2.1 x.2.2.1).1, (runF run L x.1 x.2.1 x.2.2.1).2)) (fun x => x.1) (L.length + 1, n0, 0, []) rfl ⟨Nat.zero_le _, by simp only; omega, Nat.zero_le _, h0, hW.symm⟩ (fun ⟨j, n, m, x⟩ hi => ?_)
  obtain ⟨hm, hj, hx, hn, hw⟩ := hi
  simp only at hm hj hx hn hw
  obtain ⟨j, rfl⟩ : ∃ k, j = k + 1 := ⟨j - 1, by omega⟩
  obtain ⟨hn1, hn2⟩ := hn
  rw [runF] at hw
  by_cases h : n ≤ 1073741824
  · rw [if_neg (by omega)] at hw
    have hdl : (L.drop m).length ≤ 4000000 := by rw [List.length_drop]; omega
    have hle := whole1_le run n (L.drop m)
    rw [List.length_drop] at hle
    obtain ⟨⟨⟨c, ws⟩, k⟩, hk⟩ : ∃ x, whole1 run n (L.drop m) = x := ⟨_, rfl⟩
    rw [hk] at hw hle
    simp only at hw hle
    by_cases hk0 : k = 0
    · rw [if_pos hk0] at hw
      subst hk0
      simp (maxSteps := 1000000) (disch := first | assumption | ((try simp only [LEN, LEN2]); omega)) only [push_cast, Int.reduceToNat, Int.reduceEq, Int.reduceNe, Int.reduceLT, Int.reduceLE, Int.reduceAdd, Int.reduceSub, Int.reduceMul, Int.reduceNeg, Nat.reduceEqDiff, Nat.reduceBEq, Nat.reduceBNe, Nat.reduceAdd, Nat.reduceLeDiff, Nat.reduceLT, Nat.reduceMul, ↓reduceIte, reduceCtorEq, g32, pf32, b32, h, hk, hw, List.take_length]
      try rfl
      done
    · rw [if_neg hk0] at hw
      have hk1 : ((k : Int) = 0) = False := by simp; omega
      simp (maxSteps := 1000000) (disch := first | assumption | ((try simp only [LEN, LEN2]); omega)) only [push_cast, Int.reduceToNat, Int.reduceEq, Int.reduceNe, Int.reduceLT, Int.reduceLE, Int.reduceAdd, Int.reduceSub, Int.reduceMul, Int.reduceNeg, Nat.reduceEqDiff, Nat.reduceBEq, Nat.reduceBNe, Nat.reduceAdd, Nat.reduceLeDiff, Nat.reduceLT, Nat.reduceMul, ↓reduceIte, reduceCtorEq, g32, pf32, b32, h, hk, hk1, List.take_length]
      exact ⟨(j, n + 1, m + k, x ++ [⟨c, ws⟩]), by simp [oR], ⟨by simp only; omega, by simp only; omega, by simp only [List.length_append, List.length_singleton]; omega, ⟨by simp only; omega, by simp only; omega⟩, by rw [hw]; simp⟩, by simp only; omega⟩
  · rw [if_pos (by omega)] at hw
    simp (maxSteps := 1000000) (disch := first | assumption | ((try simp only [LEN, LEN2]); omega)) only [push_cast, Int.reduceToNat, Int.reduceEq, Int.reduceNe, Int.reduceLT, Int.reduceLE, Int.reduceAdd, Int.reduceSub, Int.reduceMul, Int.reduceNeg, Nat.reduceEqDiff, Nat.reduceBEq, Nat.reduceBNe, Nat.reduceAdd, Nat.reduceLeDiff, Nat.reduceLT, Nat.reduceMul, ↓reduceIte, reduceCtorEq, g32, pf32, b32, h, hw]
    done
theorem f32c {run n0 : Int} {L : List (List UInt8)} (hL : L.length ≤ 4000000) (h0 : okN n0) {g : VG} {F : Fn} {lk : Bool} {e : Env} {dst : Option Nat} {ops : List Ins} {keep : Option (List Nat)} {K : List Fr} : CallC G g F 32 [.one (.d (.sl (L.map eS))), .int .i64 run, .int .i64 n0] lk e dst ops keep K = ThenL G g F (if lk && !(T.noSl (.tup [(false, [.own 57 ((rd run n0 L).1.map oR)]), (false, [.d (.sc (.int .i64 (rd run n0 L).2))])])) then none else e.put g.un dst (.tup [(false, [.own 57 ((rd run n0 L).1.map oR)]), (false, [.d (.sc (.int .i64 (rd run n0 L).2))])])) ops keep K := callC_eq (f32 hL h0)
attribute [push_cast] f32c

end Go.Mir.Try

/- Walks: may a tape be; the page's tape. -/
set_option linter.unusedVariables false
set_option linter.unusedSimpArgs false
set_option maxRecDepth 100000
namespace Go.Mir.Try
open Go.Proofs Go.Mir.Q

theorem f69 {l : List (List UInt8)} {f : FuncId} {caps : List T} {p : (List UInt8) → Bool} (hl : l.length ≤ 1000000000) (hpm : G.pm f = [.ro] ∨ G.pm f = [.ro, .ro] ∨ G.pm f = [.ro, .ro, .ro] ∨ G.pm f = [.ro, .ro, .ro, .ro]) (hcap : capsData caps = true) (hf : ∀ w ∈ l, Fun G f (.str (bs w) :: caps) (.bool (p w), [])) :
    Fun G 69 [.one (.d (.sl (l.map eS))), .fn f caps] (.int .i64 (idx p l), []) := by
  refine Fun.of_run (g := g69) (pf := pf69) rfl rfl rfl rfl ?_
  have hcap2 := capsRo_data (caps := caps) hcap
  have hcap3 := rootsL_data (caps := caps) hcap
  simp (maxSteps := 1000000) (disch := first | assumption | ((try simp only [LEN, LEN2]); omega)) only [push_cast, Int.reduceToNat, Int.reduceEq, Int.reduceNe, Int.reduceLT, Int.reduceLE, Int.reduceAdd, Int.reduceSub, Int.reduceMul, Int.reduceNeg, Nat.reduceEqDiff, Nat.reduceBEq, Nat.reduceBNe, Nat.reduceAdd, Nat.reduceLeDiff, Nat.reduceLT, Nat.reduceMul, ↓reduceIte, reduceCtorEq, g69, pf69, b69, hcap2, hcap3, List.all_nil]
  refine run_loop' (fun i : Nat => [(0, T.one (.d (.sl (l.map eS)))), (1, T.fn f caps), (7, T.int .i64 l.length), (8, T.int .i64 i)]) (fun i => i ≤ l.length ∧ ∀ x ∈ l.take i, p x = false) (fun i => l.length - i) 0 rfl ⟨Nat.zero_le _, by simp⟩ (fun i hi => ?_)
  obtain ⟨hi, ht⟩ := hi
  simp (maxSteps := 1000000) (disch := first | assumption | ((try simp only [LEN, LEN2]); omega)) only [push_cast, Int.reduceToNat, Int.reduceEq, Int.reduceNe, Int.reduceLT, Int.reduceLE, Int.reduceAdd, Int.reduceSub, Int.reduceMul, Int.reduceNeg, Nat.reduceEqDiff, Nat.reduceBEq, Nat.reduceBNe, Nat.reduceAdd, Nat.reduceLeDiff, Nat.reduceLT, Nat.reduceMul, ↓reduceIte, reduceCtorEq, g69, pf69, b69, hcap2, hcap3, List.all_nil]
  refine If.dec (fun h => ?_) (fun h => ?_)
  · replace h : i < l.length := by omega
    have h2 := hf l[i] (List.getElem_mem h)
    skip
    by_cases hp : p l[i] = true
    · rcases hpm with hpm | hpm | hpm | hpm <;> simp (maxSteps := 1000000) (disch := first | assumption | ((try simp only [LEN, LEN2]); omega)) only [push_cast, Int.reduceToNat, Int.reduceEq, Int.reduceNe, Int.reduceLT, Int.reduceLE, Int.reduceAdd, Int.reduceSub, Int.reduceMul, Int.reduceNeg, Nat.reduceEqDiff, Nat.reduceBEq, Nat.reduceBNe, Nat.reduceAdd, Nat.reduceLeDiff, Nat.reduceLT, Nat.reduceMul, ↓reduceIte, reduceCtorEq, g69, pf69, b69, hcap2, hcap3, List.all_nil, hpm, eS, callT_eq h2, hp] <;> rw [idx_some h ht hp]
    · rw [Bool.not_eq_true] at hp
      rcases hpm with hpm | hpm | hpm | hpm <;> simp (maxSteps := 1000000) (disch := first | assumption | ((try simp only [LEN, LEN2]); omega)) only [push_cast, Int.reduceToNat, Int.reduceEq, Int.reduceNe, Int.reduceLT, Int.reduceLE, Int.reduceAdd, Int.reduceSub, Int.reduceMul, Int.reduceNeg, Nat.reduceEqDiff, Nat.reduceBEq, Nat.reduceBNe, Nat.reduceAdd, Nat.reduceLeDiff, Nat.reduceLT, Nat.reduceMul, ↓reduceIte, reduceCtorEq, g69, pf69, b69, hcap2, hcap3, List.all_nil, hpm, eS, callT_eq h2, hp]
      all_goals
        refine ⟨i + 1, rfl, ⟨by omega, fun x hx => ?_⟩, by omega⟩
        rw [List.take_succ_eq_append_getElem h, List.mem_append, List.mem_singleton] at hx
        rcases hx with hx | rfl
        · exact ht x hx
        · exact hp
  · obtain rfl : i = l.length := by omega
    simp (maxSteps := 1000000) (disch := first | assumption | ((try simp only [LEN, LEN2]); omega)) only [push_cast, Int.reduceToNat, Int.reduceEq, Int.reduceNe, Int.reduceLT, Int.reduceLE, Int.reduceAdd, Int.reduceSub, Int.reduceMul, Int.reduceNeg, Nat.reduceEqDiff, Nat.reduceBEq, Nat.reduceBNe, Nat.reduceAdd, Nat.reduceLeDiff, Nat.reduceLT, Nat.reduceMul, ↓reduceIte, reduceCtorEq, g69, pf69, b69, hcap2, hcap3, List.all_nil]
    rw [idx_none (fun x hx => ht x (by rw [List.take_length]; exact hx))]
theorem f45 {l : List (List UInt8)} {f : FuncId} {caps : List T} {p : (List UInt8) → Bool} (hl : l.length ≤ 1000000000) (hpm : G.pm f = [.ro] ∨ G.pm f = [.ro, .ro] ∨ G.pm f = [.ro, .ro, .ro] ∨ G.pm f = [.ro, .ro, .ro, .ro]) (hcap : capsData caps = true) (hf : ∀ w ∈ l, Fun G f (.str (bs w) :: caps) (.bool (p w), [])) :
    Fun G 45 [.one (.d (.sl (l.map eS))), .fn f caps] (.bool (l.any p), []) := by
  refine Fun.of_run (g := g45) (pf := pf45) rfl rfl rfl rfl ?_
  have hcap2 := capsRo_data (caps := caps) hcap
  have hcap3 := rootsL_data (caps := caps) hcap
  simp (maxSteps := 1000000) (disch := first | assumption | ((try simp only [LEN, LEN2]); omega)) only [push_cast, Int.reduceToNat, Int.reduceEq, Int.reduceNe, Int.reduceLT, Int.reduceLE, Int.reduceAdd, Int.reduceSub, Int.reduceMul, Int.reduceNeg, Nat.reduceEqDiff, Nat.reduceBEq, Nat.reduceBNe, Nat.reduceAdd, Nat.reduceLeDiff, Nat.reduceLT, Nat.reduceMul, ↓reduceIte, reduceCtorEq, g45, pf45, b45, hcap2, hcap3, List.all_nil, callC_eq (f69 hl hpm hcap hf)]
  rw [← idx_nonneg]
theorem f70 {l : List (Put)} {f : FuncId} {caps : List T} {p : (Put) → Bool} (hl : l.length ≤ 1000000000) (hpm : G.pm f = [.ro] ∨ G.pm f = [.ro, .ro] ∨ G.pm f = [.ro, .ro, .ro] ∨ G.pm f = [.ro, .ro, .ro, .ro]) (hcap : capsData caps = true) (hf : ∀ w ∈ l, Fun G f (.vs true (oP w) :: caps) (.bool (p w), [])) :
    Fun G 70 [.one (.d (.sl (l.map eP))), .fn f caps] (.int .i64 (idx p l), []) := by
  refine Fun.of_run (g := g70) (pf := pf70) rfl rfl rfl rfl ?_
  have hcap2 := capsRo_data (caps := caps) hcap
  have hcap3 := rootsL_data (caps := caps) hcap
  simp (maxSteps := 1000000) (disch := first | assumption | ((try simp only [LEN, LEN2]); omega)) only [push_cast, Int.reduceToNat, Int.reduceEq, Int.reduceNe, Int.reduceLT, Int.reduceLE, Int.reduceAdd, Int.reduceSub, Int.reduceMul, Int.reduceNeg, Nat.reduceEqDiff, Nat.reduceBEq, Nat.reduceBNe, Nat.reduceAdd, Nat.reduceLeDiff, Nat.reduceLT, Nat.reduceMul, ↓reduceIte, reduceCtorEq, g70, pf70, b70, hcap2, hcap3, List.all_nil]
  refine run_loop' (fun i : Nat => [(0, T.one (.d (.sl (l.map eP)))), (1, T.fn f caps), (7, T.int .i64 l.length), (8, T.int .i64 i)]) (fun i => i ≤ l.length ∧ ∀ x ∈ l.take i, p x = false) (fun i => l.length - i) 0 rfl ⟨Nat.zero_le _, by simp⟩ (fun i hi => ?_)
  obtain ⟨hi, ht⟩ := hi
  simp (maxSteps := 1000000) (disch := first | assumption | ((try simp only [LEN, LEN2]); omega)) only [push_cast, Int.reduceToNat, Int.reduceEq, Int.reduceNe, Int.reduceLT, Int.reduceLE, Int.reduceAdd, Int.reduceSub, Int.reduceMul, Int.reduceNeg, Nat.reduceEqDiff, Nat.reduceBEq, Nat.reduceBNe, Nat.reduceAdd, Nat.reduceLeDiff, Nat.reduceLT, Nat.reduceMul, ↓reduceIte, reduceCtorEq, g70, pf70, b70, hcap2, hcap3, List.all_nil]
  refine If.dec (fun h => ?_) (fun h => ?_)
  · replace h : i < l.length := by omega
    have h2 := hf l[i] (List.getElem_mem h)
    try simp only [oP] at h2
    by_cases hp : p l[i] = true
    · rcases hpm with hpm | hpm | hpm | hpm <;> simp (maxSteps := 1000000) (disch := first | assumption | ((try simp only [LEN, LEN2]); omega)) only [push_cast, Int.reduceToNat, Int.reduceEq, Int.reduceNe, Int.reduceLT, Int.reduceLE, Int.reduceAdd, Int.reduceSub, Int.reduceMul, Int.reduceNeg, Nat.reduceEqDiff, Nat.reduceBEq, Nat.reduceBNe, Nat.reduceAdd, Nat.reduceLeDiff, Nat.reduceLT, Nat.reduceMul, ↓reduceIte, reduceCtorEq, g70, pf70, b70, hcap2, hcap3, List.all_nil, hpm, eP, callT_eq h2, hp] <;> rw [idx_some h ht hp]
    · rw [Bool.not_eq_true] at hp
      rcases hpm with hpm | hpm | hpm | hpm <;> simp (maxSteps := 1000000) (disch := first | assumption | ((try simp only [LEN, LEN2]); omega)) only [push_cast, Int.reduceToNat, Int.reduceEq, Int.reduceNe, Int.reduceLT, Int.reduceLE, Int.reduceAdd, Int.reduceSub, Int.reduceMul, Int.reduceNeg, Nat.reduceEqDiff, Nat.reduceBEq, Nat.reduceBNe, Nat.reduceAdd, Nat.reduceLeDiff, Nat.reduceLT, Nat.reduceMul, ↓reduceIte, reduceCtorEq, g70, pf70, b70, hcap2, hcap3, List.all_nil, hpm, eP, callT_eq h2, hp]
      all_goals
        refine ⟨i + 1, rfl, ⟨by omega, fun x hx => ?_⟩, by omega⟩
        rw [List.take_succ_eq_append_getElem h, List.mem_append, List.mem_singleton] at hx
        rcases hx with hx | rfl
        · exact ht x hx
        · exact hp
  · obtain rfl : i = l.length := by omega
    simp (maxSteps := 1000000) (disch := first | assumption | ((try simp only [LEN, LEN2]); omega)) only [push_cast, Int.reduceToNat, Int.reduceEq, Int.reduceNe, Int.reduceLT, Int.reduceLE, Int.reduceAdd, Int.reduceSub, Int.reduceMul, Int.reduceNeg, Nat.reduceEqDiff, Nat.reduceBEq, Nat.reduceBNe, Nat.reduceAdd, Nat.reduceLeDiff, Nat.reduceLT, Nat.reduceMul, ↓reduceIte, reduceCtorEq, g70, pf70, b70, hcap2, hcap3, List.all_nil]
    rw [idx_none (fun x hx => ht x (by rw [List.take_length]; exact hx))]
theorem f48 {l : List (Put)} {f : FuncId} {caps : List T} {p : (Put) → Bool} (hl : l.length ≤ 1000000000) (hpm : G.pm f = [.ro] ∨ G.pm f = [.ro, .ro] ∨ G.pm f = [.ro, .ro, .ro] ∨ G.pm f = [.ro, .ro, .ro, .ro]) (hcap : capsData caps = true) (hf : ∀ w ∈ l, Fun G f (.vs true (oP w) :: caps) (.bool (p w), [])) :
    Fun G 48 [.one (.d (.sl (l.map eP))), .fn f caps] (.bool (l.any p), []) := by
  refine Fun.of_run (g := g48) (pf := pf48) rfl rfl rfl rfl ?_
  have hcap2 := capsRo_data (caps := caps) hcap
  have hcap3 := rootsL_data (caps := caps) hcap
  simp (maxSteps := 1000000) (disch := first | assumption | ((try simp only [LEN, LEN2]); omega)) only [push_cast, Int.reduceToNat, Int.reduceEq, Int.reduceNe, Int.reduceLT, Int.reduceLE, Int.reduceAdd, Int.reduceSub, Int.reduceMul, Int.reduceNeg, Nat.reduceEqDiff, Nat.reduceBEq, Nat.reduceBNe, Nat.reduceAdd, Nat.reduceLeDiff, Nat.reduceLT, Nat.reduceMul, ↓reduceIte, reduceCtorEq, g48, pf48, b48, hcap2, hcap3, List.all_nil, callC_eq (f70 hl hpm hcap hf)]
  rw [← idx_nonneg]

set_option maxHeartbeats 2000000 in
theorem f47 {s : List UInt8}  : Fun G 47 [.str (bs s)] (.bool (decide (s.length = 32)), []) := by
  refine Fun.of_run (g := g47) (pf := pf47) rfl rfl rfl rfl ?_
  simp (maxSteps := 1000000) (disch := first | assumption | ((try simp only [LEN, LEN2]); omega)) only [push_cast, Int.reduceToNat, Int.reduceEq, Int.reduceNe, Int.reduceLT, Int.reduceLE, Int.reduceAdd, Int.reduceSub, Int.reduceMul, Int.reduceNeg, Nat.reduceEqDiff, Nat.reduceBEq, Nat.reduceBNe, Nat.reduceAdd, Nat.reduceLeDiff, Nat.reduceLT, Nat.reduceMul, ↓reduceIte, reduceCtorEq, g47, pf47, b47]
  exact boolRes (by omega)
theorem f47c {s : List UInt8}  {g : VG} {F : Fn} {lk : Bool} {e : Env} {dst : Option Nat} {ops : List Ins} {keep : Option (List Nat)} {K : List Fr} : CallC G g F 47 [.str (bs s)] lk e dst ops keep K = ThenL G g F (if lk && !(T.noSl (.bool (decide (s.length = 32)))) then none else e.put g.un dst (.bool (decide (s.length = 32)))) ops keep K := callC_eq (f47 )
attribute [push_cast] f47c
set_option maxHeartbeats 2000000 in
theorem f46 {s : List UInt8}  : Fun G 46 [.str (bs s)] (.bool (!decide (s.length = 32)), []) := by
  refine Fun.of_run (g := g46) (pf := pf46) rfl rfl rfl rfl ?_
  simp (maxSteps := 1000000) (disch := first | assumption | ((try simp only [LEN, LEN2]); omega)) only [push_cast, Int.reduceToNat, Int.reduceEq, Int.reduceNe, Int.reduceLT, Int.reduceLE, Int.reduceAdd, Int.reduceSub, Int.reduceMul, Int.reduceNeg, Nat.reduceEqDiff, Nat.reduceBEq, Nat.reduceBNe, Nat.reduceAdd, Nat.reduceLeDiff, Nat.reduceLT, Nat.reduceMul, ↓reduceIte, reduceCtorEq, g46, pf46, b46]
theorem f46c {s : List UInt8}  {g : VG} {F : Fn} {lk : Bool} {e : Env} {dst : Option Nat} {ops : List Ins} {keep : Option (List Nat)} {K : List Fr} : CallC G g F 46 [.str (bs s)] lk e dst ops keep K = ThenL G g F (if lk && !(T.noSl (.bool (!decide (s.length = 32)))) then none else e.put g.un dst (.bool (!decide (s.length = 32)))) ops keep K := callC_eq (f46 )
attribute [push_cast] f46c

set_option maxHeartbeats 2000000 in
theorem f50 {S : List (List UInt8)} {W : List Put} {i : Int} (h : S.length ≤ 1000000000) : Fun G 50 [.vs true (cT S W), .int .i64 i] (.bool (decide (0 ≤ i ∧ i < S.length)), []) := by
  refine Fun.of_run (g := g50) (pf := pf50) rfl rfl rfl rfl ?_
  by_cases h1 : 0 ≤ i
  · simp (maxSteps := 1000000) (disch := first | assumption | ((try simp only [LEN, LEN2]); omega)) only [push_cast, Int.reduceToNat, Int.reduceEq, Int.reduceNe, Int.reduceLT, Int.reduceLE, Int.reduceAdd, Int.reduceSub, Int.reduceMul, Int.reduceNeg, Nat.reduceEqDiff, Nat.reduceBEq, Nat.reduceBNe, Nat.reduceAdd, Nat.reduceLeDiff, Nat.reduceLT, Nat.reduceMul, ↓reduceIte, reduceCtorEq, g50, pf50, b50, h1]
  · simp (maxSteps := 1000000) (disch := first | assumption | ((try simp only [LEN, LEN2]); omega)) only [push_cast, Int.reduceToNat, Int.reduceEq, Int.reduceNe, Int.reduceLT, Int.reduceLE, Int.reduceAdd, Int.reduceSub, Int.reduceMul, Int.reduceNeg, Nat.reduceEqDiff, Nat.reduceBEq, Nat.reduceBNe, Nat.reduceAdd, Nat.reduceLeDiff, Nat.reduceLT, Nat.reduceMul, ↓reduceIte, reduceCtorEq, g50, pf50, b50, h1]
theorem f50c {S : List (List UInt8)} {W : List Put} {i : Int} (h : S.length ≤ 1000000000) {g : VG} {F : Fn} {lk : Bool} {e : Env} {dst : Option Nat} {ops : List Ins} {keep : Option (List Nat)} {K : List Fr} : CallC G g F 50 [.vs true (cT S W), .int .i64 i] lk e dst ops keep K = ThenL G g F (if lk && !(T.noSl (.bool (decide (0 ≤ i ∧ i < S.length)))) then none else e.put g.un dst (.bool (decide (0 ≤ i ∧ i < S.length)))) ops keep K := callC_eq (f50 h)
attribute [push_cast] f50c

set_option maxHeartbeats 2000000 in
theorem f49 {S : List (List UInt8)} {W : List Put} {p : Put} (h : S.length ≤ 1000000000) : Fun G 49 [.vs true (oP p), .adr [.sl (S.map eS), .sl (W.map eP)]] (.bool (!(decide (0 ≤ p.At ∧ p.At < S.length ∧ p.Text.length = 32))), []) := by
  refine Fun.of_run (g := g49) (pf := pf49) rfl rfl rfl rfl ?_
  by_cases h1 : 0 ≤ p.At ∧ p.At < S.length
  · simp (maxSteps := 1000000) (disch := first | assumption | ((try simp only [LEN, LEN2]); omega)) only [push_cast, Int.reduceToNat, Int.reduceEq, Int.reduceNe, Int.reduceLT, Int.reduceLE, Int.reduceAdd, Int.reduceSub, Int.reduceMul, Int.reduceNeg, Nat.reduceEqDiff, Nat.reduceBEq, Nat.reduceBNe, Nat.reduceAdd, Nat.reduceLeDiff, Nat.reduceLT, Nat.reduceMul, ↓reduceIte, reduceCtorEq, g49, pf49, b49, oP, h1]
  · simp (maxSteps := 1000000) (disch := first | assumption | ((try simp only [LEN, LEN2]); omega)) only [push_cast, Int.reduceToNat, Int.reduceEq, Int.reduceNe, Int.reduceLT, Int.reduceLE, Int.reduceAdd, Int.reduceSub, Int.reduceMul, Int.reduceNeg, Nat.reduceEqDiff, Nat.reduceBEq, Nat.reduceBNe, Nat.reduceAdd, Nat.reduceLeDiff, Nat.reduceLT, Nat.reduceMul, ↓reduceIte, reduceCtorEq, g49, pf49, b49, oP, h1]
    have : ¬ (0 ≤ p.At ∧ p.At < S.length ∧ p.Text.length = 32) := fun h => h1 ⟨h.1, h.2.1⟩
    simp [this]
theorem f49c {S : List (List UInt8)} {W : List Put} {p : Put} (h : S.length ≤ 1000000000) {g : VG} {F : Fn} {lk : Bool} {e : Env} {dst : Option Nat} {ops : List Ins} {keep : Option (List Nat)} {K : List Fr} : CallC G g F 49 [.vs true (oP p), .adr [.sl (S.map eS), .sl (W.map eP)]] lk e dst ops keep K = ThenL G g F (if lk && !(T.noSl (.bool (!(decide (0 ≤ p.At ∧ p.At < S.length ∧ p.Text.length = 32))))) then none else e.put g.un dst (.bool (!(decide (0 ≤ p.At ∧ p.At < S.length ∧ p.Text.length = 32))))) ops keep K := callC_eq (f49 h)
attribute [push_cast] f49c

set_option maxHeartbeats 2000000 in
theorem f25 {S : List (List UInt8)} {W : List Put} (hS : S.length ≤ 1000000000) (hW : W.length ≤ 1000000000) : Fun G 25 [.vs true (cT S W)] (.bool (okT S W), []) := by
  refine Fun.of_run (g := g25) (pf := pf25) rfl rfl rfl rfl ?_
  have h1 := f45 (l := S) (f := 46) (caps := []) (p := fun s => !decide (s.length = 32)) hS (.inl rfl) rfl (fun w _ => f46)
  have h2 := f48 (l := W) (f := 49) (caps := [.adr [.sl (S.map eS), .sl (W.map eP)]]) (p := fun p => !(decide (0 ≤ p.At ∧ p.At < S.length ∧ p.Text.length = 32))) hW (.inr (.inl rfl)) rfl (fun w _ => f49 hS)
  by_cases h3 : (S.length : Int) < 1
  · simp (maxSteps := 1000000) (disch := first | assumption | ((try simp only [LEN, LEN2]); omega)) only [push_cast, Int.reduceToNat, Int.reduceEq, Int.reduceNe, Int.reduceLT, Int.reduceLE, Int.reduceAdd, Int.reduceSub, Int.reduceMul, Int.reduceNeg, Nat.reduceEqDiff, Nat.reduceBEq, Nat.reduceBNe, Nat.reduceAdd, Nat.reduceLeDiff, Nat.reduceLT, Nat.reduceMul, ↓reduceIte, reduceCtorEq, g25, pf25, b25, h3]
    simp [okT]; omega
  by_cases h4 : (512 : Int) < S.length
  · simp (maxSteps := 1000000) (disch := first | assumption | ((try simp only [LEN, LEN2]); omega)) only [push_cast, Int.reduceToNat, Int.reduceEq, Int.reduceNe, Int.reduceLT, Int.reduceLE, Int.reduceAdd, Int.reduceSub, Int.reduceMul, Int.reduceNeg, Nat.reduceEqDiff, Nat.reduceBEq, Nat.reduceBNe, Nat.reduceAdd, Nat.reduceLeDiff, Nat.reduceLT, Nat.reduceMul, ↓reduceIte, reduceCtorEq, g25, pf25, b25, h3, h4]
    simp [okT]; omega
  by_cases h5 : (2048 : Int) < W.length
  · simp (maxSteps := 1000000) (disch := first | assumption | ((try simp only [LEN, LEN2]); omega)) only [push_cast, Int.reduceToNat, Int.reduceEq, Int.reduceNe, Int.reduceLT, Int.reduceLE, Int.reduceAdd, Int.reduceSub, Int.reduceMul, Int.reduceNeg, Nat.reduceEqDiff, Nat.reduceBEq, Nat.reduceBNe, Nat.reduceAdd, Nat.reduceLeDiff, Nat.reduceLT, Nat.reduceMul, ↓reduceIte, reduceCtorEq, g25, pf25, b25, h3, h4, h5]
    simp [okT]; omega
  have e1 : okT S W = (S.all (fun s => decide (s.length = 32)) && W.all (okP S.length)) := by
    simp only [okT]
    rw [show decide (1 ≤ S.length ∧ S.length ≤ 512 ∧ W.length ≤ 2048) = true by simp; omega, Bool.true_and]
  have e2 : (S.any fun s => !decide (s.length = 32)) = !(S.all fun s => decide (s.length = 32)) := by rw [List.not_all_eq_any_not]
  have e3 : (W.any fun p => !decide (0 ≤ p.At ∧ p.At < S.length ∧ p.Text.length = 32)) = !(W.all (okP S.length)) := by rw [List.not_all_eq_any_not]; rfl
  rw [e2] at h1
  rw [e3] at h2
  rw [e1]
  cases h6 : S.all (fun s => decide (s.length = 32))
  · simp only [h6, Bool.not_false] at h1
    simp (maxSteps := 1000000) (disch := first | assumption | ((try simp only [LEN, LEN2]); omega)) only [push_cast, Int.reduceToNat, Int.reduceEq, Int.reduceNe, Int.reduceLT, Int.reduceLE, Int.reduceAdd, Int.reduceSub, Int.reduceMul, Int.reduceNeg, Nat.reduceEqDiff, Nat.reduceBEq, Nat.reduceBNe, Nat.reduceAdd, Nat.reduceLeDiff, Nat.reduceLT, Nat.reduceMul, ↓reduceIte, reduceCtorEq, g25, pf25, b25, h3, h4, h5, callC_eq h1]
  · simp only [h6, Bool.not_true] at h1
    simp (maxSteps := 1000000) (disch := first | assumption | ((try simp only [LEN, LEN2]); omega)) only [push_cast, Int.reduceToNat, Int.reduceEq, Int.reduceNe, Int.reduceLT, Int.reduceLE, Int.reduceAdd, Int.reduceSub, Int.reduceMul, Int.reduceNeg, Nat.reduceEqDiff, Nat.reduceBEq, Nat.reduceBNe, Nat.reduceAdd, Nat.reduceLeDiff, Nat.reduceLT, Nat.reduceMul, ↓reduceIte, reduceCtorEq, g25, pf25, b25, h3, h4, h5, callC_eq h1, callC_eq h2]
    rw [Bool.not_not]
theorem f25c {S : List (List UInt8)} {W : List Put} (hS : S.length ≤ 1000000000) (hW : W.length ≤ 1000000000) {g : VG} {F : Fn} {lk : Bool} {e : Env} {dst : Option Nat} {ops : List Ins} {keep : Option (List Nat)} {K : List Fr} : CallC G g F 25 [.vs true (cT S W)] lk e dst ops keep K = ThenL G g F (if lk && !(T.noSl (.bool (okT S W))) then none else e.put g.un dst (.bool (okT S W))) ops keep K := callC_eq (f25 hS hW)
attribute [push_cast] f25c

theorem zeroB (n : Nat) : List.replicate n [V.d (D.sc (Value.int IntKind.u8 0))] = (List.replicate n (0 : UInt8)).map oB := by simp [oB]

set_option maxHeartbeats 2000000 in
theorem f24 {n : Nat} (h : n ≤ 1000000) : Fun G 24 [.int .i64 n] (.str (bs (List.replicate n 0)), []) := by
  refine Fun.of_run (g := g24) (pf := pf24) rfl rfl rfl rfl ?_
  simp (maxSteps := 1000000) (disch := first | assumption | ((try simp only [LEN, LEN2]); omega)) only [push_cast, Int.reduceToNat, Int.reduceEq, Int.reduceNe, Int.reduceLT, Int.reduceLE, Int.reduceAdd, Int.reduceSub, Int.reduceMul, Int.reduceNeg, Nat.reduceEqDiff, Nat.reduceBEq, Nat.reduceBNe, Nat.reduceAdd, Nat.reduceLeDiff, Nat.reduceLT, Nat.reduceMul, ↓reduceIte, reduceCtorEq, g24, pf24, b24, zeroB]
theorem f24c {n : Nat} (h : n ≤ 1000000) {g : VG} {F : Fn} {lk : Bool} {e : Env} {dst : Option Nat} {ops : List Ins} {keep : Option (List Nat)} {K : List Fr} : CallC G g F 24 [.int .i64 n] lk e dst ops keep K = ThenL G g F (if lk && !(T.noSl (.str (bs (List.replicate n 0)))) then none else e.put g.un dst (.str (bs (List.replicate n 0)))) ops keep K := callC_eq (f24 h)
attribute [push_cast] f24c


set_option maxHeartbeats 2000000 in
theorem f9 {n : Nat} (h : n ≤ 1000000) : Fun G 9 [.int .i64 n] (.vs true (oT (List.replicate n zeros) []), []) := by
  refine Fun.of_run (g := g9) (pf := pf9) rfl rfl rfl rfl ?_
  simp (maxSteps := 1000000) (disch := first | assumption | ((try simp only [LEN, LEN2]); omega)) only [push_cast, Int.reduceToNat, Int.reduceEq, Int.reduceNe, Int.reduceLT, Int.reduceLE, Int.reduceAdd, Int.reduceSub, Int.reduceMul, Int.reduceNeg, Nat.reduceEqDiff, Nat.reduceBEq, Nat.reduceBNe, Nat.reduceAdd, Nat.reduceLeDiff, Nat.reduceLT, Nat.reduceMul, ↓reduceIte, reduceCtorEq, g9, pf9, b9]
  refine run_loop' (fun i : Nat => [(0, T.int .i64 n), (2, T.one (.box [.own 9 [], .own 59 []])), (3, T.one (.box (oT (List.replicate i zeros) []))), (4, T.int .i64 i)]) (fun i => i ≤ n) (fun i => n - i) 0 rfl (Nat.zero_le _) (fun i hi => ?_)
  simp (maxSteps := 1000000) (disch := first | assumption | ((try simp only [LEN, LEN2]); omega)) only [push_cast, Int.reduceToNat, Int.reduceEq, Int.reduceNe, Int.reduceLT, Int.reduceLE, Int.reduceAdd, Int.reduceSub, Int.reduceMul, Int.reduceNeg, Nat.reduceEqDiff, Nat.reduceBEq, Nat.reduceBNe, Nat.reduceAdd, Nat.reduceLeDiff, Nat.reduceLT, Nat.reduceMul, ↓reduceIte, reduceCtorEq, g9, pf9, b9]
  refine If.dec (fun h => ?_) (fun h => ?_)
  · replace h : i < n := by omega
    have hz : Fun G 24 [.int .i64 32] (.str (bs zeros), []) := f24 (n := 32) (by omega)
    simp (maxSteps := 1000000) (disch := first | assumption | ((try simp only [LEN, LEN2]); omega)) only [push_cast, Int.reduceToNat, Int.reduceEq, Int.reduceNe, Int.reduceLT, Int.reduceLE, Int.reduceAdd, Int.reduceSub, Int.reduceMul, Int.reduceNeg, Nat.reduceEqDiff, Nat.reduceBEq, Nat.reduceBNe, Nat.reduceAdd, Nat.reduceLeDiff, Nat.reduceLT, Nat.reduceMul, ↓reduceIte, reduceCtorEq, g9, pf9, b9, callC_eq hz]
    refine ⟨i + 1, ?_, by omega, by omega⟩
    simp only [List.replicate_succ', List.map_append, List.map_cons, List.map_nil, oS, oT, Int.natCast_add, Int.cast_ofNat_Int]
  · obtain rfl : i = n := by omega
    simp (maxSteps := 1000000) (disch := first | assumption | ((try simp only [LEN, LEN2]); omega)) only [push_cast, Int.reduceToNat, Int.reduceEq, Int.reduceNe, Int.reduceLT, Int.reduceLE, Int.reduceAdd, Int.reduceSub, Int.reduceMul, Int.reduceNeg, Nat.reduceEqDiff, Nat.reduceBEq, Nat.reduceBNe, Nat.reduceAdd, Nat.reduceLeDiff, Nat.reduceLT, Nat.reduceMul, ↓reduceIte, reduceCtorEq, g9, pf9, b9]
    try simp
theorem f9c {n : Nat} (h : n ≤ 1000000) {g : VG} {F : Fn} {lk : Bool} {e : Env} {dst : Option Nat} {ops : List Ins} {keep : Option (List Nat)} {K : List Fr} : CallC G g F 9 [.int .i64 n] lk e dst ops keep K = ThenL G g F (if lk && !(T.noSl (.vs true (oT (List.replicate n zeros) []))) then none else e.put g.un dst (.vs true (oT (List.replicate n zeros) []))) ops keep K := callC_eq (f9 h)
attribute [push_cast] f9c
theorem see_snoc (i : Int) : ∀ (A : List Put) (p : Put) (s : List UInt8), see s i (A ++ [p]) = if p.At = i then p.Text else see s i A
  | [], p, s => by simp [see]
  | q :: A, p, s => by simp only [List.cons_append, see]; exact see_snoc i A p _



abbrev tErr (e : Int) (t : Q.Tape) : T := .tup [(true, oT t.Sectors t.Waits), (false, [.d (.sc (.int .i64 e))])]

end Go.Mir.Try

/- Walks: the program's tape. -/
set_option linter.unusedVariables false
set_option linter.unusedSimpArgs false
set_option maxRecDepth 100000
namespace Go.Mir.Try
open Go.Proofs Go.Mir.Q

theorem Fun.given {f : FuncId} {pm : List PM} {h : List T → Option Res} {args : List T} {r : Res} (hg : G.given f = some (pm, h)) (hr : h args = some r) : Fun G f args r := ⟨1, by simp [callK, hg, hr]⟩

theorem map_d_eS (l : List (List UInt8)) : (l.map eS).map (fun x => x.map V.d) = l.map oS := by simp [eS, oS]

theorem f51 {S : List (List UInt8)} (h : S.length ≤ 1000000) : Fun G 51 [.one (.d (.sl (S.map eS)))] (.one (.own 9 (S.map oS)), []) := by
  refine Fun.given rfl ?_
  simp only [cloneGiven]
  rw [if_pos ⟨by rw [show Try.prog.cellsOf 9 = 1 by decide +kernel]; simp [eS], by rw [show Try.prog.bytesOf 9 = 16 by decide +kernel]; simp; omega, by simp; omega⟩, dV_eS]

theorem f52 {S : List Put} (h : S.length ≤ 1000000) : Fun G 52 [.one (.d (.sl (S.map eP)))] (.one (.own 59 (S.map oP)), []) := by
  refine Fun.given rfl ?_
  simp only [cloneGiven]
  rw [if_pos ⟨by rw [show Try.prog.cellsOf 59 = 2 by decide +kernel]; simp [eP], by rw [show Try.prog.bytesOf 59 = 24 by decide +kernel]; simp; omega, by simp; omega⟩, dV_eP]

set_option maxHeartbeats 2000000 in
theorem f26 {S : List (List UInt8)} {W : List Put} (h1 : S.length ≤ 1000000) (h2 : W.length ≤ 1000000) : Fun G 26 [.vs true (cT S W)] (.vs true (oT S W), []) := by
  refine Fun.of_run (g := g26) (pf := pf26) rfl rfl rfl rfl ?_
  simp (maxSteps := 1000000) (disch := first | assumption | ((try simp only [LEN, LEN2]); omega)) only [push_cast, Int.reduceToNat, Int.reduceEq, Int.reduceNe, Int.reduceLT, Int.reduceLE, Int.reduceAdd, Int.reduceSub, Int.reduceMul, Int.reduceNeg, Nat.reduceEqDiff, Nat.reduceBEq, Nat.reduceBNe, Nat.reduceAdd, Nat.reduceLeDiff, Nat.reduceLT, Nat.reduceMul, ↓reduceIte, reduceCtorEq, g26, pf26, b26, callC_eq (f51 h1), callC_eq (f52 h2)]
theorem f26c {S : List (List UInt8)} {W : List Put} (h1 : S.length ≤ 1000000) (h2 : W.length ≤ 1000000) {g : VG} {F : Fn} {lk : Bool} {e : Env} {dst : Option Nat} {ops : List Ins} {keep : Option (List Nat)} {K : List Fr} : CallC G g F 26 [.vs true (cT S W)] lk e dst ops keep K = ThenL G g F (if lk && !(T.noSl (.vs true (oT S W))) then none else e.put g.un dst (.vs true (oT S W))) ops keep K := callC_eq (f26 h1 h2)
attribute [push_cast] f26c



abbrev cDo (d : Do) : List V := [.d (.sc (.bool d.Sync)), .d (.sc (.int .i64 d.Put.At)), .d (.sc (.string (bs d.Put.Text)))]

set_option maxHeartbeats 2000000 in
theorem f27 {S : List (List UInt8)} {W : List Put} {d : Do} (hok : okT S W = true) (hd : d.Put.Text.length ≤ 1000000000) : Fun G 27 [.one (.box (oT S W)), .vs true (cDo d)] (.int .i64 (Q.stepT ⟨S, W⟩ d).1, [.box (oT (Q.stepT ⟨S, W⟩ d).2.Sectors (Q.stepT ⟨S, W⟩ d).2.Waits)]) := by
  refine Fun.of_run (g := g27) (pf := pf27) rfl rfl rfl rfl ?_
  have hok1 := okT_iff.1 hok
  cases hsync : d.Sync with
  | true =>
    rw [step_sync hsync]
    simp (maxSteps := 1000000) (disch := first | assumption | ((try simp only [LEN, LEN2]); omega)) only [push_cast, Int.reduceToNat, Int.reduceEq, Int.reduceNe, Int.reduceLT, Int.reduceLE, Int.reduceAdd, Int.reduceSub, Int.reduceMul, Int.reduceNeg, Nat.reduceEqDiff, Nat.reduceBEq, Nat.reduceBNe, Nat.reduceAdd, Nat.reduceLeDiff, Nat.reduceLT, Nat.reduceMul, ↓reduceIte, reduceCtorEq, g27, pf27, b27, hsync]
    refine run_loop' (fun i : Nat => [(0, T.one (.box (oT (flush S (W.take i)) W))), (24, T.ref 0 0 [(0, 1)]), (25, T.int .i64 W.length), (26, T.int .i64 i)]) (fun i => i ≤ W.length) (fun i => W.length - i) 0 rfl (Nat.zero_le _) (fun i hi => ?_)
    simp (maxSteps := 1000000) (disch := first | assumption | ((try simp only [LEN, LEN2]); omega)) only [push_cast, Int.reduceToNat, Int.reduceEq, Int.reduceNe, Int.reduceLT, Int.reduceLE, Int.reduceAdd, Int.reduceSub, Int.reduceMul, Int.reduceNeg, Nat.reduceEqDiff, Nat.reduceBEq, Nat.reduceBNe, Nat.reduceAdd, Nat.reduceLeDiff, Nat.reduceLT, Nat.reduceMul, ↓reduceIte, reduceCtorEq, g27, pf27, b27]
    refine If.dec (fun h => ?_) (fun h => ?_)
    · replace h : i < W.length := by omega
      have hp := hok1.2.2 W[i] (List.getElem_mem h)
      have hcl := flush_length (W.take i) S
      obtain ⟨n, hn⟩ := Int.eq_ofNat_of_zero_le hp.1
      have hn2 : n < (flush S (W.take i)).length := by omega
      simp (maxSteps := 1000000) (disch := first | assumption | ((try simp only [LEN, LEN2]); omega)) only [push_cast, Int.reduceToNat, Int.reduceEq, Int.reduceNe, Int.reduceLT, Int.reduceLE, Int.reduceAdd, Int.reduceSub, Int.reduceMul, Int.reduceNeg, Nat.reduceEqDiff, Nat.reduceBEq, Nat.reduceBNe, Nat.reduceAdd, Nat.reduceLeDiff, Nat.reduceLT, Nat.reduceMul, ↓reduceIte, reduceCtorEq, g27, pf27, b27, oP, oS, hn]
      refine ⟨i + 1, ?_, by omega, by omega⟩
      rw [List.take_succ_eq_append_getElem h, flush_snoc]
      simp only [put1, oT, List.map_set, hn, Int.toNat_natCast, oS, Int.natCast_add, Int.cast_ofNat_Int]
    · obtain rfl : i = W.length := by omega
      simp (maxSteps := 1000000) (disch := first | assumption | ((try simp only [LEN, LEN2]); omega)) only [push_cast, Int.reduceToNat, Int.reduceEq, Int.reduceNe, Int.reduceLT, Int.reduceLE, Int.reduceAdd, Int.reduceSub, Int.reduceMul, Int.reduceNeg, Nat.reduceEqDiff, Nat.reduceBEq, Nat.reduceBNe, Nat.reduceAdd, Nat.reduceLeDiff, Nat.reduceLT, Nat.reduceMul, ↓reduceIte, reduceCtorEq, g27, pf27, b27]
      simp
  | false =>
    by_cases hat : 0 ≤ d.Put.At ∧ d.Put.At < S.length
    · by_cases hlen : d.Put.Text.length = 32
      · by_cases hlim : 2048 ≤ W.length
        · have hlim' : (2048 : Int) ≤ W.length := by omega
          rw [step_limit (T := ⟨S, W⟩) hsync hat hlen hlim]
          simp (maxSteps := 1000000) (disch := first | assumption | ((try simp only [LEN, LEN2]); omega)) only [push_cast, Int.reduceToNat, Int.reduceEq, Int.reduceNe, Int.reduceLT, Int.reduceLE, Int.reduceAdd, Int.reduceSub, Int.reduceMul, Int.reduceNeg, Nat.reduceEqDiff, Nat.reduceBEq, Nat.reduceBNe, Nat.reduceAdd, Nat.reduceLeDiff, Nat.reduceLT, Nat.reduceMul, ↓reduceIte, reduceCtorEq, g27, pf27, b27, hsync, hat, hlen, hlim']
        · have hlim' : ¬ (2048 : Int) ≤ W.length := by omega
          rw [step_ok (T := ⟨S, W⟩) hsync hat hlen hlim]
          simp (maxSteps := 1000000) (disch := first | assumption | ((try simp only [LEN, LEN2]); omega)) only [push_cast, Int.reduceToNat, Int.reduceEq, Int.reduceNe, Int.reduceLT, Int.reduceLE, Int.reduceAdd, Int.reduceSub, Int.reduceMul, Int.reduceNeg, Nat.reduceEqDiff, Nat.reduceBEq, Nat.reduceBNe, Nat.reduceAdd, Nat.reduceLeDiff, Nat.reduceLT, Nat.reduceMul, ↓reduceIte, reduceCtorEq, g27, pf27, b27, hsync, hat, hlen, hlim', oP]
          simp [oP]
      · rw [step_form (T := ⟨S, W⟩) hsync hat hlen]
        simp (maxSteps := 1000000) (disch := first | assumption | ((try simp only [LEN, LEN2]); omega)) only [push_cast, Int.reduceToNat, Int.reduceEq, Int.reduceNe, Int.reduceLT, Int.reduceLE, Int.reduceAdd, Int.reduceSub, Int.reduceMul, Int.reduceNeg, Nat.reduceEqDiff, Nat.reduceBEq, Nat.reduceBNe, Nat.reduceAdd, Nat.reduceLeDiff, Nat.reduceLT, Nat.reduceMul, ↓reduceIte, reduceCtorEq, g27, pf27, b27, hsync, hat, hlen]
    · rw [step_none (T := ⟨S, W⟩) hsync hat]
      simp (maxSteps := 1000000) (disch := first | assumption | ((try simp only [LEN, LEN2]); omega)) only [push_cast, Int.reduceToNat, Int.reduceEq, Int.reduceNe, Int.reduceLT, Int.reduceLE, Int.reduceAdd, Int.reduceSub, Int.reduceMul, Int.reduceNeg, Nat.reduceEqDiff, Nat.reduceBEq, Nat.reduceBNe, Nat.reduceAdd, Nat.reduceLeDiff, Nat.reduceLT, Nat.reduceMul, ↓reduceIte, reduceCtorEq, g27, pf27, b27, hsync, hat]
theorem f27t {S : List (List UInt8)} {W : List Put} {d : Do} (hok : okT S W = true) (hd : d.Put.Text.length ≤ 1000000000) {g : VG} {F : Fn} {lk : Bool} {ags : List Arg} {e0 e1 : Env} {dst : Option Nat} {ops : List Ins} {keep : Option (List Nat)} {K : List Fr} : CallT G g F 27 [.one (.box (oT S W)), .vs true (cDo d)] lk ags e0 e1 dst ops keep K = RetT G g F (.int .i64 (Q.stepT ⟨S, W⟩ d).1) [.box (oT (Q.stepT ⟨S, W⟩ d).2.Sectors (Q.stepT ⟨S, W⟩ d).2.Waits)] lk ags e0 e1 dst ops keep K := callT_eq (f27 hok hd)
attribute [push_cast] f27t

abbrev tErr' (e : Int) (t : Q.Tape) : T := .tup [(true, oT t.Sectors t.Waits), (false, [.d (.sc (.int .i64 e))])]

/-- What tape.Play tells. -/
def playP (S : List (List UInt8)) (W : List Put) (n : Int) (l : List Do) : Int × Q.Tape :=
  if okT S W = true ∧ -1 ≤ n then playT ⟨S, W⟩ (upto n l) else (1, ⟨[], []⟩)

set_option maxHeartbeats 2000000 in
theorem f10 {S : List (List UInt8)} {W : List Put} {n : Int} {l : List Do} (hS : S.length ≤ 1000000000) (hW : W.length ≤ 1000000000) (hl : smDo l) : Fun G 10 [.vs true (cT S W), .int .i64 n, .one (.d (.sl (l.map eDo)))] (tErr' (playP S W n l).1 (playP S W n l).2, []) := by
  refine Fun.of_run (g := g10) (pf := pf10) rfl rfl rfl rfl ?_
  obtain ⟨hl, hl2⟩ := hl
  cases hok : okT S W with
  | false =>
    have : playP S W n l = (1, ⟨[], []⟩) := by simp [playP, hok]
    simp (maxSteps := 1000000) (disch := first | assumption | ((try simp only [LEN, LEN2]); omega)) only [push_cast, Int.reduceToNat, Int.reduceEq, Int.reduceNe, Int.reduceLT, Int.reduceLE, Int.reduceAdd, Int.reduceSub, Int.reduceMul, Int.reduceNeg, Nat.reduceEqDiff, Nat.reduceBEq, Nat.reduceBNe, Nat.reduceAdd, Nat.reduceLeDiff, Nat.reduceLT, Nat.reduceMul, ↓reduceIte, reduceCtorEq, g10, pf10, b10, hok]
    rw [this]; simp
  | true =>
  by_cases hn : n < -1
  · have : playP S W n l = (1, ⟨[], []⟩) := by unfold playP; rw [if_neg (by omega)]
    simp (maxSteps := 1000000) (disch := first | assumption | ((try simp only [LEN, LEN2]); omega)) only [push_cast, Int.reduceToNat, Int.reduceEq, Int.reduceNe, Int.reduceLT, Int.reduceLE, Int.reduceAdd, Int.reduceSub, Int.reduceMul, Int.reduceNeg, Nat.reduceEqDiff, Nat.reduceBEq, Nat.reduceBNe, Nat.reduceAdd, Nat.reduceLeDiff, Nat.reduceLT, Nat.reduceMul, ↓reduceIte, reduceCtorEq, g10, pf10, b10, hok, hn]
    rw [this]; simp
  have hpl : playP S W n l = playT ⟨S, W⟩ (upto n l) := by unfold playP; rw [if_pos ⟨hok, by omega⟩]
  rw [hpl]
  have hok0 := okT_iff.1 hok
  simp (maxSteps := 1000000) (disch := first | assumption | ((try simp only [LEN, LEN2]); omega)) only [push_cast, Int.reduceToNat, Int.reduceEq, Int.reduceNe, Int.reduceLT, Int.reduceLE, Int.reduceAdd, Int.reduceSub, Int.reduceMul, Int.reduceNeg, Nat.reduceEqDiff, Nat.reduceBEq, Nat.reduceBNe, Nat.reduceAdd, Nat.reduceLeDiff, Nat.reduceLT, Nat.reduceMul, ↓reduceIte, reduceCtorEq, g10, pf10, b10, hok, hn]
  refine run_loop' (fun i : Nat => [(1, T.int .i64 n), (3, T.one (.box (oT (playT ⟨S, W⟩ (l.take i)).2.Sectors (playT ⟨S, W⟩ (l.take i)).2.Waits))), (6, T.one (.box [.own 9 [], .own 59 []])), (21, T.one (.d (.sl (l.map eDo)))), (22, T.int .i64 l.length), (23, T.int .i64 i)]) (fun i => i ≤ (upto n l).length ∧ (playT ⟨S, W⟩ (l.take i)).1 = 0) (fun i => l.length - i) 0 rfl ⟨Nat.zero_le _, rfl⟩ (fun i hi => ?_)
  obtain ⟨hi, h0⟩ := hi
  have hoki := okT_play hok h0
  obtain ⟨S', W', hT⟩ : ∃ S' W', (playT ⟨S, W⟩ (l.take i)).2 = ⟨S', W'⟩ := ⟨_, _, rfl⟩
  simp only [hT] at hoki
  have hok1 := okT_iff.1 hoki
  have hle := upto_le n l
  by_cases hin : i < (upto n l).length
  · obtain ⟨hin1, hin2⟩ := (upto_len n l i).1 hin
    have hd := hl2 l[i] (List.getElem_mem hin1)
    obtain ⟨d, hd0⟩ : ∃ d, d = l[i] := ⟨_, rfl⟩
    have hsn := playT_snoc (d := l[i]) h0
    rw [← List.take_succ_eq_append_getElem hin1, hT, ← hd0] at hsn
    have hui : (upto n l).take (i + 1) = l.take (i + 1) := upto_take n l hin
    have hend : (playT ⟨S, W⟩ (l.take (i + 1))).1 ≠ 0 → playT ⟨S, W⟩ (upto n l) = playT ⟨S, W⟩ (l.take (i + 1)) := fun hne => by
      conv => lhs; rw [← List.take_append_drop (i + 1) (upto n l), hui]
      exact playT_err hne
    have hc1 : (i : Int) < l.length := by omega
    rw [← hd0] at hd
    obtain ⟨e, t, het⟩ : ∃ e t, Q.stepT ⟨S', W'⟩ d = (e, t) := ⟨_, _, rfl⟩
    have hst := f27 (d := d) hoki (by omega)
    rw [het] at hsn hst
    have hni : ¬ (i : Int) = n := by omega
    by_cases he : e = 0
    · subst he
      simp only [if_true] at hsn
      simp (maxSteps := 1000000) (disch := first | assumption | ((try simp only [LEN, LEN2]); omega)) only [push_cast, Int.reduceToNat, Int.reduceEq, Int.reduceNe, Int.reduceLT, Int.reduceLE, Int.reduceAdd, Int.reduceSub, Int.reduceMul, Int.reduceNeg, Nat.reduceEqDiff, Nat.reduceBEq, Nat.reduceBNe, Nat.reduceAdd, Nat.reduceLeDiff, Nat.reduceLT, Nat.reduceMul, ↓reduceIte, reduceCtorEq, g10, pf10, b10, hT, hc1, hni, eDo, ← hd0, callT_eq hst]
      refine ⟨i + 1, ?_, ⟨by omega, by rw [hsn]⟩, by omega⟩
      rw [hsn]; simp
    · simp only [he, if_false] at hsn
      have := hend (by rw [hsn]; exact he)
      simp (maxSteps := 1000000) (disch := first | assumption | ((try simp only [LEN, LEN2]); omega)) only [push_cast, Int.reduceToNat, Int.reduceEq, Int.reduceNe, Int.reduceLT, Int.reduceLE, Int.reduceAdd, Int.reduceSub, Int.reduceMul, Int.reduceNeg, Nat.reduceEqDiff, Nat.reduceBEq, Nat.reduceBNe, Nat.reduceAdd, Nat.reduceLeDiff, Nat.reduceLT, Nat.reduceMul, ↓reduceIte, reduceCtorEq, g10, pf10, b10, hT, hc1, hni, eDo, ← hd0, callT_eq hst, he]
      rw [this, hsn]; simp
  · have hii : i = (upto n l).length := by omega
    have hfin : playT ⟨S, W⟩ (upto n l) = (0, ⟨S', W'⟩) := by
      have h1 := upto_take n l (Nat.le_of_eq hii)
      rw [hii, List.take_length, ← hii] at h1
      rw [h1]
      exact Prod.ext h0 hT
    have hnot := mt (upto_len n l i).2 hin
    by_cases hc1 : (i : Int) < l.length
    · have hni : n = (i : Int) := by
        have : i ≤ n.toNat := by
          rw [hii]; unfold upto; split
          · omega
          · rw [List.length_take]; omega
        omega
      subst hni
      simp (maxSteps := 1000000) (disch := first | assumption | ((try simp only [LEN, LEN2]); omega)) only [push_cast, Int.reduceToNat, Int.reduceEq, Int.reduceNe, Int.reduceLT, Int.reduceLE, Int.reduceAdd, Int.reduceSub, Int.reduceMul, Int.reduceNeg, Nat.reduceEqDiff, Nat.reduceBEq, Nat.reduceBNe, Nat.reduceAdd, Nat.reduceLeDiff, Nat.reduceLT, Nat.reduceMul, ↓reduceIte, reduceCtorEq, g10, pf10, b10, hT, hc1, eDo, eq_self]
      rw [hfin]
    · simp (maxSteps := 1000000) (disch := first | assumption | ((try simp only [LEN, LEN2]); omega)) only [push_cast, Int.reduceToNat, Int.reduceEq, Int.reduceNe, Int.reduceLT, Int.reduceLE, Int.reduceAdd, Int.reduceSub, Int.reduceMul, Int.reduceNeg, Nat.reduceEqDiff, Nat.reduceBEq, Nat.reduceBNe, Nat.reduceAdd, Nat.reduceLeDiff, Nat.reduceLT, Nat.reduceMul, ↓reduceIte, reduceCtorEq, g10, pf10, b10, hT, hc1]
      rw [hfin]
theorem f10c {S : List (List UInt8)} {W : List Put} {n : Int} {l : List Do} (hS : S.length ≤ 1000000000) (hW : W.length ≤ 1000000000) (hl : smDo l) {g : VG} {F : Fn} {lk : Bool} {e : Env} {dst : Option Nat} {ops : List Ins} {keep : Option (List Nat)} {K : List Fr} : CallC G g F 10 [.vs true (cT S W), .int .i64 n, .one (.d (.sl (l.map eDo)))] lk e dst ops keep K = ThenL G g F (if lk && !(T.noSl (tErr' (playP S W n l).1 (playP S W n l).2)) then none else e.put g.un dst (tErr' (playP S W n l).1 (playP S W n l).2)) ops keep K := callC_eq (f10 hS hW hl)
attribute [push_cast] f10c


end Go.Mir.Try

/- Walks: may a map be? -/
set_option linter.unusedVariables false
set_option linter.unusedSimpArgs false
set_option maxRecDepth 100000
namespace Go.Mir.Try
open Go.Proofs Go.Mir.Q

theorem okRows_one {l : List Row} (h : 0 < l.length) : okRows (l.take 1) = okRow l[0] := by
  obtain ⟨a, l', rfl⟩ : ∃ a l', l = a :: l' := List.exists_cons_of_length_pos h
  simp [okRows, rising]
theorem okRows_next {l : List Row} {j : Nat} (h : j + 1 < l.length) : okRows (l.take (j + 2)) = (okRows (l.take (j + 1)) && (okRow l[j + 1] && Op.bytesLess l[j].Key l[j + 1].Key)) := by
  rw [List.take_succ_eq_append_getElem h, okRows_snoc]
  have : (l.take (j + 1)).getLast? = some l[j] := by
    rw [List.take_succ_eq_append_getElem (by omega), List.getLast?_concat]
  rw [this]
theorem okRows_bad {l : List Row} {k : Nat} (h : okRows (l.take k) = false) : okRows l = false := by
  rw [← Bool.not_eq_true]
  intro hh
  rw [← List.take_append_drop k l] at hh
  rw [okRows_pre hh] at h
  cases h

set_option maxHeartbeats 2000000 in
theorem f68 {l : List Row} (hl : l.length ≤ 1000000000) : Fun G 68 [.one (.d (.sl (l.map eRow)))] (.bool (okRows l), []) := by
  refine Fun.of_run (g := g68) (pf := pf68) rfl rfl rfl rfl ?_
  simp (maxSteps := 1000000) (disch := first | assumption | ((try simp only [LEN, LEN2]); omega)) only [push_cast, Int.reduceToNat, Int.reduceEq, Int.reduceNe, Int.reduceLT, Int.reduceLE, Int.reduceAdd, Int.reduceSub, Int.reduceMul, Int.reduceNeg, Nat.reduceEqDiff, Nat.reduceBEq, Nat.reduceBNe, Nat.reduceAdd, Nat.reduceLeDiff, Nat.reduceLT, Nat.reduceMul, ↓reduceIte, reduceCtorEq, g68, pf68, b68]
  refine run_loop' (fun i : Nat => [(0, T.one (.d (.sl (l.map eRow)))), (5, T.one (.d (.sl (l.map eRow)))), (6, T.int .i64 l.length), (7, T.int .i64 i)]) (fun i => i ≤ l.length ∧ okRows (l.take i) = true) (fun i => l.length - i) 0 rfl ⟨Nat.zero_le _, rfl⟩ (fun i hi => ?_)
  obtain ⟨hi, ht⟩ := hi
  by_cases h : (i : Int) < l.length
  · have hi' : i < l.length := by omega
    have hno : okRow l[i] = false → okRows l = false := fun hx => by
      rw [← Bool.not_eq_true]
      intro hh
      simp only [okRows, Bool.and_eq_true, List.all_eq_true] at hh
      rw [hh.1 _ (List.getElem_mem hi')] at hx
      cases hx
    by_cases hk : l[i].Key ≠ [] ∧ l[i].Key.length ≤ 12
    · by_cases hv : l[i].Value.length ≤ 20
      · have hx : okRow l[i] = true := by
          have := List.length_pos_iff.2 hk.1
          simp only [okRow, decide_eq_true_eq]; omega
        by_cases h0 : (0 : Int) < i
        · have e1 : ((i : Int) - 1).toNat = i - 1 := by omega
          have hn : okRows (l.take (i + 1)) = Op.bytesLess l[i - 1].Key l[i].Key := by
            obtain ⟨j, rfl⟩ : ∃ j, i = j + 1 := ⟨i - 1, by omega⟩
            have hn := okRows_next hi'
            rw [ht, hx, Bool.true_and, Bool.true_and] at hn
            exact hn
          cases hb : Op.bytesLess l[i - 1].Key l[i].Key with
          | true =>
            simp (maxSteps := 1000000) (disch := first | assumption | ((try simp only [LEN, LEN2]); omega)) only [push_cast, Int.reduceToNat, Int.reduceEq, Int.reduceNe, Int.reduceLT, Int.reduceLE, Int.reduceAdd, Int.reduceSub, Int.reduceMul, Int.reduceNeg, Nat.reduceEqDiff, Nat.reduceBEq, Nat.reduceBNe, Nat.reduceAdd, Nat.reduceLeDiff, Nat.reduceLT, Nat.reduceMul, ↓reduceIte, reduceCtorEq, g68, pf68, b68, h, eRow, hk, hv, h0, e1, less_total, hb]
            exact ⟨i + 1, by simp, ⟨by omega, by rw [hn, hb]⟩, by omega⟩
          | false =>
            rw [hb] at hn
            simp (maxSteps := 1000000) (disch := first | assumption | ((try simp only [LEN, LEN2]); omega)) only [push_cast, Int.reduceToNat, Int.reduceEq, Int.reduceNe, Int.reduceLT, Int.reduceLE, Int.reduceAdd, Int.reduceSub, Int.reduceMul, Int.reduceNeg, Nat.reduceEqDiff, Nat.reduceBEq, Nat.reduceBNe, Nat.reduceAdd, Nat.reduceLeDiff, Nat.reduceLT, Nat.reduceMul, ↓reduceIte, reduceCtorEq, g68, pf68, b68, h, eRow, hk, hv, h0, e1, less_total, hb, okRows_bad hn]
        · have hn : okRows (l.take (i + 1)) = true := by
            obtain rfl : i = 0 := by omega
            rw [okRows_one hi', hx]
          simp (maxSteps := 1000000) (disch := first | assumption | ((try simp only [LEN, LEN2]); omega)) only [push_cast, Int.reduceToNat, Int.reduceEq, Int.reduceNe, Int.reduceLT, Int.reduceLE, Int.reduceAdd, Int.reduceSub, Int.reduceMul, Int.reduceNeg, Nat.reduceEqDiff, Nat.reduceBEq, Nat.reduceBNe, Nat.reduceAdd, Nat.reduceLeDiff, Nat.reduceLT, Nat.reduceMul, ↓reduceIte, reduceCtorEq, g68, pf68, b68, h, eRow, hk, hv, h0]
          exact ⟨i + 1, by simp, ⟨by omega, hn⟩, by omega⟩
      · have := hno (by simp only [okRow, decide_eq_false_iff_not]; omega)
        simp (maxSteps := 1000000) (disch := first | assumption | ((try simp only [LEN, LEN2]); omega)) only [push_cast, Int.reduceToNat, Int.reduceEq, Int.reduceNe, Int.reduceLT, Int.reduceLE, Int.reduceAdd, Int.reduceSub, Int.reduceMul, Int.reduceNeg, Nat.reduceEqDiff, Nat.reduceBEq, Nat.reduceBNe, Nat.reduceAdd, Nat.reduceLeDiff, Nat.reduceLT, Nat.reduceMul, ↓reduceIte, reduceCtorEq, g68, pf68, b68, h, eRow, hk, hv, this]
    · have := hno (by
        simp only [okRow, decide_eq_false_iff_not]
        intro hh
        exact hk ⟨List.length_pos_iff.1 (by omega), by omega⟩)
      simp (maxSteps := 1000000) (disch := first | assumption | ((try simp only [LEN, LEN2]); omega)) only [push_cast, Int.reduceToNat, Int.reduceEq, Int.reduceNe, Int.reduceLT, Int.reduceLE, Int.reduceAdd, Int.reduceSub, Int.reduceMul, Int.reduceNeg, Nat.reduceEqDiff, Nat.reduceBEq, Nat.reduceBNe, Nat.reduceAdd, Nat.reduceLeDiff, Nat.reduceLT, Nat.reduceMul, ↓reduceIte, reduceCtorEq, g68, pf68, b68, h, eRow, hk, this]
  · obtain rfl : i = l.length := by omega
    rw [List.take_length] at ht
    simp (maxSteps := 1000000) (disch := first | assumption | ((try simp only [LEN, LEN2]); omega)) only [push_cast, Int.reduceToNat, Int.reduceEq, Int.reduceNe, Int.reduceLT, Int.reduceLE, Int.reduceAdd, Int.reduceSub, Int.reduceMul, Int.reduceNeg, Nat.reduceEqDiff, Nat.reduceBEq, Nat.reduceBNe, Nat.reduceAdd, Nat.reduceLeDiff, Nat.reduceLT, Nat.reduceMul, ↓reduceIte, reduceCtorEq, g68, pf68, b68, h, ht]
theorem f68c {l : List Row} (hl : l.length ≤ 1000000000) {g : VG} {F : Fn} {lk : Bool} {e : Env} {dst : Option Nat} {ops : List Ins} {keep : Option (List Nat)} {K : List Fr} : CallC G g F 68 [.one (.d (.sl (l.map eRow)))] lk e dst ops keep K = ThenL G g F (if lk && !(T.noSl (.bool (okRows l))) then none else e.put g.un dst (.bool (okRows l))) ops keep K := callC_eq (f68 hl)
attribute [push_cast] f68c
set_option maxHeartbeats 2000000 in
theorem f67 {l : List Row} (hl : l.length ≤ 1000000000) : Fun G 67 [.one (.d (.sl (l.map eRow)))] (.bool (!okRows l), []) := by
  refine Fun.of_run (g := g67) (pf := pf67) rfl rfl rfl rfl ?_
  simp (maxSteps := 1000000) (disch := first | assumption | ((try simp only [LEN, LEN2]); omega)) only [push_cast, Int.reduceToNat, Int.reduceEq, Int.reduceNe, Int.reduceLT, Int.reduceLE, Int.reduceAdd, Int.reduceSub, Int.reduceMul, Int.reduceNeg, Nat.reduceEqDiff, Nat.reduceBEq, Nat.reduceBNe, Nat.reduceAdd, Nat.reduceLeDiff, Nat.reduceLT, Nat.reduceMul, ↓reduceIte, reduceCtorEq, g67, pf67, b67]
theorem f67c {l : List Row} (hl : l.length ≤ 1000000000) {g : VG} {F : Fn} {lk : Bool} {e : Env} {dst : Option Nat} {ops : List Ins} {keep : Option (List Nat)} {K : List Fr} : CallC G g F 67 [.one (.d (.sl (l.map eRow)))] lk e dst ops keep K = ThenL G g F (if lk && !(T.noSl (.bool (!okRows l))) then none else e.put g.un dst (.bool (!okRows l))) ops keep K := callC_eq (f67 hl)
attribute [push_cast] f67c
end Go.Mir.Try

/- Walks: may a map be? its image. -/
set_option linter.unusedVariables false
set_option linter.unusedSimpArgs false
set_option maxRecDepth 100000
namespace Go.Mir.Try
open Go.Proofs Go.Mir.Q

theorem f84 {l : List (List Row)} {f : FuncId} {caps : List T} {p : (List Row) → Bool} (hl : l.length ≤ 1000000000) (hpm : G.pm f = [.ro] ∨ G.pm f = [.ro, .ro] ∨ G.pm f = [.ro, .ro, .ro] ∨ G.pm f = [.ro, .ro, .ro, .ro]) (hcap : capsData caps = true) (hf : ∀ w ∈ l, Fun G f (.one (.d (.sl (w.map eRow))) :: caps) (.bool (p w), [])) :
    Fun G 84 [.one (.d (.sl (l.map eMp))), .fn f caps] (.int .i64 (idx p l), []) := by
  refine Fun.of_run (g := g84) (pf := pf84) rfl rfl rfl rfl ?_
  have hcap2 := capsRo_data (caps := caps) hcap
  have hcap3 := rootsL_data (caps := caps) hcap
  simp (maxSteps := 1000000) (disch := first | assumption | ((try simp only [LEN, LEN2]); omega)) only [push_cast, Int.reduceToNat, Int.reduceEq, Int.reduceNe, Int.reduceLT, Int.reduceLE, Int.reduceAdd, Int.reduceSub, Int.reduceMul, Int.reduceNeg, Nat.reduceEqDiff, Nat.reduceBEq, Nat.reduceBNe, Nat.reduceAdd, Nat.reduceLeDiff, Nat.reduceLT, Nat.reduceMul, ↓reduceIte, reduceCtorEq, g84, pf84, b84, hcap2, hcap3, List.all_nil]
  refine run_loop' (fun i : Nat => [(0, T.one (.d (.sl (l.map eMp)))), (1, T.fn f caps), (7, T.int .i64 l.length), (8, T.int .i64 i)]) (fun i => i ≤ l.length ∧ ∀ x ∈ l.take i, p x = false) (fun i => l.length - i) 0 rfl ⟨Nat.zero_le _, by simp⟩ (fun i hi => ?_)
  obtain ⟨hi, ht⟩ := hi
  simp (maxSteps := 1000000) (disch := first | assumption | ((try simp only [LEN, LEN2]); omega)) only [push_cast, Int.reduceToNat, Int.reduceEq, Int.reduceNe, Int.reduceLT, Int.reduceLE, Int.reduceAdd, Int.reduceSub, Int.reduceMul, Int.reduceNeg, Nat.reduceEqDiff, Nat.reduceBEq, Nat.reduceBNe, Nat.reduceAdd, Nat.reduceLeDiff, Nat.reduceLT, Nat.reduceMul, ↓reduceIte, reduceCtorEq, g84, pf84, b84, hcap2, hcap3, List.all_nil]
  refine If.dec (fun h => ?_) (fun h => ?_)
  · replace h : i < l.length := by omega
    have h2 := hf l[i] (List.getElem_mem h)
    skip
    by_cases hp : p l[i] = true
    · rcases hpm with hpm | hpm | hpm | hpm <;> simp (maxSteps := 1000000) (disch := first | assumption | ((try simp only [LEN, LEN2]); omega)) only [push_cast, Int.reduceToNat, Int.reduceEq, Int.reduceNe, Int.reduceLT, Int.reduceLE, Int.reduceAdd, Int.reduceSub, Int.reduceMul, Int.reduceNeg, Nat.reduceEqDiff, Nat.reduceBEq, Nat.reduceBNe, Nat.reduceAdd, Nat.reduceLeDiff, Nat.reduceLT, Nat.reduceMul, ↓reduceIte, reduceCtorEq, g84, pf84, b84, hcap2, hcap3, List.all_nil, hpm, eMp, callT_eq h2, hp] <;> rw [idx_some h ht hp]
    · rw [Bool.not_eq_true] at hp
      rcases hpm with hpm | hpm | hpm | hpm <;> simp (maxSteps := 1000000) (disch := first | assumption | ((try simp only [LEN, LEN2]); omega)) only [push_cast, Int.reduceToNat, Int.reduceEq, Int.reduceNe, Int.reduceLT, Int.reduceLE, Int.reduceAdd, Int.reduceSub, Int.reduceMul, Int.reduceNeg, Nat.reduceEqDiff, Nat.reduceBEq, Nat.reduceBNe, Nat.reduceAdd, Nat.reduceLeDiff, Nat.reduceLT, Nat.reduceMul, ↓reduceIte, reduceCtorEq, g84, pf84, b84, hcap2, hcap3, List.all_nil, hpm, eMp, callT_eq h2, hp]
      all_goals
        refine ⟨i + 1, rfl, ⟨by omega, fun x hx => ?_⟩, by omega⟩
        rw [List.take_succ_eq_append_getElem h, List.mem_append, List.mem_singleton] at hx
        rcases hx with hx | rfl
        · exact ht x hx
        · exact hp
  · obtain rfl : i = l.length := by omega
    simp (maxSteps := 1000000) (disch := first | assumption | ((try simp only [LEN, LEN2]); omega)) only [push_cast, Int.reduceToNat, Int.reduceEq, Int.reduceNe, Int.reduceLT, Int.reduceLE, Int.reduceAdd, Int.reduceSub, Int.reduceMul, Int.reduceNeg, Nat.reduceEqDiff, Nat.reduceBEq, Nat.reduceBNe, Nat.reduceAdd, Nat.reduceLeDiff, Nat.reduceLT, Nat.reduceMul, ↓reduceIte, reduceCtorEq, g84, pf84, b84, hcap2, hcap3, List.all_nil]
    rw [idx_none (fun x hx => ht x (by rw [List.take_length]; exact hx))]
theorem f66 {l : List (List Row)} {f : FuncId} {caps : List T} {p : (List Row) → Bool} (hl : l.length ≤ 1000000000) (hpm : G.pm f = [.ro] ∨ G.pm f = [.ro, .ro] ∨ G.pm f = [.ro, .ro, .ro] ∨ G.pm f = [.ro, .ro, .ro, .ro]) (hcap : capsData caps = true) (hf : ∀ w ∈ l, Fun G f (.one (.d (.sl (w.map eRow))) :: caps) (.bool (p w), [])) :
    Fun G 66 [.one (.d (.sl (l.map eMp))), .fn f caps] (.bool (l.any p), []) := by
  refine Fun.of_run (g := g66) (pf := pf66) rfl rfl rfl rfl ?_
  have hcap2 := capsRo_data (caps := caps) hcap
  have hcap3 := rootsL_data (caps := caps) hcap
  simp (maxSteps := 1000000) (disch := first | assumption | ((try simp only [LEN, LEN2]); omega)) only [push_cast, Int.reduceToNat, Int.reduceEq, Int.reduceNe, Int.reduceLT, Int.reduceLE, Int.reduceAdd, Int.reduceSub, Int.reduceMul, Int.reduceNeg, Nat.reduceEqDiff, Nat.reduceBEq, Nat.reduceBNe, Nat.reduceAdd, Nat.reduceLeDiff, Nat.reduceLT, Nat.reduceMul, ↓reduceIte, reduceCtorEq, g66, pf66, b66, hcap2, hcap3, List.all_nil, callC_eq (f84 hl hpm hcap hf)]
  rw [← idx_nonneg]

set_option maxHeartbeats 2000000 in
theorem f43 {m : Map} (hm : smM m) : Fun G 43 [.one (.d (.sl (m.map eMp)))] (.bool (okM m), []) := by
  refine Fun.of_run (g := g43) (pf := pf43) rfl rfl rfl rfl ?_
  obtain ⟨hm, hm2⟩ := hm
  have h := f66 (l := m) (f := 67) (caps := []) (p := fun w => !okRows w) (by omega) (.inl rfl) rfl (fun w hw => f67 (by have := (hm2 w hw).1; omega))
  rw [List.not_all_eq_any_not.symm] at h
  by_cases h3 : (m.length : Int) ≤ 3
  · simp (maxSteps := 1000000) (disch := first | assumption | ((try simp only [LEN, LEN2]); omega)) only [push_cast, Int.reduceToNat, Int.reduceEq, Int.reduceNe, Int.reduceLT, Int.reduceLE, Int.reduceAdd, Int.reduceSub, Int.reduceMul, Int.reduceNeg, Nat.reduceEqDiff, Nat.reduceBEq, Nat.reduceBNe, Nat.reduceAdd, Nat.reduceLeDiff, Nat.reduceLT, Nat.reduceMul, ↓reduceIte, reduceCtorEq, g43, pf43, b43, h3, callC_eq h]
    have : m.length ≤ 3 := by omega
    simp [okM, this]
  · simp (maxSteps := 1000000) (disch := first | assumption | ((try simp only [LEN, LEN2]); omega)) only [push_cast, Int.reduceToNat, Int.reduceEq, Int.reduceNe, Int.reduceLT, Int.reduceLE, Int.reduceAdd, Int.reduceSub, Int.reduceMul, Int.reduceNeg, Nat.reduceEqDiff, Nat.reduceBEq, Nat.reduceBNe, Nat.reduceAdd, Nat.reduceLeDiff, Nat.reduceLT, Nat.reduceMul, ↓reduceIte, reduceCtorEq, g43, pf43, b43, h3]
    have : ¬ m.length ≤ 3 := by omega
    simp [okM, this]
theorem f43c {m : Map} (hm : smM m) {g : VG} {F : Fn} {lk : Bool} {e : Env} {dst : Option Nat} {ops : List Ins} {keep : Option (List Nat)} {K : List Fr} : CallC G g F 43 [.one (.d (.sl (m.map eMp)))] lk e dst ops keep K = ThenL G g F (if lk && !(T.noSl (.bool (okM m))) then none else e.put g.un dst (.bool (okM m))) ops keep K := callC_eq (f43 hm)
attribute [push_cast] f43c

set_option maxHeartbeats 2000000 in
theorem f14 {m : Map} (hm : smM m) : Fun G 14 [.one (.d (.sl (m.map eMp)))] (.bool (okM m), []) := by
  refine Fun.of_run (g := g14) (pf := pf14) rfl rfl rfl rfl ?_
  obtain ⟨hm, hm2⟩ := hm
  have hbad : ∀ l ∈ m, okRows l = false → okM m = false := fun l hl hb => by
    simp only [okM, Bool.and_eq_false_iff]
    right
    rw [← Bool.not_eq_true, List.all_eq_true]
    intro hh
    rw [hh l hl] at hb
    cases hb
  simp (maxSteps := 1000000) (disch := first | assumption | ((try simp only [LEN, LEN2]); omega)) only [push_cast, Int.reduceToNat, Int.reduceEq, Int.reduceNe, Int.reduceLT, Int.reduceLE, Int.reduceAdd, Int.reduceSub, Int.reduceMul, Int.reduceNeg, Nat.reduceEqDiff, Nat.reduceBEq, Nat.reduceBNe, Nat.reduceAdd, Nat.reduceLeDiff, Nat.reduceLT, Nat.reduceMul, ↓reduceIte, reduceCtorEq, g14, pf14, b14]
  refine run_loop' (fun i : Nat => [(0, T.one (.d (.sl (m.map eMp)))), (3, T.int .i64 i)]) (fun i => i ≤ m.length ∧ i ≤ 4 ∧ ∀ x ∈ m.take i, okRows x = true) (fun i => m.length - i) 0 rfl ⟨Nat.zero_le _, by omega, by simp⟩ (fun i hi => ?_)
  obtain ⟨hi, hi4, ht⟩ := hi
  by_cases h1 : (i : Int) < m.length
  · by_cases h2 : (i : Int) ≤ 3
    · have hi' : i < m.length := by omega
      have hlm := List.getElem_mem hi'
      obtain ⟨hl1, hl2⟩ := hm2 m[i] hlm
      obtain ⟨l, hl0⟩ : ∃ l, l = m[i] := ⟨_, rfl⟩
      rw [← hl0] at hl1 hl2 hlm
      simp (maxSteps := 1000000) (disch := first | assumption | ((try simp only [LEN, LEN2]); omega)) only [push_cast, Int.reduceToNat, Int.reduceEq, Int.reduceNe, Int.reduceLT, Int.reduceLE, Int.reduceAdd, Int.reduceSub, Int.reduceMul, Int.reduceNeg, Nat.reduceEqDiff, Nat.reduceBEq, Nat.reduceBNe, Nat.reduceAdd, Nat.reduceLeDiff, Nat.reduceLT, Nat.reduceMul, ↓reduceIte, reduceCtorEq, g14, pf14, b14, h1, h2]
      refine run_loop' (fun k : Nat => [(0, T.one (.d (.sl (m.map eMp)))), (3, T.int .i64 i), (4, T.int .i64 k)]) (fun k => k ≤ l.length ∧ okRows (l.take k) = true) (fun k => l.length - k) 0 rfl ⟨Nat.zero_le _, rfl⟩ (fun k hk => ?_)
      obtain ⟨hkl, hko⟩ := hk
      by_cases h : (k : Int) < l.length
      · have hk' : k < l.length := by omega
        have hsz := hl2 l[k] (List.getElem_mem hk')
        have hno : okRow l[k] = false → okM m = false := fun hx => hbad l hlm (by
          rw [← Bool.not_eq_true]
          intro hh
          simp only [okRows, Bool.and_eq_true, List.all_eq_true] at hh
          rw [hh.1 _ (List.getElem_mem hk')] at hx
          cases hx)
        by_cases hkk : 1 ≤ l[k].Key.length ∧ l[k].Key.length ≤ 12
        · by_cases hv : l[k].Value.length ≤ 20
          · have hx : okRow l[k] = true := by simp only [okRow, decide_eq_true_eq]; omega
            by_cases h0 : (0 : Int) < k
            · have e1 : ((k : Int) - 1).toNat = k - 1 := by omega
              have hn : okRows (l.take (k + 1)) = Op.bytesLess l[k - 1].Key l[k].Key := by
                obtain ⟨j, rfl⟩ : ∃ j, k = j + 1 := ⟨k - 1, by omega⟩
                have hn := okRows_next hk'
                rw [hko, hx, Bool.true_and, Bool.true_and] at hn
                exact hn
              cases hb : Op.bytesLess l[k - 1].Key l[k].Key with
              | true =>
                simp (maxSteps := 1000000) (disch := first | assumption | ((try simp only [LEN, LEN2]); omega)) only [push_cast, Int.reduceToNat, Int.reduceEq, Int.reduceNe, Int.reduceLT, Int.reduceLE, Int.reduceAdd, Int.reduceSub, Int.reduceMul, Int.reduceNeg, Nat.reduceEqDiff, Nat.reduceBEq, Nat.reduceBNe, Nat.reduceAdd, Nat.reduceLeDiff, Nat.reduceLT, Nat.reduceMul, ↓reduceIte, reduceCtorEq, g14, pf14, b14, h, eMp, eRow, ← hl0, hkk, hv, h0, e1, hb]
                exact ⟨k + 1, by simp, ⟨by omega, by rw [hn, hb]⟩, by omega⟩
              | false =>
                rw [hb] at hn
                simp (maxSteps := 1000000) (disch := first | assumption | ((try simp only [LEN, LEN2]); omega)) only [push_cast, Int.reduceToNat, Int.reduceEq, Int.reduceNe, Int.reduceLT, Int.reduceLE, Int.reduceAdd, Int.reduceSub, Int.reduceMul, Int.reduceNeg, Nat.reduceEqDiff, Nat.reduceBEq, Nat.reduceBNe, Nat.reduceAdd, Nat.reduceLeDiff, Nat.reduceLT, Nat.reduceMul, ↓reduceIte, reduceCtorEq, g14, pf14, b14, h, eMp, eRow, ← hl0, hkk, hv, h0, e1, hb, hbad l hlm (okRows_bad hn)]
            · have hn : okRows (l.take (k + 1)) = true := by
                obtain rfl : k = 0 := by omega
                rw [okRows_one hk', hx]
              simp (maxSteps := 1000000) (disch := first | assumption | ((try simp only [LEN, LEN2]); omega)) only [push_cast, Int.reduceToNat, Int.reduceEq, Int.reduceNe, Int.reduceLT, Int.reduceLE, Int.reduceAdd, Int.reduceSub, Int.reduceMul, Int.reduceNeg, Nat.reduceEqDiff, Nat.reduceBEq, Nat.reduceBNe, Nat.reduceAdd, Nat.reduceLeDiff, Nat.reduceLT, Nat.reduceMul, ↓reduceIte, reduceCtorEq, g14, pf14, b14, h, eMp, eRow, ← hl0, hkk, hv, h0]
              exact ⟨k + 1, by simp, ⟨by omega, hn⟩, by omega⟩
          · have := hno (by simp only [okRow, decide_eq_false_iff_not]; omega)
            simp (maxSteps := 1000000) (disch := first | assumption | ((try simp only [LEN, LEN2]); omega)) only [push_cast, Int.reduceToNat, Int.reduceEq, Int.reduceNe, Int.reduceLT, Int.reduceLE, Int.reduceAdd, Int.reduceSub, Int.reduceMul, Int.reduceNeg, Nat.reduceEqDiff, Nat.reduceBEq, Nat.reduceBNe, Nat.reduceAdd, Nat.reduceLeDiff, Nat.reduceLT, Nat.reduceMul, ↓reduceIte, reduceCtorEq, g14, pf14, b14, h, eMp, eRow, ← hl0, hkk, hv, this]
        · have := hno (by simp only [okRow, decide_eq_false_iff_not]; omega)
          simp (maxSteps := 1000000) (disch := first | assumption | ((try simp only [LEN, LEN2]); omega)) only [push_cast, Int.reduceToNat, Int.reduceEq, Int.reduceNe, Int.reduceLT, Int.reduceLE, Int.reduceAdd, Int.reduceSub, Int.reduceMul, Int.reduceNeg, Nat.reduceEqDiff, Nat.reduceBEq, Nat.reduceBNe, Nat.reduceAdd, Nat.reduceLeDiff, Nat.reduceLT, Nat.reduceMul, ↓reduceIte, reduceCtorEq, g14, pf14, b14, h, eMp, eRow, ← hl0, hkk, this]
      · obtain rfl : k = l.length := by omega
        rw [List.take_length] at hko
        simp (maxSteps := 1000000) (disch := first | assumption | ((try simp only [LEN, LEN2]); omega)) only [push_cast, Int.reduceToNat, Int.reduceEq, Int.reduceNe, Int.reduceLT, Int.reduceLE, Int.reduceAdd, Int.reduceSub, Int.reduceMul, Int.reduceNeg, Nat.reduceEqDiff, Nat.reduceBEq, Nat.reduceBNe, Nat.reduceAdd, Nat.reduceLeDiff, Nat.reduceLT, Nat.reduceMul, ↓reduceIte, reduceCtorEq, g14, pf14, b14, h, eMp, ← hl0]
        refine ⟨i + 1, by simp, ⟨by omega, by omega, fun x hx => ?_⟩, by omega⟩
        rw [List.take_succ_eq_append_getElem hi', List.mem_append, List.mem_singleton, ← hl0] at hx
        rcases hx with hx | rfl
        · exact ht x hx
        · exact hko
    · have : okM m = false := by
        simp only [okM, Bool.and_eq_false_iff, decide_eq_false_iff_not]; left; omega
      have h3 : ¬ (m.length : Int) ≤ 3 := by omega
      simp (maxSteps := 1000000) (disch := first | assumption | ((try simp only [LEN, LEN2]); omega)) only [push_cast, Int.reduceToNat, Int.reduceEq, Int.reduceNe, Int.reduceLT, Int.reduceLE, Int.reduceAdd, Int.reduceSub, Int.reduceMul, Int.reduceNeg, Nat.reduceEqDiff, Nat.reduceBEq, Nat.reduceBNe, Nat.reduceAdd, Nat.reduceLeDiff, Nat.reduceLT, Nat.reduceMul, ↓reduceIte, reduceCtorEq, g14, pf14, b14, h1, h2, h3, this]
  · obtain rfl : i = m.length := by omega
    rw [List.take_length] at ht
    by_cases h3 : (m.length : Int) ≤ 3
    · have : okM m = true := by
        simp only [okM, Bool.and_eq_true, decide_eq_true_eq, List.all_eq_true]; exact ⟨by omega, ht⟩
      simp (maxSteps := 1000000) (disch := first | assumption | ((try simp only [LEN, LEN2]); omega)) only [push_cast, Int.reduceToNat, Int.reduceEq, Int.reduceNe, Int.reduceLT, Int.reduceLE, Int.reduceAdd, Int.reduceSub, Int.reduceMul, Int.reduceNeg, Nat.reduceEqDiff, Nat.reduceBEq, Nat.reduceBNe, Nat.reduceAdd, Nat.reduceLeDiff, Nat.reduceLT, Nat.reduceMul, ↓reduceIte, reduceCtorEq, g14, pf14, b14, h1, h3, this]
    · have : okM m = false := by
        simp only [okM, Bool.and_eq_false_iff, decide_eq_false_iff_not]; left; omega
      simp (maxSteps := 1000000) (disch := first | assumption | ((try simp only [LEN, LEN2]); omega)) only [push_cast, Int.reduceToNat, Int.reduceEq, Int.reduceNe, Int.reduceLT, Int.reduceLE, Int.reduceAdd, Int.reduceSub, Int.reduceMul, Int.reduceNeg, Nat.reduceEqDiff, Nat.reduceBEq, Nat.reduceBNe, Nat.reduceAdd, Nat.reduceLeDiff, Nat.reduceLT, Nat.reduceMul, ↓reduceIte, reduceCtorEq, g14, pf14, b14, h1, h3, this]
theorem f14c {m : Map} (hm : smM m) {g : VG} {F : Fn} {lk : Bool} {e : Env} {dst : Option Nat} {ops : List Ins} {keep : Option (List Nat)} {K : List Fr} : CallC G g F 14 [.one (.d (.sl (m.map eMp)))] lk e dst ops keep K = ThenL G g F (if lk && !(T.noSl (.bool (okM m))) then none else e.put g.un dst (.bool (okM m))) ops keep K := callC_eq (f14 hm)
attribute [push_cast] f14c
end Go.Mir.Try

/- Walks: a map's image. -/
set_option linter.unusedVariables false
set_option linter.unusedSimpArgs false
set_option maxRecDepth 100000
namespace Go.Mir.Try
open Go.Proofs Go.Mir.Q

theorem imageF_snoc (l : List Row) : ∀ (m : Map) (t : Nat), imageF t (m ++ [l]) = imageF t m ++ l.map (wrRow (t + m.length))
  | [], t => by simp [imageF]
  | x :: m, t => by
    have := imageF_snoc l m (t + 1)
    simp only [List.cons_append, imageF, this, List.append_assoc, List.length_cons]
    rw [show t + 1 + m.length = t + (m.length + 1) by omega]
theorem image_len : ∀ {m : Map} {t : Nat}, (∀ l ∈ m, l.length ≤ 1048576) → (imageF t m).length ≤ m.length * 1048576
  | [], t, _ => by simp [imageF]
  | l :: m, t, h => by
    have h1 := h l (by simp)
    have h2 := image_len (m := m) (t := t + 1) fun x hx => h x (List.mem_cons_of_mem _ hx)
    simp only [imageF, List.length_append, List.length_map, List.length_cons]
    omega
theorem oW_wrRow (i : Nat) (x : Row) : oW (wrRow i x) = [.d (.sc (.int .i64 i)), .d (.sc (.string (bs x.Key))), .d (.sc (.string (bs x.Value))), .d (.sc (.bool false))] := rfl

set_option maxHeartbeats 2000000 in
theorem f21 {m : Map} (hm : smM m) : Fun G 21 [.one (.d (.sl (m.map eMp)))] (.one (.own 89 ((image m).map oW)), []) := by
  refine Fun.of_run (g := g21) (pf := pf21) rfl rfl rfl rfl ?_
  obtain ⟨hm, hm2⟩ := hm
  simp (maxSteps := 1000000) (disch := first | assumption | ((try simp only [LEN, LEN2]); omega)) only [push_cast, Int.reduceToNat, Int.reduceEq, Int.reduceNe, Int.reduceLT, Int.reduceLE, Int.reduceAdd, Int.reduceSub, Int.reduceMul, Int.reduceNeg, Nat.reduceEqDiff, Nat.reduceBEq, Nat.reduceBNe, Nat.reduceAdd, Nat.reduceLeDiff, Nat.reduceLT, Nat.reduceMul, ↓reduceIte, reduceCtorEq, g21, pf21, b21]
  refine run_loop' (fun i : Nat => [(0, T.one (.d (.sl (m.map eMp)))), (3, T.one (.own 89 ((image (m.take i)).map oW))), (4, T.int .i64 i)]) (fun i => i ≤ m.length) (fun i => m.length - i) 0 rfl (Nat.zero_le _) (fun i hi => ?_)
  by_cases h1 : (i : Int) < m.length
  · have hi' : i < m.length := by omega
    obtain ⟨hl1, hl2⟩ := hm2 m[i] (List.getElem_mem hi')
    obtain ⟨l, hl0⟩ : ∃ l, l = m[i] := ⟨_, rfl⟩
    rw [← hl0] at hl1 hl2
    have hil := image_len (m := m.take i) (t := 0) fun x hx => (hm2 x (List.mem_of_mem_take hx)).1
    rw [List.length_take, Nat.min_eq_left hi] at hil
    have hil2 : (image (m.take i)).length ≤ 1099511627776 := by simp only [image]; omega
    simp (maxSteps := 1000000) (disch := first | assumption | ((try simp only [LEN, LEN2]); omega)) only [push_cast, Int.reduceToNat, Int.reduceEq, Int.reduceNe, Int.reduceLT, Int.reduceLE, Int.reduceAdd, Int.reduceSub, Int.reduceMul, Int.reduceNeg, Nat.reduceEqDiff, Nat.reduceBEq, Nat.reduceBNe, Nat.reduceAdd, Nat.reduceLeDiff, Nat.reduceLT, Nat.reduceMul, ↓reduceIte, reduceCtorEq, g21, pf21, b21, h1]
    refine run_loop' (fun k : Nat => [(0, T.one (.d (.sl (m.map eMp)))), (3, T.one (.own 89 ((image (m.take i) ++ (l.take k).map (wrRow i)).map oW))), (4, T.int .i64 i), (5, T.int .i64 k)]) (fun k => k ≤ l.length) (fun k => l.length - k) 0 (by simp) (Nat.zero_le _) (fun k hk => ?_)
    by_cases h : (k : Int) < l.length
    · have hk' : k < l.length := by omega
      simp (maxSteps := 1000000) (disch := first | assumption | ((try simp only [LEN, LEN2]); omega)) only [push_cast, Int.reduceToNat, Int.reduceEq, Int.reduceNe, Int.reduceLT, Int.reduceLE, Int.reduceAdd, Int.reduceSub, Int.reduceMul, Int.reduceNeg, Nat.reduceEqDiff, Nat.reduceBEq, Nat.reduceBNe, Nat.reduceAdd, Nat.reduceLeDiff, Nat.reduceLT, Nat.reduceMul, ↓reduceIte, reduceCtorEq, g21, pf21, b21, h, eMp, eRow, ← hl0]
      refine ⟨k + 1, ?_, by omega, by omega⟩
      rw [List.take_succ_eq_append_getElem hk']
      simp only [List.map_append, List.map_cons, List.map_nil, oW_wrRow, List.append_assoc, Int.natCast_add, Int.cast_ofNat_Int]
    · obtain rfl : k = l.length := by omega
      simp (maxSteps := 1000000) (disch := first | assumption | ((try simp only [LEN, LEN2]); omega)) only [push_cast, Int.reduceToNat, Int.reduceEq, Int.reduceNe, Int.reduceLT, Int.reduceLE, Int.reduceAdd, Int.reduceSub, Int.reduceMul, Int.reduceNeg, Nat.reduceEqDiff, Nat.reduceBEq, Nat.reduceBNe, Nat.reduceAdd, Nat.reduceLeDiff, Nat.reduceLT, Nat.reduceMul, ↓reduceIte, reduceCtorEq, g21, pf21, b21, h, eMp, ← hl0]
      refine ⟨i + 1, ?_, by omega, by omega⟩
      have : image (m.take (i + 1)) = image (m.take i) ++ l.map (wrRow i) := by
        rw [List.take_succ_eq_append_getElem hi', ← hl0, image, imageF_snoc, List.length_take, Nat.zero_add, Nat.min_eq_left (by omega)]; rfl
      rw [this, List.take_length]
      simp
  · obtain rfl : i = m.length := by omega
    simp (maxSteps := 1000000) (disch := first | assumption | ((try simp only [LEN, LEN2]); omega)) only [push_cast, Int.reduceToNat, Int.reduceEq, Int.reduceNe, Int.reduceLT, Int.reduceLE, Int.reduceAdd, Int.reduceSub, Int.reduceMul, Int.reduceNeg, Nat.reduceEqDiff, Nat.reduceBEq, Nat.reduceBNe, Nat.reduceAdd, Nat.reduceLeDiff, Nat.reduceLT, Nat.reduceMul, ↓reduceIte, reduceCtorEq, g21, pf21, b21, h1]
    simp
theorem f21c {m : Map} (hm : smM m) {g : VG} {F : Fn} {lk : Bool} {e : Env} {dst : Option Nat} {ops : List Ins} {keep : Option (List Nat)} {K : List Fr} : CallC G g F 21 [.one (.d (.sl (m.map eMp)))] lk e dst ops keep K = ThenL G g F (if lk && !(T.noSl (.one (.own 89 ((image m).map oW)))) then none else e.put g.un dst (.one (.own 89 ((image m).map oW)))) ops keep K := callC_eq (f21 hm)
attribute [push_cast] f21c

set_option maxHeartbeats 2000000 in
theorem f44 {m : Map} (hm : smM m) : Fun G 44 [.one (.d (.sl (m.map eMp)))] (.vs true [.d (.sc (.int .i64 1)), .own 89 ((image m).map oW)], []) := by
  refine Fun.of_run (g := g44) (pf := pf44) rfl rfl rfl rfl ?_
  obtain ⟨hm, hm2⟩ := hm
  simp (maxSteps := 1000000) (disch := first | assumption | ((try simp only [LEN, LEN2]); omega)) only [push_cast, Int.reduceToNat, Int.reduceEq, Int.reduceNe, Int.reduceLT, Int.reduceLE, Int.reduceAdd, Int.reduceSub, Int.reduceMul, Int.reduceNeg, Nat.reduceEqDiff, Nat.reduceBEq, Nat.reduceBNe, Nat.reduceAdd, Nat.reduceLeDiff, Nat.reduceLT, Nat.reduceMul, ↓reduceIte, reduceCtorEq, g44, pf44, b44]
  refine run_loop' (fun i : Nat => [(2, T.one (.box [.d (.sc (.int .i64 0)), .own 89 []])), (3, T.one (.box [.d (.sc (.int .i64 1)), .own 89 ((image (m.take i)).map oW)])), (9, T.one (.d (.sl (m.map eMp)))), (10, T.int .i64 m.length), (11, T.int .i64 i)]) (fun i => i ≤ m.length) (fun i => m.length - i) 0 rfl (Nat.zero_le _) (fun i hi => ?_)
  by_cases h1 : (i : Int) < m.length
  · have hi' : i < m.length := by omega
    obtain ⟨hl1, hl2⟩ := hm2 m[i] (List.getElem_mem hi')
    obtain ⟨l, hl0⟩ : ∃ l, l = m[i] := ⟨_, rfl⟩
    rw [← hl0] at hl1 hl2
    have hil := image_len (m := m.take i) (t := 0) fun x hx => (hm2 x (List.mem_of_mem_take hx)).1
    rw [List.length_take, Nat.min_eq_left hi] at hil
    have hil2 : (image (m.take i)).length ≤ 1099511627776 := by simp only [image]; omega
    simp (maxSteps := 1000000) (disch := first | assumption | ((try simp only [LEN, LEN2]); omega)) only [push_cast, Int.reduceToNat, Int.reduceEq, Int.reduceNe, Int.reduceLT, Int.reduceLE, Int.reduceAdd, Int.reduceSub, Int.reduceMul, Int.reduceNeg, Nat.reduceEqDiff, Nat.reduceBEq, Nat.reduceBNe, Nat.reduceAdd, Nat.reduceLeDiff, Nat.reduceLT, Nat.reduceMul, ↓reduceIte, reduceCtorEq, g44, pf44, b44, h1, eMp, ← hl0]
    refine run_loop' (fun k : Nat => [(2, T.one (.box [.d (.sc (.int .i64 0)), .own 89 []])), (3, T.one (.box [.d (.sc (.int .i64 1)), .own 89 ((image (m.take i) ++ (l.take k).map (wrRow i)).map oW)])), (4, T.int .i64 i), (5, T.one (.d (.sl (l.map eRow)))), (9, T.one (.d (.sl (m.map eMp)))), (10, T.int .i64 m.length), (11, T.int .i64 i), (16, T.one (.d (.sl (l.map eRow)))), (17, T.int .i64 l.length), (18, T.int .i64 k)]) (fun k => k ≤ l.length) (fun k => l.length - k) 0 (by simp) (Nat.zero_le _) (fun k hk => ?_)
    by_cases h : (k : Int) < l.length
    · have hk' : k < l.length := by omega
      simp (maxSteps := 1000000) (disch := first | assumption | ((try simp only [LEN, LEN2]); omega)) only [push_cast, Int.reduceToNat, Int.reduceEq, Int.reduceNe, Int.reduceLT, Int.reduceLE, Int.reduceAdd, Int.reduceSub, Int.reduceMul, Int.reduceNeg, Nat.reduceEqDiff, Nat.reduceBEq, Nat.reduceBNe, Nat.reduceAdd, Nat.reduceLeDiff, Nat.reduceLT, Nat.reduceMul, ↓reduceIte, reduceCtorEq, g44, pf44, b44, h, eRow]
      refine ⟨k + 1, ?_, by omega, by omega⟩
      rw [List.take_succ_eq_append_getElem hk']
      simp only [List.map_append, List.map_cons, List.map_nil, oW_wrRow, List.append_assoc, Int.natCast_add, Int.cast_ofNat_Int]
    · obtain rfl : k = l.length := by omega
      simp (maxSteps := 1000000) (disch := first | assumption | ((try simp only [LEN, LEN2]); omega)) only [push_cast, Int.reduceToNat, Int.reduceEq, Int.reduceNe, Int.reduceLT, Int.reduceLE, Int.reduceAdd, Int.reduceSub, Int.reduceMul, Int.reduceNeg, Nat.reduceEqDiff, Nat.reduceBEq, Nat.reduceBNe, Nat.reduceAdd, Nat.reduceLeDiff, Nat.reduceLT, Nat.reduceMul, ↓reduceIte, reduceCtorEq, g44, pf44, b44, h]
      refine ⟨i + 1, ?_, by omega, by omega⟩
      have : image (m.take (i + 1)) = image (m.take i) ++ l.map (wrRow i) := by
        rw [List.take_succ_eq_append_getElem hi', ← hl0, image, imageF_snoc, List.length_take, Nat.zero_add, Nat.min_eq_left (by omega)]; rfl
      rw [this, List.take_length]
      simp
  · obtain rfl : i = m.length := by omega
    simp (maxSteps := 1000000) (disch := first | assumption | ((try simp only [LEN, LEN2]); omega)) only [push_cast, Int.reduceToNat, Int.reduceEq, Int.reduceNe, Int.reduceLT, Int.reduceLE, Int.reduceAdd, Int.reduceSub, Int.reduceMul, Int.reduceNeg, Nat.reduceEqDiff, Nat.reduceBEq, Nat.reduceBNe, Nat.reduceAdd, Nat.reduceLeDiff, Nat.reduceLT, Nat.reduceMul, ↓reduceIte, reduceCtorEq, g44, pf44, b44, h1]
    simp
theorem f44c {m : Map} (hm : smM m) {g : VG} {F : Fn} {lk : Bool} {e : Env} {dst : Option Nat} {ops : List Ins} {keep : Option (List Nat)} {K : List Fr} : CallC G g F 44 [.one (.d (.sl (m.map eMp)))] lk e dst ops keep K = ThenL G g F (if lk && !(T.noSl (.vs true [.d (.sc (.int .i64 1)), .own 89 ((image m).map oW)])) then none else e.put g.un dst (.vs true [.d (.sc (.int .i64 1)), .own 89 ((image m).map oW)])) ops keep K := callC_eq (f44 hm)
attribute [push_cast] f44c

set_option maxHeartbeats 2000000 in
theorem f6 {m : Map} (hm : smM m) : Fun G 6 [.one (.d (.sl (m.map eMp)))] (.bool (okM m && decide (1 ≤ m.length ∧ (image m).length ≤ 64)), []) := by
  refine Fun.of_run (g := g6) (pf := pf6) rfl rfl rfl rfl ?_
  cases hok : okM m with
  | false => simp (maxSteps := 1000000) (disch := first | assumption | ((try simp only [LEN, LEN2]); omega)) only [push_cast, Int.reduceToNat, Int.reduceEq, Int.reduceNe, Int.reduceLT, Int.reduceLE, Int.reduceAdd, Int.reduceSub, Int.reduceMul, Int.reduceNeg, Nat.reduceEqDiff, Nat.reduceBEq, Nat.reduceBNe, Nat.reduceAdd, Nat.reduceLeDiff, Nat.reduceLT, Nat.reduceMul, ↓reduceIte, reduceCtorEq, g6, pf6, b6, hok]
  | true =>
    have h3 : m.length ≤ 3 := by simp only [okM, Bool.and_eq_true, decide_eq_true_eq] at hok; exact hok.1
    have hil := image_len (m := m) (t := 0) fun l hl => (hm.2 l hl).1
    have hil2 : (image m).length ≤ 4194304 := by simp only [image]; omega
    by_cases h1 : (0 : Int) < m.length
    · by_cases h2 : ((image m).length : Int) ≤ 64
      · have e : decide (1 ≤ m.length ∧ (image m).length ≤ 64) = true := by simp; omega
        simp (maxSteps := 1000000) (disch := first | assumption | ((try simp only [LEN, LEN2]); omega)) only [push_cast, Int.reduceToNat, Int.reduceEq, Int.reduceNe, Int.reduceLT, Int.reduceLE, Int.reduceAdd, Int.reduceSub, Int.reduceMul, Int.reduceNeg, Nat.reduceEqDiff, Nat.reduceBEq, Nat.reduceBNe, Nat.reduceAdd, Nat.reduceLeDiff, Nat.reduceLT, Nat.reduceMul, ↓reduceIte, reduceCtorEq, g6, pf6, b6, hok, h1, h2, e]
      · have e : decide (1 ≤ m.length ∧ (image m).length ≤ 64) = false := by simp; omega
        simp (maxSteps := 1000000) (disch := first | assumption | ((try simp only [LEN, LEN2]); omega)) only [push_cast, Int.reduceToNat, Int.reduceEq, Int.reduceNe, Int.reduceLT, Int.reduceLE, Int.reduceAdd, Int.reduceSub, Int.reduceMul, Int.reduceNeg, Nat.reduceEqDiff, Nat.reduceBEq, Nat.reduceBNe, Nat.reduceAdd, Nat.reduceLeDiff, Nat.reduceLT, Nat.reduceMul, ↓reduceIte, reduceCtorEq, g6, pf6, b6, hok, h1, h2, e]
    · have e : decide (1 ≤ m.length ∧ (image m).length ≤ 64) = false := by simp; omega
      simp (maxSteps := 1000000) (disch := first | assumption | ((try simp only [LEN, LEN2]); omega)) only [push_cast, Int.reduceToNat, Int.reduceEq, Int.reduceNe, Int.reduceLT, Int.reduceLE, Int.reduceAdd, Int.reduceSub, Int.reduceMul, Int.reduceNeg, Nat.reduceEqDiff, Nat.reduceBEq, Nat.reduceBNe, Nat.reduceAdd, Nat.reduceLeDiff, Nat.reduceLT, Nat.reduceMul, ↓reduceIte, reduceCtorEq, g6, pf6, b6, hok, h1, e]
theorem f6c {m : Map} (hm : smM m) {g : VG} {F : Fn} {lk : Bool} {e : Env} {dst : Option Nat} {ops : List Ins} {keep : Option (List Nat)} {K : List Fr} : CallC G g F 6 [.one (.d (.sl (m.map eMp)))] lk e dst ops keep K = ThenL G g F (if lk && !(T.noSl (.bool (okM m && decide (1 ≤ m.length ∧ (image m).length ≤ 64)))) then none else e.put g.un dst (.bool (okM m && decide (1 ≤ m.length ∧ (image m).length ≤ 64)))) ops keep K := callC_eq (f6 hm)
attribute [push_cast] f6c
end Go.Mir.Try

/- Walks: the log's small ones. -/
set_option linter.unusedVariables false
set_option linter.unusedSimpArgs false
set_option maxRecDepth 100000
namespace Go.Mir.Try
open Go.Proofs Go.Mir.Q

set_option maxHeartbeats 2000000 in
theorem f22 {a b c d : Int}  : Fun G 22 [.vs true [.d (.sc (.int .i64 a)), .d (.sc (.int .i64 b)), .d (.sc (.int .i64 c)), .d (.sc (.int .i64 d))]] (.bool (okWal ⟨a, b, c, d⟩), []) := by
  refine Fun.of_run (g := g22) (pf := pf22) rfl rfl rfl rfl ?_
  by_cases h1 : 1 ≤ a
  · by_cases h2 : a < 1073741824
    · by_cases h3 : b = 0 ∨ b = 1
      · by_cases h5 : 255 ≤ c
        · by_cases h6 : c ≤ 512
          · by_cases h7 : 1 ≤ d
            · have e : okWal ⟨a, b, c, d⟩ = decide (d < 1073741824) := by simp [okWal, h1, h2, h3, h5, h6, h7]
              rcases h3 with h3 | h3 <;> subst h3 <;> simp (maxSteps := 1000000) (disch := first | assumption | ((try simp only [LEN, LEN2]); omega)) only [push_cast, Int.reduceToNat, Int.reduceEq, Int.reduceNe, Int.reduceLT, Int.reduceLE, Int.reduceAdd, Int.reduceSub, Int.reduceMul, Int.reduceNeg, Nat.reduceEqDiff, Nat.reduceBEq, Nat.reduceBNe, Nat.reduceAdd, Nat.reduceLeDiff, Nat.reduceLT, Nat.reduceMul, ↓reduceIte, reduceCtorEq, g22, pf22, b22, h1, h2, h5, h6, h7, e]
            · have e : okWal ⟨a, b, c, d⟩ = false := by simp [okWal, h7]
              rcases h3 with h3 | h3 <;> subst h3 <;> simp (maxSteps := 1000000) (disch := first | assumption | ((try simp only [LEN, LEN2]); omega)) only [push_cast, Int.reduceToNat, Int.reduceEq, Int.reduceNe, Int.reduceLT, Int.reduceLE, Int.reduceAdd, Int.reduceSub, Int.reduceMul, Int.reduceNeg, Nat.reduceEqDiff, Nat.reduceBEq, Nat.reduceBNe, Nat.reduceAdd, Nat.reduceLeDiff, Nat.reduceLT, Nat.reduceMul, ↓reduceIte, reduceCtorEq, g22, pf22, b22, h1, h2, h5, h6, h7, e]
          · have e : okWal ⟨a, b, c, d⟩ = false := by simp [okWal, h6]
            rcases h3 with h3 | h3 <;> subst h3 <;> simp (maxSteps := 1000000) (disch := first | assumption | ((try simp only [LEN, LEN2]); omega)) only [push_cast, Int.reduceToNat, Int.reduceEq, Int.reduceNe, Int.reduceLT, Int.reduceLE, Int.reduceAdd, Int.reduceSub, Int.reduceMul, Int.reduceNeg, Nat.reduceEqDiff, Nat.reduceBEq, Nat.reduceBNe, Nat.reduceAdd, Nat.reduceLeDiff, Nat.reduceLT, Nat.reduceMul, ↓reduceIte, reduceCtorEq, g22, pf22, b22, h1, h2, h5, h6, e]
        · have e : okWal ⟨a, b, c, d⟩ = false := by simp [okWal, h5]
          rcases h3 with h3 | h3 <;> subst h3 <;> simp (maxSteps := 1000000) (disch := first | assumption | ((try simp only [LEN, LEN2]); omega)) only [push_cast, Int.reduceToNat, Int.reduceEq, Int.reduceNe, Int.reduceLT, Int.reduceLE, Int.reduceAdd, Int.reduceSub, Int.reduceMul, Int.reduceNeg, Nat.reduceEqDiff, Nat.reduceBEq, Nat.reduceBNe, Nat.reduceAdd, Nat.reduceLeDiff, Nat.reduceLT, Nat.reduceMul, ↓reduceIte, reduceCtorEq, g22, pf22, b22, h1, h2, h5, e]
      · have e : okWal ⟨a, b, c, d⟩ = false := by simp [okWal, h3]
        obtain ⟨h3, h4⟩ := not_or.1 h3
        simp (maxSteps := 1000000) (disch := first | assumption | ((try simp only [LEN, LEN2]); omega)) only [push_cast, Int.reduceToNat, Int.reduceEq, Int.reduceNe, Int.reduceLT, Int.reduceLE, Int.reduceAdd, Int.reduceSub, Int.reduceMul, Int.reduceNeg, Nat.reduceEqDiff, Nat.reduceBEq, Nat.reduceBNe, Nat.reduceAdd, Nat.reduceLeDiff, Nat.reduceLT, Nat.reduceMul, ↓reduceIte, reduceCtorEq, g22, pf22, b22, h1, h2, h3, h4, e]
    · have e : okWal ⟨a, b, c, d⟩ = false := by simp [okWal, h2]
      simp (maxSteps := 1000000) (disch := first | assumption | ((try simp only [LEN, LEN2]); omega)) only [push_cast, Int.reduceToNat, Int.reduceEq, Int.reduceNe, Int.reduceLT, Int.reduceLE, Int.reduceAdd, Int.reduceSub, Int.reduceMul, Int.reduceNeg, Nat.reduceEqDiff, Nat.reduceBEq, Nat.reduceBNe, Nat.reduceAdd, Nat.reduceLeDiff, Nat.reduceLT, Nat.reduceMul, ↓reduceIte, reduceCtorEq, g22, pf22, b22, h1, h2, e]
  · have e : okWal ⟨a, b, c, d⟩ = false := by simp [okWal, h1]
    simp (maxSteps := 1000000) (disch := first | assumption | ((try simp only [LEN, LEN2]); omega)) only [push_cast, Int.reduceToNat, Int.reduceEq, Int.reduceNe, Int.reduceLT, Int.reduceLE, Int.reduceAdd, Int.reduceSub, Int.reduceMul, Int.reduceNeg, Nat.reduceEqDiff, Nat.reduceBEq, Nat.reduceBNe, Nat.reduceAdd, Nat.reduceLeDiff, Nat.reduceLT, Nat.reduceMul, ↓reduceIte, reduceCtorEq, g22, pf22, b22, h1, e]
theorem f22c {a b c d : Int}  {g : VG} {F : Fn} {lk : Bool} {e : Env} {dst : Option Nat} {ops : List Ins} {keep : Option (List Nat)} {K : List Fr} : CallC G g F 22 [.vs true [.d (.sc (.int .i64 a)), .d (.sc (.int .i64 b)), .d (.sc (.int .i64 c)), .d (.sc (.int .i64 d))]] lk e dst ops keep K = ThenL G g F (if lk && !(T.noSl (.bool (okWal ⟨a, b, c, d⟩))) then none else e.put g.un dst (.bool (okWal ⟨a, b, c, d⟩))) ops keep K := callC_eq (f22 )
attribute [push_cast] f22c

set_option maxHeartbeats 2000000 in
theorem f29 {s : Int}  : Fun G 29 [.int .i64 s] (.int .i64 (startS s), []) := by
  refine Fun.of_run (g := g29) (pf := pf29) rfl rfl rfl rfl ?_
  by_cases h : s = 0
  · simp (maxSteps := 1000000) (disch := first | assumption | ((try simp only [LEN, LEN2]); omega)) only [push_cast, Int.reduceToNat, Int.reduceEq, Int.reduceNe, Int.reduceLT, Int.reduceLE, Int.reduceAdd, Int.reduceSub, Int.reduceMul, Int.reduceNeg, Nat.reduceEqDiff, Nat.reduceBEq, Nat.reduceBNe, Nat.reduceAdd, Nat.reduceLeDiff, Nat.reduceLT, Nat.reduceMul, ↓reduceIte, reduceCtorEq, g29, pf29, b29, h]
    simp [startS]
  · simp (maxSteps := 1000000) (disch := first | assumption | ((try simp only [LEN, LEN2]); omega)) only [push_cast, Int.reduceToNat, Int.reduceEq, Int.reduceNe, Int.reduceLT, Int.reduceLE, Int.reduceAdd, Int.reduceSub, Int.reduceMul, Int.reduceNeg, Nat.reduceEqDiff, Nat.reduceBEq, Nat.reduceBNe, Nat.reduceAdd, Nat.reduceLeDiff, Nat.reduceLT, Nat.reduceMul, ↓reduceIte, reduceCtorEq, g29, pf29, b29, h]
    simp [startS, h]
theorem f29c {s : Int}  {g : VG} {F : Fn} {lk : Bool} {e : Env} {dst : Option Nat} {ops : List Ins} {keep : Option (List Nat)} {K : List Fr} : CallC G g F 29 [.int .i64 s] lk e dst ops keep K = ThenL G g F (if lk && !(T.noSl (.int .i64 (startS s))) then none else e.put g.un dst (.int .i64 (startS s))) ops keep K := callC_eq (f29 )
attribute [push_cast] f29c

theorem putsD_snoc (a : Nat) (l : List (List UInt8)) (s : List UInt8) : putsD a (l ++ [s]) = putsD a l ++ [⟨false, ⟨((a + l.length : Nat) : Int), s⟩⟩] := by
  simp [putsD, putsW_app, putsW]

set_option maxHeartbeats 2000000 in
theorem f39 {L : List Do} {a : Nat} {S : List (List UInt8)} (hL : L.length ≤ 1000000) (hS : S.length ≤ 1000000) (ha : a ≤ 1000000) : Fun G 39 [.one (.own 61 (L.map oDo)), .int .i64 a, .one (.d (.sl (S.map eS)))] (.one (.own 61 ((L ++ putsD a S).map oDo)), []) := by
  refine Fun.of_run (g := g39) (pf := pf39) rfl rfl rfl rfl ?_
  simp (maxSteps := 1000000) (disch := first | assumption | ((try simp only [LEN, LEN2]); omega)) only [push_cast, Int.reduceToNat, Int.reduceEq, Int.reduceNe, Int.reduceLT, Int.reduceLE, Int.reduceAdd, Int.reduceSub, Int.reduceMul, Int.reduceNeg, Nat.reduceEqDiff, Nat.reduceBEq, Nat.reduceBNe, Nat.reduceAdd, Nat.reduceLeDiff, Nat.reduceLT, Nat.reduceMul, ↓reduceIte, reduceCtorEq, g39, pf39, b39]
  refine run_loop' (fun i : Nat => [(0, T.one (.own 61 ((L ++ putsD a (S.take i)).map oDo))), (1, T.int .i64 a), (9, T.one (.d (.sl (S.map eS)))), (10, T.int .i64 S.length), (11, T.int .i64 i)]) (fun i => i ≤ S.length) (fun i => S.length - i) 0 (by simp [putsD, putsW]) (Nat.zero_le _) (fun i hi => ?_)
  have hpl := putsD_len (S.take i) a
  rw [List.length_take, Nat.min_eq_left hi] at hpl
  by_cases h : (i : Int) < S.length
  · have hi' : i < S.length := by omega
    simp (maxSteps := 1000000) (disch := first | assumption | ((try simp only [LEN, LEN2]); omega)) only [push_cast, Int.reduceToNat, Int.reduceEq, Int.reduceNe, Int.reduceLT, Int.reduceLE, Int.reduceAdd, Int.reduceSub, Int.reduceMul, Int.reduceNeg, Nat.reduceEqDiff, Nat.reduceBEq, Nat.reduceBNe, Nat.reduceAdd, Nat.reduceLeDiff, Nat.reduceLT, Nat.reduceMul, ↓reduceIte, reduceCtorEq, g39, pf39, b39, h, eS]
    refine ⟨i + 1, ?_, by omega, by omega⟩
    rw [List.take_succ_eq_append_getElem hi', putsD_snoc, List.length_take, Nat.min_eq_left hi]
    simp only [List.map_append, List.map_cons, List.map_nil, oDo, List.append_assoc, Int.natCast_add, Int.cast_ofNat_Int]
  · obtain rfl : i = S.length := by omega
    simp (maxSteps := 1000000) (disch := first | assumption | ((try simp only [LEN, LEN2]); omega)) only [push_cast, Int.reduceToNat, Int.reduceEq, Int.reduceNe, Int.reduceLT, Int.reduceLE, Int.reduceAdd, Int.reduceSub, Int.reduceMul, Int.reduceNeg, Nat.reduceEqDiff, Nat.reduceBEq, Nat.reduceBNe, Nat.reduceAdd, Nat.reduceLeDiff, Nat.reduceLT, Nat.reduceMul, ↓reduceIte, reduceCtorEq, g39, pf39, b39, h]
    simp
theorem f39t {L : List Do} {a : Nat} {S : List (List UInt8)} (hL : L.length ≤ 1000000) (hS : S.length ≤ 1000000) (ha : a ≤ 1000000) {g : VG} {F : Fn} {lk : Bool} {ags : List Arg} {e0 e1 : Env} {dst : Option Nat} {ops : List Ins} {keep : Option (List Nat)} {K : List Fr} : CallT G g F 39 [.one (.own 61 (L.map oDo)), .int .i64 a, .one (.d (.sl (S.map eS)))] lk ags e0 e1 dst ops keep K = RetT G g F (.one (.own 61 ((L ++ putsD a S).map oDo))) [] lk ags e0 e1 dst ops keep K := callT_eq (f39 hL hS ha)
attribute [push_cast] f39t
end Go.Mir.Try

/- Walks: the log is laid. -/
set_option linter.unusedVariables false
set_option linter.unusedSimpArgs false
set_option maxRecDepth 100000
namespace Go.Mir.Try
open Go.Proofs Go.Mir.Q

abbrev layT (l : List Do) (w : Wal) (e : Int) : T := .tup [(false, [.own 61 (l.map oDo)]), (true, cWal w), (false, [.d (.sc (.int .i64 e))])]
def layR (run slot : Int) (m : Map) : List Do × Wal × Int :=
  if okM m = false then ([], ⟨0, 0, 0, 0⟩, 1) else if 1073741824 ≤ run then ([], ⟨0, 0, 0, 0⟩, 2) else
  if (image m).length ≤ 64 then (layD run slot m, ⟨run, slot, 255, 1⟩, 0) else ([], ⟨0, 0, 0, 0⟩, 5)

set_option maxHeartbeats 2000000 in
theorem f23 {run slot : Int} {m : Map} (hm : smM m) (hr : okN run) (hs : slot = 0 ∨ slot = 1) : Fun G 23 [.int .i64 run, .int .i64 slot, .one (.d (.sl (m.map eMp)))] (layT (layR run slot m).1 (layR run slot m).2.1 (layR run slot m).2.2, []) := by
  refine Fun.of_run (g := g23) (pf := pf23) rfl rfl rfl rfl ?_
  obtain ⟨hr1, hr2⟩ := hr
  cases hok : okM m with
  | false =>
    have e : layR run slot m = ([], ⟨0, 0, 0, 0⟩, 1) := by unfold layR; rw [if_pos hok]
    simp (maxSteps := 1000000) (disch := first | assumption | ((try simp only [LEN, LEN2]); omega)) only [push_cast, Int.reduceToNat, Int.reduceEq, Int.reduceNe, Int.reduceLT, Int.reduceLE, Int.reduceAdd, Int.reduceSub, Int.reduceMul, Int.reduceNeg, Nat.reduceEqDiff, Nat.reduceBEq, Nat.reduceBNe, Nat.reduceAdd, Nat.reduceLeDiff, Nat.reduceLT, Nat.reduceMul, ↓reduceIte, reduceCtorEq, g23, pf23, b23, hok, e]
    rfl
  | true =>
    by_cases h1 : 1073741824 ≤ run
    · have e : layR run slot m = ([], ⟨0, 0, 0, 0⟩, 2) := by unfold layR; rw [if_neg (by rw [hok]; simp), if_pos h1]
      simp (maxSteps := 1000000) (disch := first | assumption | ((try simp only [LEN, LEN2]); omega)) only [push_cast, Int.reduceToNat, Int.reduceEq, Int.reduceNe, Int.reduceLT, Int.reduceLE, Int.reduceAdd, Int.reduceSub, Int.reduceMul, Int.reduceNeg, Nat.reduceEqDiff, Nat.reduceBEq, Nat.reduceBNe, Nat.reduceAdd, Nat.reduceLeDiff, Nat.reduceLT, Nat.reduceMul, ↓reduceIte, reduceCtorEq, g23, pf23, b23, hok, h1, e]
      rfl
    · have h3 : m.length ≤ 3 := by have := hok; simp only [okM, Bool.and_eq_true, decide_eq_true_eq] at this; exact this.1
      have hil := image_len (m := m) (t := 0) fun l hl => (hm.2 l hl).1
      have hil2 : (image m).length ≤ 4194304 := by simp only [image]; omega
      by_cases h2 : (image m).length ≤ 64
      · have e : layR run slot m = (layD run slot m, ⟨run, slot, 255, 1⟩, 0) := by unfold layR; rw [if_neg (by rw [hok]; simp), if_neg h1, if_pos h2]
        have hR := image_okR hok h2
        have hc := okR_cnt hR
        have hsw := okR_smW hR
        simp only at hsw
        have hc1 := f38 (num' := 0) (run := run) hsw hR
        have hc2 := f38 (n := slot + 1) (run := 0) (num' := run) (l := []) ⟨by simp, by simp⟩ (okR_super hs)
        rw [cuts_super] at hc2
        obtain ⟨C, hC⟩ : ∃ C, C = cuts run 0 (spelt ⟨1, image m⟩) := ⟨_, rfl⟩
        have hCl : C.length ≤ 116 := by rw [hC, cuts_len]; exact hc
        rw [← hC] at hc1
        have hst := startS_le (slot := slot)
        have hp1 := f39 (L := []) (a := startS slot) (S := C) (by simp) (by omega) (by omega)
        have ef : layD run slot m = putsD (startS slot) C ++ syncD :: (putsD 0 [superS run slot] ++ [syncD]) := by rw [hC]; rfl
        have hpl := putsD_len C (startS slot)
        obtain ⟨P, hP⟩ : ∃ P, P = putsD (startS slot) C := ⟨_, rfl⟩
        simp only [List.map_nil, List.nil_append] at hp1
        rw [← hP] at hp1 ef hpl
        have hp2 := f39 (L := P ++ [syncD]) (a := 0) (S := [superS run slot]) (by simp; omega) (by simp) (by omega)
        simp only [push_cast, Int.reduceToNat, Int.reduceEq, Int.reduceNe, Int.reduceLT, Int.reduceLE, Int.reduceAdd, Int.reduceSub, Int.reduceMul, Int.reduceNeg, Nat.reduceEqDiff, Nat.reduceBEq, Nat.reduceBNe, Nat.reduceAdd, Nat.reduceLeDiff, Nat.reduceLT, Nat.reduceMul, ↓reduceIte, reduceCtorEq, oDo, syncD, eS, oS, putsD, putsW, Int.natCast_zero, List.map_append] at hc2 hp2
        have h127 : ¬ (127 : Int) < C.length := by omega
        simp (maxSteps := 1000000) (disch := first | assumption | ((try simp only [LEN, LEN2]); omega)) only [push_cast, Int.reduceToNat, Int.reduceEq, Int.reduceNe, Int.reduceLT, Int.reduceLE, Int.reduceAdd, Int.reduceSub, Int.reduceMul, Int.reduceNeg, Nat.reduceEqDiff, Nat.reduceBEq, Nat.reduceBNe, Nat.reduceAdd, Nat.reduceLeDiff, Nat.reduceLT, Nat.reduceMul, ↓reduceIte, reduceCtorEq, g23, pf23, b23, hok, h1, hR, h127, callC_eq hc1, callC_eq hc2, callT_eq hc1, callT_eq hc2, callT_eq hp1, callT_eq hp2, oDo, oS]
        rw [e, ef]
        simp [layT, oDo, syncD, putsD, putsW]
      · have e : layR run slot m = ([], ⟨0, 0, 0, 0⟩, 5) := by unfold layR; rw [if_neg (by rw [hok]; simp), if_neg h1, if_neg h2]
        have hR : okR ⟨1, image m⟩ = false := by
          simp only [okR, Bool.and_eq_false_iff, decide_eq_false_iff_not]; left; omega
        simp (maxSteps := 1000000) (disch := first | assumption | ((try simp only [LEN, LEN2]); omega)) only [push_cast, Int.reduceToNat, Int.reduceEq, Int.reduceNe, Int.reduceLT, Int.reduceLE, Int.reduceAdd, Int.reduceSub, Int.reduceMul, Int.reduceNeg, Nat.reduceEqDiff, Nat.reduceBEq, Nat.reduceBNe, Nat.reduceAdd, Nat.reduceLeDiff, Nat.reduceLT, Nat.reduceMul, ↓reduceIte, reduceCtorEq, g23, pf23, b23, hok, h1, hR, e]
        rfl
theorem f23c {run slot : Int} {m : Map} (hm : smM m) (hr : okN run) (hs : slot = 0 ∨ slot = 1) {g : VG} {F : Fn} {lk : Bool} {e : Env} {dst : Option Nat} {ops : List Ins} {keep : Option (List Nat)} {K : List Fr} : CallC G g F 23 [.int .i64 run, .int .i64 slot, .one (.d (.sl (m.map eMp)))] lk e dst ops keep K = ThenL G g F (if lk && !(T.noSl (layT (layR run slot m).1 (layR run slot m).2.1 (layR run slot m).2.2)) then none else e.put g.un dst (layT (layR run slot m).1 (layR run slot m).2.1 (layR run slot m).2.2)) ops keep K := callC_eq (f23 hm hr hs)
attribute [push_cast] f23c
end Go.Mir.Try

/- Walks: Format, Save, Add. -/
set_option linter.unusedVariables false
set_option linter.unusedSimpArgs false
set_option maxRecDepth 100000
namespace Go.Mir.Try
open Go.Proofs Go.Mir.Q

set_option maxHeartbeats 2000000 in
theorem f8 {m : Map} (hm : smM m) : Fun G 8 [.one (.d (.sl (m.map eMp)))] (layT (layR 1 0 m).1 (layR 1 0 m).2.1 (layR 1 0 m).2.2, []) := by
  refine Fun.of_run (g := g8) (pf := pf8) rfl rfl rfl rfl ?_
  have h := f23 (run := 1) (slot := 0) hm ⟨by omega, by omega⟩ (.inl rfl)
  simp only [layT] at h
  simp (maxSteps := 1000000) (disch := first | assumption | ((try simp only [LEN, LEN2]); omega)) only [push_cast, Int.reduceToNat, Int.reduceEq, Int.reduceNe, Int.reduceLT, Int.reduceLE, Int.reduceAdd, Int.reduceSub, Int.reduceMul, Int.reduceNeg, Nat.reduceEqDiff, Nat.reduceBEq, Nat.reduceBNe, Nat.reduceAdd, Nat.reduceLeDiff, Nat.reduceLT, Nat.reduceMul, ↓reduceIte, reduceCtorEq, g8, pf8, b8, callC_eq h, callT_eq h]
  try rfl
theorem f8c {m : Map} (hm : smM m) {g : VG} {F : Fn} {lk : Bool} {e : Env} {dst : Option Nat} {ops : List Ins} {keep : Option (List Nat)} {K : List Fr} : CallC G g F 8 [.one (.d (.sl (m.map eMp)))] lk e dst ops keep K = ThenL G g F (if lk && !(T.noSl (layT (layR 1 0 m).1 (layR 1 0 m).2.1 (layR 1 0 m).2.2)) then none else e.put g.un dst (layT (layR 1 0 m).1 (layR 1 0 m).2.1 (layR 1 0 m).2.2)) ops keep K := callC_eq (f8 hm)
attribute [push_cast] f8c

set_option maxHeartbeats 2000000 in
theorem f7 {w : Wal} {m : Map} (hm : smM m) (hr : okN w.Run) : Fun G 7 [.vs true (cWal w), .one (.d (.sl (m.map eMp)))] ((if okWal w = true then layT (layR (w.Run + 1) (1 - w.Slot) m).1 (layR (w.Run + 1) (1 - w.Slot) m).2.1 (layR (w.Run + 1) (1 - w.Slot) m).2.2 else layT [] ⟨0, 0, 0, 0⟩ 1), []) := by
  refine Fun.of_run (g := g7) (pf := pf7) rfl rfl rfl rfl ?_
  obtain ⟨a, b, c, d⟩ := w
  cases hok : okWal ⟨a, b, c, d⟩ with
  | false =>
    simp (maxSteps := 1000000) (disch := first | assumption | ((try simp only [LEN, LEN2]); omega)) only [push_cast, Int.reduceToNat, Int.reduceEq, Int.reduceNe, Int.reduceLT, Int.reduceLE, Int.reduceAdd, Int.reduceSub, Int.reduceMul, Int.reduceNeg, Nat.reduceEqDiff, Nat.reduceBEq, Nat.reduceBNe, Nat.reduceAdd, Nat.reduceLeDiff, Nat.reduceLT, Nat.reduceMul, ↓reduceIte, reduceCtorEq, g7, pf7, b7, hok]
    try rfl
  | true =>
    have hw := hok
    simp only [okWal, Bool.and_eq_true, decide_eq_true_eq] at hw
    have h := f23 (run := a + 1) (slot := 1 - b) hm ⟨by omega, by omega⟩ (by omega)
    simp only [layT] at h
    simp (maxSteps := 1000000) (disch := first | assumption | ((try simp only [LEN, LEN2]); omega)) only [push_cast, Int.reduceToNat, Int.reduceEq, Int.reduceNe, Int.reduceLT, Int.reduceLE, Int.reduceAdd, Int.reduceSub, Int.reduceMul, Int.reduceNeg, Nat.reduceEqDiff, Nat.reduceBEq, Nat.reduceBNe, Nat.reduceAdd, Nat.reduceLeDiff, Nat.reduceLT, Nat.reduceMul, ↓reduceIte, reduceCtorEq, g7, pf7, b7, hok, callC_eq h, callT_eq h]
    try rfl
theorem f7c {w : Wal} {m : Map} (hm : smM m) (hr : okN w.Run) {g : VG} {F : Fn} {lk : Bool} {e : Env} {dst : Option Nat} {ops : List Ins} {keep : Option (List Nat)} {K : List Fr} : CallC G g F 7 [.vs true (cWal w), .one (.d (.sl (m.map eMp)))] lk e dst ops keep K = ThenL G g F (if lk && !(T.noSl ((if okWal w = true then layT (layR (w.Run + 1) (1 - w.Slot) m).1 (layR (w.Run + 1) (1 - w.Slot) m).2.1 (layR (w.Run + 1) (1 - w.Slot) m).2.2 else layT [] ⟨0, 0, 0, 0⟩ 1))) then none else e.put g.un dst ((if okWal w = true then layT (layR (w.Run + 1) (1 - w.Slot) m).1 (layR (w.Run + 1) (1 - w.Slot) m).2.1 (layR (w.Run + 1) (1 - w.Slot) m).2.2 else layT [] ⟨0, 0, 0, 0⟩ 1))) ops keep K := callC_eq (f7 hm hr)
attribute [push_cast] f7c

def addR (w : Wal) (r : Record) : List Do × Wal × Int :=
  if okWal w = false ∨ okR r = false then ([], ⟨0, 0, 0, 0⟩, 1) else if 1073741824 ≤ w.Seq + 1 then ([], ⟨0, 0, 0, 0⟩, 2) else
  if 512 - w.At < (cnt (spelt r) : Nat) then ([], ⟨0, 0, 0, 0⟩, 5) else (putsD w.At.toNat (cuts w.Run w.Seq (spelt r)), ⟨w.Run, w.Slot, w.At + (cnt (spelt r) : Nat), w.Seq + 1⟩, 0)

set_option maxHeartbeats 2000000 in
theorem f17 {w : Wal} {n : Int} {l : List Write} (hs : smW l) : Fun G 17 [.vs true (cWal w), .vs true [.d (.sc (.int .i64 n)), .d (.sl (l.map eW))]] (layT (addR w ⟨n, l⟩).1 (addR w ⟨n, l⟩).2.1 (addR w ⟨n, l⟩).2.2, []) := by
  refine Fun.of_run (g := g17) (pf := pf17) rfl rfl rfl rfl ?_
  obtain ⟨a, b, c, d⟩ := w
  have hs1 := hs.1
  cases hok : okWal ⟨a, b, c, d⟩ with
  | false =>
    have e : addR ⟨a, b, c, d⟩ ⟨n, l⟩ = ([], ⟨0, 0, 0, 0⟩, 1) := by unfold addR; rw [if_pos (.inl hok)]
    simp (maxSteps := 1000000) (disch := first | assumption | ((try simp only [LEN, LEN2]); omega)) only [push_cast, Int.reduceToNat, Int.reduceEq, Int.reduceNe, Int.reduceLT, Int.reduceLE, Int.reduceAdd, Int.reduceSub, Int.reduceMul, Int.reduceNeg, Nat.reduceEqDiff, Nat.reduceBEq, Nat.reduceBNe, Nat.reduceAdd, Nat.reduceLeDiff, Nat.reduceLT, Nat.reduceMul, ↓reduceIte, reduceCtorEq, g17, pf17, b17, hok, e]
    try rfl
  | true =>
    cases hr : okR ⟨n, l⟩ with
    | false =>
      have e : addR ⟨a, b, c, d⟩ ⟨n, l⟩ = ([], ⟨0, 0, 0, 0⟩, 1) := by unfold addR; rw [if_pos (.inr hr)]
      simp (maxSteps := 1000000) (disch := first | assumption | ((try simp only [LEN, LEN2]); omega)) only [push_cast, Int.reduceToNat, Int.reduceEq, Int.reduceNe, Int.reduceLT, Int.reduceLE, Int.reduceAdd, Int.reduceSub, Int.reduceMul, Int.reduceNeg, Nat.reduceEqDiff, Nat.reduceBEq, Nat.reduceBNe, Nat.reduceAdd, Nat.reduceLeDiff, Nat.reduceLT, Nat.reduceMul, ↓reduceIte, reduceCtorEq, g17, pf17, b17, hok, hr, e]
      try rfl
    | true =>
      have hw := hok
      simp only [okWal, Bool.and_eq_true, decide_eq_true_eq] at hw
      have hn : ¬ (okWal ⟨a, b, c, d⟩ = false ∨ okR ⟨n, l⟩ = false) := by rw [hok, hr]; simp
      by_cases h1 : 1073741824 ≤ d + 1
      · have e : addR ⟨a, b, c, d⟩ ⟨n, l⟩ = ([], ⟨0, 0, 0, 0⟩, 2) := by unfold addR; rw [if_neg hn, if_pos h1]
        simp (maxSteps := 1000000) (disch := first | assumption | ((try simp only [LEN, LEN2]); omega)) only [push_cast, Int.reduceToNat, Int.reduceEq, Int.reduceNe, Int.reduceLT, Int.reduceLE, Int.reduceAdd, Int.reduceSub, Int.reduceMul, Int.reduceNeg, Nat.reduceEqDiff, Nat.reduceBEq, Nat.reduceBNe, Nat.reduceAdd, Nat.reduceLeDiff, Nat.reduceLT, Nat.reduceMul, ↓reduceIte, reduceCtorEq, g17, pf17, b17, hok, hr, h1, e]
        try rfl
      · have hc := okR_cnt hr
        have hcut := f38 (num' := d) (run := a) hs hr
        have hcl := cuts_len a d (spelt ⟨n, l⟩)
        have hgo : ∀ q, q = addR ⟨a, b, c, d⟩ ⟨n, l⟩ → q = addR ⟨a, b, c, d⟩ ⟨n, l⟩ := fun q h => h
        by_cases h2 : 512 - c < (cnt (spelt ⟨n, l⟩) : Nat)
        · have e : addR ⟨a, b, c, d⟩ ⟨n, l⟩ = ([], ⟨0, 0, 0, 0⟩, 5) := by unfold addR; rw [if_neg hn, if_neg h1, if_pos h2]
          simp (maxSteps := 1000000) (disch := first | assumption | ((try simp only [LEN, LEN2]); omega)) only [push_cast, Int.reduceToNat, Int.reduceEq, Int.reduceNe, Int.reduceLT, Int.reduceLE, Int.reduceAdd, Int.reduceSub, Int.reduceMul, Int.reduceNeg, Nat.reduceEqDiff, Nat.reduceBEq, Nat.reduceBNe, Nat.reduceAdd, Nat.reduceLeDiff, Nat.reduceLT, Nat.reduceMul, ↓reduceIte, reduceCtorEq, g17, pf17, b17, hok, hr, h1, hcl, h2, e]
          try rfl
        · have e : addR ⟨a, b, c, d⟩ ⟨n, l⟩ = (putsD c.toNat (cuts a d (spelt ⟨n, l⟩)), ⟨a, b, c + (cnt (spelt ⟨n, l⟩) : Nat), d + 1⟩, 0) := by unfold addR; rw [if_neg hn, if_neg h1, if_neg h2]
          have hp := f39 (L := []) (a := c.toNat) (S := cuts a d (spelt ⟨n, l⟩)) (by simp) (by omega) (by omega)
          rw [show ((c.toNat : Nat) : Int) = c by omega] at hp
          simp only [List.map_nil, List.nil_append] at hp
          simp (maxSteps := 1000000) (disch := first | assumption | ((try simp only [LEN, LEN2]); omega)) only [push_cast, Int.reduceToNat, Int.reduceEq, Int.reduceNe, Int.reduceLT, Int.reduceLE, Int.reduceAdd, Int.reduceSub, Int.reduceMul, Int.reduceNeg, Nat.reduceEqDiff, Nat.reduceBEq, Nat.reduceBNe, Nat.reduceAdd, Nat.reduceLeDiff, Nat.reduceLT, Nat.reduceMul, ↓reduceIte, reduceCtorEq, g17, pf17, b17, hok, hr, h1, hcl, h2, callT_eq hp, e]
          try rfl
theorem f17c {w : Wal} {n : Int} {l : List Write} (hs : smW l) {g : VG} {F : Fn} {lk : Bool} {e : Env} {dst : Option Nat} {ops : List Ins} {keep : Option (List Nat)} {K : List Fr} : CallC G g F 17 [.vs true (cWal w), .vs true [.d (.sc (.int .i64 n)), .d (.sl (l.map eW))]] lk e dst ops keep K = ThenL G g F (if lk && !(T.noSl (layT (addR w ⟨n, l⟩).1 (addR w ⟨n, l⟩).2.1 (addR w ⟨n, l⟩).2.2)) then none else e.put g.un dst (layT (addR w ⟨n, l⟩).1 (addR w ⟨n, l⟩).2.1 (addR w ⟨n, l⟩).2.2)) ops keep K := callC_eq (f17 hs)
attribute [push_cast] f17c
end Go.Mir.Try

/- Walks: what sector 0 tells; an image's rows. -/
set_option linter.unusedVariables false
set_option linter.unusedSimpArgs false
set_option maxRecDepth 100000
namespace Go.Mir.Try
open Go.Proofs Go.Mir.Q

def turnP (s : List UInt8) : Wal × Bool :=
  if runOf s < 1 ∨ 1073741824 ≤ runOf s then (⟨runOf s, 0, 0, 0⟩, false) else
  (⟨runOf s, (whole1 0 (runOf s) [s]).1.Commit - 1, 0, 0⟩, decide ((whole1 0 (runOf s) [s]).2 = 1 ∧ (whole1 0 (runOf s) [s]).1.Writes = [] ∧ ((whole1 0 (runOf s) [s]).1.Commit - 1 = 0 ∨ (whole1 0 (runOf s) [s]).1.Commit - 1 = 1)))
theorem turnP_eq (s : List UInt8) : turnT s = if (turnP s).2 = true then some ((turnP s).1.Run, (turnP s).1.Slot) else none := by
  unfold turnP
  by_cases h : runOf s < 1 ∨ 1073741824 ≤ runOf s
  · rw [if_pos h, turnT, if_neg (by omega)]; simp
  · rw [if_neg h, turn_eq (by omega) (by omega)]
    simp only [decide_eq_true_eq]
theorem runOf_pre {s : List UInt8} {i : Nat} (h : 4 + i < s.length) (hi : i < 4) : num (((s.drop 4).take (i + 1))) = num ((s.drop 4).take i) * 256 + (s[4 + i]).toNat := by
  rw [List.take_succ_eq_append_getElem (by rw [List.length_drop]; omega), num_snoc, List.getElem_drop]

theorem whole_bd {run n : Int} {L : List (List UInt8)} : ∀ {l : List (List UInt8)} {i : Nat} {b : List UInt8}, whole run n L l i b = (⟨0, []⟩, 0) ∨ okR (whole run n L l i b).1 = true
  | [], i, b => .inl rfl
  | s :: ss, i, b => by
    have ih := whole_bd (run := run) (n := n) (L := L) (l := ss) (i := i + 1) (b := b ++ (s.drop 12).take (s[11]?.getD 0).toNat)
    unfold whole
    split
    · exact .inl rfl
    · split
      · exact .inl rfl
      · split
        · exact ih
        · cases ht : take (b ++ (s.drop 12).take (s[11]?.getD 0).toNat) with
          | none => exact .inl rfl
          | some r =>
            simp only
            split
            · exact .inr (take_ok ht)
            · exact .inl rfl
theorem okR_commit {r : Record} (h : okR r = true) : 1 ≤ r.Commit ∧ r.Commit ≤ 1073741824 := by
  simp only [okR, Bool.and_eq_true, decide_eq_true_eq] at h
  omega

set_option maxHeartbeats 2000000 in
theorem f28 {s : List UInt8} (hs : s.length = 32) : Fun G 28 [.str (bs s)] (.tup [(true, cWal (turnP s).1), (false, [.d (.sc (.bool (turnP s).2))])], []) := by
  refine Fun.of_run (g := g28) (pf := pf28) rfl rfl rfl rfl ?_
  simp (maxSteps := 1000000) (disch := first | assumption | ((try simp only [LEN, LEN2]); omega)) only [push_cast, Int.reduceToNat, Int.reduceEq, Int.reduceNe, Int.reduceLT, Int.reduceLE, Int.reduceAdd, Int.reduceSub, Int.reduceMul, Int.reduceNeg, Nat.reduceEqDiff, Nat.reduceBEq, Nat.reduceBNe, Nat.reduceAdd, Nat.reduceLeDiff, Nat.reduceLT, Nat.reduceMul, ↓reduceIte, reduceCtorEq, g28, pf28, b28]
  refine run_loop' (fun i : Nat => [(0, T.str (bs s)), (2, T.one (.box [.d (.sc (.int .i64 (num ((s.drop 4).take i)))), .d (.sc (.int .i64 0)), .d (.sc (.int .i64 0)), .d (.sc (.int .i64 0))])), (7, T.int .i64 i)]) (fun i => i ≤ 4) (fun i => 4 - i) 0 rfl (by omega) (fun i hi => ?_)
  have hb := num_bd6 ((s.drop 4).take i) (by rw [List.length_take]; omega)
  by_cases h : (i : Int) < 4
  · have hi' : i < 4 := by omega
    have h2 := runOf_pre (s := s) (i := i) (by omega) hi'
    obtain ⟨n, hn⟩ : ∃ n, n = num ((s.drop 4).take i) := ⟨_, rfl⟩
    rw [← hn] at hb h2
    have e := or_byte (a := n) (b := (s[4 + i]'(by omega)).toNat) hb.1 (by omega) (by omega) (by have := (s[4 + i]'(by omega)).toNat_lt; omega)
    have e4 : (4 + (i : Int)).toNat = 4 + i := by omega
    simp (maxSteps := 1000000) (disch := first | assumption | ((try simp only [LEN, LEN2]); omega)) only [push_cast, Int.reduceToNat, Int.reduceEq, Int.reduceNe, Int.reduceLT, Int.reduceLE, Int.reduceAdd, Int.reduceSub, Int.reduceMul, Int.reduceNeg, Nat.reduceEqDiff, Nat.reduceBEq, Nat.reduceBNe, Nat.reduceAdd, Nat.reduceLeDiff, Nat.reduceLT, Nat.reduceMul, ↓reduceIte, reduceCtorEq, g28, pf28, b28, h, ← hn, e, e4]
    refine ⟨i + 1, ?_, by omega, by omega⟩
    rw [h2]
    simp
  · obtain rfl : i = 4 := by omega
    have e : num ((s.drop 4).take 4) = runOf s := rfl
    rw [e] at hb
    unfold turnP
    obtain ⟨n, hn⟩ : ∃ n, n = runOf s := ⟨_, rfl⟩
    rw [e]
    rw [← hn] at hb ⊢
    by_cases h1 : n < 1
    · simp (maxSteps := 1000000) (disch := first | assumption | ((try simp only [LEN, LEN2]); omega)) only [push_cast, Int.reduceToNat, Int.reduceEq, Int.reduceNe, Int.reduceLT, Int.reduceLE, Int.reduceAdd, Int.reduceSub, Int.reduceMul, Int.reduceNeg, Nat.reduceEqDiff, Nat.reduceBEq, Nat.reduceBNe, Nat.reduceAdd, Nat.reduceLeDiff, Nat.reduceLT, Nat.reduceMul, ↓reduceIte, reduceCtorEq, g28, pf28, b28, h1]
    · by_cases h2 : 1073741824 ≤ n
      · simp (maxSteps := 1000000) (disch := first | assumption | ((try simp only [LEN, LEN2]); omega)) only [push_cast, Int.reduceToNat, Int.reduceEq, Int.reduceNe, Int.reduceLT, Int.reduceLE, Int.reduceAdd, Int.reduceSub, Int.reduceMul, Int.reduceNeg, Nat.reduceEqDiff, Nat.reduceBEq, Nat.reduceBNe, Nat.reduceAdd, Nat.reduceLeDiff, Nat.reduceLT, Nat.reduceMul, ↓reduceIte, reduceCtorEq, g28, pf28, b28, h1, h2]
      · rw [if_neg (by omega)]
        have hw := f30 (run := 0) (nn := n) (L := [s]) (by simp)
        have hle := whole1_le 0 n [s]
        obtain ⟨⟨⟨c, ws⟩, k⟩, hW⟩ : ∃ x, whole1 0 n [s] = x := ⟨_, rfl⟩
        rw [hW] at hw hle ⊢
        have hcb : 0 ≤ c ∧ c ≤ 1073741824 := by
          rcases whole_bd (run := 0) (n := n) (L := [s]) (l := [s]) (i := 0) (b := []) with g | g
          · rw [show whole 0 n [s] [s] 0 [] = whole1 0 n [s] from rfl, hW] at g
            simp only [Prod.mk.injEq, Q.Record.mk.injEq] at g
            omega
          · rw [show whole 0 n [s] [s] 0 [] = whole1 0 n [s] from rfl, hW] at g
            have := okR_commit g
            simp only at this; omega
        simp only [push_cast, Int.reduceToNat, Int.reduceEq, Int.reduceNe, Int.reduceLT, Int.reduceLE, Int.reduceAdd, Int.reduceSub, Int.reduceMul, Int.reduceNeg, Nat.reduceEqDiff, Nat.reduceBEq, Nat.reduceBNe, Nat.reduceAdd, Nat.reduceLeDiff, Nat.reduceLT, Nat.reduceMul, ↓reduceIte, reduceCtorEq, eS] at hw hle
        by_cases hk : k = 1
        · subst hk
          by_cases hws : ws = []
          · subst hws
            by_cases h3 : c - 1 = 0
            · simp (maxSteps := 1000000) (disch := first | assumption | ((try simp only [LEN, LEN2]); omega)) only [push_cast, Int.reduceToNat, Int.reduceEq, Int.reduceNe, Int.reduceLT, Int.reduceLE, Int.reduceAdd, Int.reduceSub, Int.reduceMul, Int.reduceNeg, Nat.reduceEqDiff, Nat.reduceBEq, Nat.reduceBNe, Nat.reduceAdd, Nat.reduceLeDiff, Nat.reduceLT, Nat.reduceMul, ↓reduceIte, reduceCtorEq, g28, pf28, b28, h1, h2, callC_eq hw, h3, oW]
              done
            · by_cases h4 : c - 1 = 1
              · simp (maxSteps := 1000000) (disch := first | assumption | ((try simp only [LEN, LEN2]); omega)) only [push_cast, Int.reduceToNat, Int.reduceEq, Int.reduceNe, Int.reduceLT, Int.reduceLE, Int.reduceAdd, Int.reduceSub, Int.reduceMul, Int.reduceNeg, Nat.reduceEqDiff, Nat.reduceBEq, Nat.reduceBNe, Nat.reduceAdd, Nat.reduceLeDiff, Nat.reduceLT, Nat.reduceMul, ↓reduceIte, reduceCtorEq, g28, pf28, b28, h1, h2, callC_eq hw, h3, h4, oW]
                done
              · simp (maxSteps := 1000000) (disch := first | assumption | ((try simp only [LEN, LEN2]); omega)) only [push_cast, Int.reduceToNat, Int.reduceEq, Int.reduceNe, Int.reduceLT, Int.reduceLE, Int.reduceAdd, Int.reduceSub, Int.reduceMul, Int.reduceNeg, Nat.reduceEqDiff, Nat.reduceBEq, Nat.reduceBNe, Nat.reduceAdd, Nat.reduceLeDiff, Nat.reduceLT, Nat.reduceMul, ↓reduceIte, reduceCtorEq, g28, pf28, b28, h1, h2, callC_eq hw, h3, h4, oW]
                done
          · have h5 : ¬ (ws.length : Int) = 0 := fun hh => hws (List.length_eq_zero_iff.1 (by omega))
            simp (maxSteps := 1000000) (disch := first | assumption | ((try simp only [LEN, LEN2]); omega)) only [push_cast, Int.reduceToNat, Int.reduceEq, Int.reduceNe, Int.reduceLT, Int.reduceLE, Int.reduceAdd, Int.reduceSub, Int.reduceMul, Int.reduceNeg, Nat.reduceEqDiff, Nat.reduceBEq, Nat.reduceBNe, Nat.reduceAdd, Nat.reduceLeDiff, Nat.reduceLT, Nat.reduceMul, ↓reduceIte, reduceCtorEq, g28, pf28, b28, h1, h2, callC_eq hw, hws, h5]
            done
        · have h6 : ¬ (k : Int) = 1 := by omega
          simp (maxSteps := 1000000) (disch := first | assumption | ((try simp only [LEN, LEN2]); omega)) only [push_cast, Int.reduceToNat, Int.reduceEq, Int.reduceNe, Int.reduceLT, Int.reduceLE, Int.reduceAdd, Int.reduceSub, Int.reduceMul, Int.reduceNeg, Nat.reduceEqDiff, Nat.reduceBEq, Nat.reduceBNe, Nat.reduceAdd, Nat.reduceLeDiff, Nat.reduceLT, Nat.reduceMul, ↓reduceIte, reduceCtorEq, g28, pf28, b28, h1, h2, callC_eq hw, hk, h6]
          done
theorem f28c {s : List UInt8} (hs : s.length = 32) {g : VG} {F : Fn} {lk : Bool} {e : Env} {dst : Option Nat} {ops : List Ins} {keep : Option (List Nat)} {K : List Fr} : CallC G g F 28 [.str (bs s)] lk e dst ops keep K = ThenL G g F (if lk && !(T.noSl (.tup [(true, cWal (turnP s).1), (false, [.d (.sc (.bool (turnP s).2))])])) then none else e.put g.un dst (.tup [(true, cWal (turnP s).1), (false, [.d (.sc (.bool (turnP s).2))])])) ops keep K := callC_eq (f28 hs)
attribute [push_cast] f28c
end Go.Mir.Try

/- Walks: an image's rows; what a tape tells. -/
set_option linter.unusedVariables false
set_option linter.unusedSimpArgs false
set_option maxRecDepth 100000
namespace Go.Mir.Try
open Go.Proofs Go.Mir.Q

def rowsP (tables : Nat) (r : Record) : Map × Bool :=
  if goodP tables 0 r.Writes = true then (groupT tables r.Writes, decide (r.Commit = 1) && okM (groupT tables r.Writes)) else ([], false)
theorem groupT_len (tables : Nat) (ws : List Write) : (groupT tables ws).length = tables := by simp [groupT]
theorem groupT_sm {tables : Nat} {ws : List Write} (ht : tables ≤ 1048576) (h : smW ws) : smM (groupT tables ws) := by
  refine ⟨by rw [groupT_len]; exact ht, fun l hl => ?_⟩
  simp only [groupT, List.mem_map, List.mem_range] at hl
  obtain ⟨t, _, rfl⟩ := hl
  refine ⟨?_, fun x hx => ?_⟩
  · rw [List.length_map]; exact Nat.le_trans (List.length_filter_le _ _) h.1
  · obtain ⟨w, hw, rfl⟩ := List.mem_map.1 hx
    exact h.2 w (List.mem_filter.1 hw).1
theorem goodP_pre {tables : Nat} : ∀ {ws k : List Write} {last : Int}, goodP tables last (ws ++ k) = true → goodP tables last ws = true
  | [], _, _, _ => rfl
  | w :: ws, k, last, h => by
    simp only [List.cons_append, goodP, Bool.and_eq_true] at h ⊢
    exact ⟨h.1, goodP_pre h.2⟩
theorem goodP_bad {tables : Nat} {ws : List Write} {last : Int} {k : Nat} (h : goodP tables last (ws.take k) = false) : goodP tables last ws = false := by
  rw [← Bool.not_eq_true]
  intro hh
  rw [← List.take_append_drop k ws] at hh
  rw [goodP_pre hh] at h
  cases h
theorem groupT_nil (tables : Nat) : groupT tables [] = List.replicate tables [] := by
  simp only [groupT, List.filter_nil, List.map_nil, List.map_const', List.length_range]
def lastT (ws : List Write) : Int := (ws.getLast?.map (·.Table)).getD 0
theorem toDss_groupT (m : Map) (k : Nat) (l : List Row) : (m.map oMp).set k (oMp l) = (m.set k l).map oMp := by rw [List.map_set]

set_option maxHeartbeats 2000000 in
theorem f31 {n : Int} {l : List Write} {tables : Nat} (hs : smW l) (ht : tables ≤ 1048576) (h0 : ∀ w ∈ l, 0 ≤ w.Table) : Fun G 31 [.vs true [.d (.sc (.int .i64 n)), .d (.sl (l.map eW))], .int .i64 tables] (.tup [(false, [.own 83 ((rowsP tables ⟨n, l⟩).1.map oMp)]), (false, [.d (.sc (.bool (rowsP tables ⟨n, l⟩).2))])], []) := by
  refine Fun.of_run (g := g31) (pf := pf31) rfl rfl rfl rfl ?_
  have hs1 := hs.1
  simp (maxSteps := 1000000) (disch := first | assumption | ((try simp only [LEN, LEN2]); omega)) only [push_cast, Int.reduceToNat, Int.reduceEq, Int.reduceNe, Int.reduceLT, Int.reduceLE, Int.reduceAdd, Int.reduceSub, Int.reduceMul, Int.reduceNeg, Nat.reduceEqDiff, Nat.reduceBEq, Nat.reduceBNe, Nat.reduceAdd, Nat.reduceLeDiff, Nat.reduceLT, Nat.reduceMul, ↓reduceIte, reduceCtorEq, g31, pf31, b31]
  refine run_loop' (fun i : Nat => [(1, T.int .i64 tables), (2, T.one (.box [.d (.sc (.int .i64 n)), .d (.sl (l.map eW))])), (6, T.one (.own 83 ((groupT tables (l.take i)).map oMp))), (7, T.int .i64 (lastT (l.take i))), (13, T.one (.d (.sl (l.map eW)))), (14, T.int .i64 l.length), (15, T.int .i64 i)]) (fun i => i ≤ l.length ∧ goodP tables 0 (l.take i) = true) (fun i => l.length - i) 0 (by rw [List.take_zero, groupT_nil, List.map_replicate]; rfl) ⟨Nat.zero_le _, rfl⟩ (fun i hi => ?_)
  obtain ⟨hi, hg⟩ := hi
  by_cases h : (i : Int) < l.length
  · have hi' : i < l.length := by omega
    have ht0 := h0 l[i] (List.getElem_mem hi')
    obtain ⟨w, hw⟩ : ∃ w, w = l[i] := ⟨_, rfl⟩
    have hgs : goodP tables 0 (l.take (i + 1)) = decide (w.Table < tables ∧ lastT (l.take i) ≤ w.Table ∧ w.Gone = false) := by
      rw [List.take_succ_eq_append_getElem hi', goodP_snoc, hg, ← hw]; rfl
    have hno : decide (w.Table < tables ∧ lastT (l.take i) ≤ w.Table ∧ w.Gone = false) = false → rowsP tables ⟨n, l⟩ = ([], false) := fun hx => by
      rw [hx] at hgs
      unfold rowsP
      rw [if_neg (by rw [goodP_bad hgs]; simp)]
    rw [← hw] at ht0
    by_cases h1 : (tables : Int) ≤ w.Table
    · simp (maxSteps := 1000000) (disch := first | assumption | ((try simp only [LEN, LEN2]); omega)) only [push_cast, Int.reduceToNat, Int.reduceEq, Int.reduceNe, Int.reduceLT, Int.reduceLE, Int.reduceAdd, Int.reduceSub, Int.reduceMul, Int.reduceNeg, Nat.reduceEqDiff, Nat.reduceBEq, Nat.reduceBNe, Nat.reduceAdd, Nat.reduceLeDiff, Nat.reduceLT, Nat.reduceMul, ↓reduceIte, reduceCtorEq, g31, pf31, b31, h, eW, ← hw, h1, hno (by simp; omega)]
      done
    · by_cases h2 : w.Table < lastT (l.take i)
      · simp (maxSteps := 1000000) (disch := first | assumption | ((try simp only [LEN, LEN2]); omega)) only [push_cast, Int.reduceToNat, Int.reduceEq, Int.reduceNe, Int.reduceLT, Int.reduceLE, Int.reduceAdd, Int.reduceSub, Int.reduceMul, Int.reduceNeg, Nat.reduceEqDiff, Nat.reduceBEq, Nat.reduceBNe, Nat.reduceAdd, Nat.reduceLeDiff, Nat.reduceLT, Nat.reduceMul, ↓reduceIte, reduceCtorEq, g31, pf31, b31, h, eW, ← hw, h1, h2, hno (by simp; omega)]
        done
      · cases h3 : w.Gone with
        | true =>
          simp (maxSteps := 1000000) (disch := first | assumption | ((try simp only [LEN, LEN2]); omega)) only [push_cast, Int.reduceToNat, Int.reduceEq, Int.reduceNe, Int.reduceLT, Int.reduceLE, Int.reduceAdd, Int.reduceSub, Int.reduceMul, Int.reduceNeg, Nat.reduceEqDiff, Nat.reduceBEq, Nat.reduceBNe, Nat.reduceAdd, Nat.reduceLeDiff, Nat.reduceLT, Nat.reduceMul, ↓reduceIte, reduceCtorEq, g31, pf31, b31, h, eW, ← hw, h1, h2, h3, hno (by simp [h3])]
          done
        | false =>
          obtain ⟨k, hk⟩ : ∃ k : Nat, w.Table = k := Int.eq_ofNat_of_zero_le ht0
          have hkl : k < tables := by omega
          have h1' := h1
          have h2' := h2
          rw [hk] at h1' h2'
          obtain ⟨M, hM⟩ : ∃ M, M = groupT tables (l.take i) := ⟨_, rfl⟩
          have hML : M.length = tables := by rw [hM, groupT_len]
          have hMs := groupT_sm ht (ws := l.take i) ⟨by rw [List.length_take]; omega, fun x hx => hs.2 x (List.mem_of_mem_take hx)⟩
          rw [← hM] at hMs
          have hx := (hMs.2 (M[k]'(by omega)) (List.getElem_mem _)).1
          have hgn := group_snoc (tables := tables) (ws := l.take i) (w := w) (k := k) hk hkl
          rw [← hM, List.getElem?_eq_getElem (by omega), Option.getD_some] at hgn
          simp (maxSteps := 1000000) (disch := first | assumption | ((try simp only [LEN, LEN2]); omega)) only [push_cast, Int.reduceToNat, Int.reduceEq, Int.reduceNe, Int.reduceLT, Int.reduceLE, Int.reduceAdd, Int.reduceSub, Int.reduceMul, Int.reduceNeg, Nat.reduceEqDiff, Nat.reduceBEq, Nat.reduceBNe, Nat.reduceAdd, Nat.reduceLeDiff, Nat.reduceLT, Nat.reduceMul, ↓reduceIte, reduceCtorEq, g31, pf31, b31, h, eW, ← hw, h1', h2', h3, ← hM, hk, oMp]
          refine ⟨i + 1, ?_, ⟨by omega, by rw [hgs]; simp only [decide_eq_true_eq]; exact ⟨by omega, by omega, h3⟩⟩, by omega⟩
          rw [List.take_succ_eq_append_getElem hi', ← hw, hgn]
          rw [List.map_set]
          simp [oMp, oRow, lastT, hk]
  · obtain rfl : i = l.length := by omega
    rw [List.take_length] at hg ⊢
    have hsm := groupT_sm (tables := tables) ht hs
    have e : rowsP tables ⟨n, l⟩ = (groupT tables l, decide (n = 1) && okM (groupT tables l)) := by unfold rowsP; rw [if_pos hg]
    have hlen := hsm.1
    by_cases h1 : n = 1
    · subst h1
      simp (maxSteps := 1000000) (disch := first | assumption | ((try simp only [LEN, LEN2]); omega)) only [push_cast, Int.reduceToNat, Int.reduceEq, Int.reduceNe, Int.reduceLT, Int.reduceLE, Int.reduceAdd, Int.reduceSub, Int.reduceMul, Int.reduceNeg, Nat.reduceEqDiff, Nat.reduceBEq, Nat.reduceBNe, Nat.reduceAdd, Nat.reduceLeDiff, Nat.reduceLT, Nat.reduceMul, ↓reduceIte, reduceCtorEq, g31, pf31, b31, h, e]
      done
    · simp (maxSteps := 1000000) (disch := first | assumption | ((try simp only [LEN, LEN2]); omega)) only [push_cast, Int.reduceToNat, Int.reduceEq, Int.reduceNe, Int.reduceLT, Int.reduceLE, Int.reduceAdd, Int.reduceSub, Int.reduceMul, Int.reduceNeg, Nat.reduceEqDiff, Nat.reduceBEq, Nat.reduceBNe, Nat.reduceAdd, Nat.reduceLeDiff, Nat.reduceLT, Nat.reduceMul, ↓reduceIte, reduceCtorEq, g31, pf31, b31, h, h1, e]
      done
theorem f31c {n : Int} {l : List Write} {tables : Nat} (hs : smW l) (ht : tables ≤ 1048576) (h0 : ∀ w ∈ l, 0 ≤ w.Table) {g : VG} {F : Fn} {lk : Bool} {e : Env} {dst : Option Nat} {ops : List Ins} {keep : Option (List Nat)} {K : List Fr} : CallC G g F 31 [.vs true [.d (.sc (.int .i64 n)), .d (.sl (l.map eW))], .int .i64 tables] lk e dst ops keep K = ThenL G g F (if lk && !(T.noSl (.tup [(false, [.own 83 ((rowsP tables ⟨n, l⟩).1.map oMp)]), (false, [.d (.sc (.bool (rowsP tables ⟨n, l⟩).2))])])) then none else e.put g.un dst (.tup [(false, [.own 83 ((rowsP tables ⟨n, l⟩).1.map oMp)]), (false, [.d (.sc (.bool (rowsP tables ⟨n, l⟩).2))])])) ops keep K := callC_eq (f31 hs ht h0)
attribute [push_cast] f31c

def openP (S : List (List UInt8)) (W : List Put) (tables : Int) : Map × List Record × Wal × Int :=
  if okT S W = true ∧ S.length = 512 ∧ W = [] ∧ 1 ≤ tables ∧ tables ≤ 3 then
    match openT S tables.toNat with
    | some (m, l, w) => (m, l, w, 0)
    | none => ([], [], ⟨0, 0, 0, 0⟩, 10)
  else ([], [], ⟨0, 0, 0, 0⟩, 1)
theorem runF_cnt (run : Int) (L : List (List UInt8)) : ∀ (j : Nat) (n : Int) (m : Nat), m + (runF run L j n m).1.length ≤ (runF run L j n m).2
  | 0, n, m => by simp [runF]
  | j + 1, n, m => by
    unfold runF
    split
    · simp
    · dsimp only
      split
      · simp
      · have := runF_cnt run L j (n + 1) (m + (whole1 run n (L.drop m)).2); simp only [List.length_cons]; omega
theorem rd_cnt (run n : Int) (L : List (List UInt8)) : (rd run n L).1.length ≤ (rd run n L).2 := by have := runF_cnt run L (L.length + 1) n 0; simp only [rd]; omega
theorem turnP_bd (s : List UInt8) : (turnP s).1.At = 0 ∧ (turnP s).1.Seq = 0 ∧ 0 ≤ (turnP s).1.Run ∧ (turnP s).1.Run < 281474976710656 := by
  have h := num_bd6 ((s.drop 4).take 4) (by rw [List.length_take]; omega)
  unfold turnP
  split <;> exact ⟨rfl, rfl, h.1, h.2⟩
theorem open_none {S : List (List UInt8)} {tables : Nat} (h : turnT (S[0]?.getD []) = none) : openT S tables = none := by simp only [openT, h]
theorem open_some {S : List (List UInt8)} {tables : Nat} {run slot : Int} {r : Record} {k : Nat} {l : List Record} {n : Nat} (h : turnT (S[0]?.getD []) = some (run, slot)) (hw : whole1 run 0 (seg S slot) = (r, k)) (hr : rd run 1 (S.drop 255) = (l, n)) :
    openT S tables = if k = 0 then none else match rowsT tables r with | none => none | some m => some (m, l, ⟨run, slot, 255 + (n : Nat), 1 + (l.length : Nat)⟩) := by
  simp only [openT, h, hw, hr]
  rfl
theorem rowsP_eq {tables : Nat} {r : Record} (hr : okR r = true) : rowsT tables r = if (rowsP tables r).2 = true then some (rowsP tables r).1 else none := by
  rw [rows_eq hr]
  unfold rowsP
  by_cases hg : goodP tables 0 r.Writes = true
  · rw [if_pos hg]
    simp [hg]
  · rw [if_neg hg, if_neg (fun h => hg h.1)]
    rfl
abbrev openR (m : Map) (l : List Record) (w : Wal) (e : Int) : T := .tup [(false, [.own 83 (m.map oMp)]), (false, [.own 57 (l.map oR)]), (true, cWal w), (false, [.d (.sc (.int .i64 e))])]

set_option maxHeartbeats 2000000 in
theorem f11 {S : List (List UInt8)} {W : List Put} {tables : Int} (h1 : S.length ≤ 1048576) (h3 : W.length ≤ 1048576) : Fun G 11 [.vs true (cT S W), .int .i64 tables] (openR (openP S W tables).1 (openP S W tables).2.1 (openP S W tables).2.2.1 (openP S W tables).2.2.2, []) := by
  refine Fun.of_run (g := g11) (pf := pf11) rfl rfl rfl rfl ?_
  cases hok : okT S W with
  | false =>
    have e : openP S W tables = ([], [], ⟨0, 0, 0, 0⟩, 1) := by unfold openP; rw [if_neg (by simp [hok])]
    simp (maxSteps := 1000000) (disch := first | assumption | ((try simp only [LEN, LEN2]); omega)) only [push_cast, Int.reduceToNat, Int.reduceEq, Int.reduceNe, Int.reduceLT, Int.reduceLE, Int.reduceAdd, Int.reduceSub, Int.reduceMul, Int.reduceNeg, Nat.reduceEqDiff, Nat.reduceBEq, Nat.reduceBNe, Nat.reduceAdd, Nat.reduceLeDiff, Nat.reduceLT, Nat.reduceMul, ↓reduceIte, reduceCtorEq, g11, pf11, b11, hok, e]
    rfl
  | true =>
    by_cases hl : S.length = 512
    · by_cases hW : W = []
      · subst hW
        have hmay := f25 (S := S) (W := []) (by omega) (by simp)
        simp only [push_cast, Int.reduceToNat, Int.reduceEq, Int.reduceNe, Int.reduceLT, Int.reduceLE, Int.reduceAdd, Int.reduceSub, Int.reduceMul, Int.reduceNeg, Nat.reduceEqDiff, Nat.reduceBEq, Nat.reduceBNe, Nat.reduceAdd, Nat.reduceLeDiff, Nat.reduceLT, Nat.reduceMul, ↓reduceIte, reduceCtorEq, cT, hok] at hmay
        by_cases ht1 : tables < 1
        · have e : openP S [] tables = ([], [], ⟨0, 0, 0, 0⟩, 1) := by unfold openP; rw [if_neg (by omega)]
          simp (maxSteps := 1000000) (disch := first | assumption | ((try simp only [LEN, LEN2]); omega)) only [push_cast, Int.reduceToNat, Int.reduceEq, Int.reduceNe, Int.reduceLT, Int.reduceLE, Int.reduceAdd, Int.reduceSub, Int.reduceMul, Int.reduceNeg, Nat.reduceEqDiff, Nat.reduceBEq, Nat.reduceBNe, Nat.reduceAdd, Nat.reduceLeDiff, Nat.reduceLT, Nat.reduceMul, ↓reduceIte, reduceCtorEq, g11, pf11, b11, callC_eq hmay, hl, ht1, e]
          rfl
        · by_cases ht3 : 3 < tables
          · have e : openP S [] tables = ([], [], ⟨0, 0, 0, 0⟩, 1) := by unfold openP; rw [if_neg (by omega)]
            simp (maxSteps := 1000000) (disch := first | assumption | ((try simp only [LEN, LEN2]); omega)) only [push_cast, Int.reduceToNat, Int.reduceEq, Int.reduceNe, Int.reduceLT, Int.reduceLE, Int.reduceAdd, Int.reduceSub, Int.reduceMul, Int.reduceNeg, Nat.reduceEqDiff, Nat.reduceBEq, Nat.reduceBNe, Nat.reduceAdd, Nat.reduceLeDiff, Nat.reduceLT, Nat.reduceMul, ↓reduceIte, reduceCtorEq, g11, pf11, b11, callC_eq hmay, hl, ht1, ht3, e]
            rfl
          · have e : openP S [] tables = match openT S tables.toNat with | some (m, l, w) => (m, l, w, 0) | none => ([], [], ⟨0, 0, 0, 0⟩, 10) := by unfold openP; rw [if_pos ⟨hok, hl, rfl, by omega, by omega⟩]
            rw [e]
            have h0 : 0 < S.length := by omega
            have h32 := (okT_iff.1 hok).2.1
            have hs0 : (S[0]).length = 32 := h32 _ (List.getElem_mem h0)
            have hte := turnP_eq S[0]
            have hf := f28 hs0
            obtain ⟨⟨⟨run, slot, a0, q0⟩, ok⟩, hp⟩ : ∃ x, turnP S[0] = x := ⟨_, rfl⟩
            have ha0 : a0 = 0 ∧ q0 = 0 ∧ 0 ≤ run ∧ run < 281474976710656 := by
              have := turnP_bd S[0]
              rw [hp] at this
              exact this
            obtain ⟨rfl, rfl, hr0, hr1⟩ := ha0
            rw [hp] at hf hte
            simp only at hf hte
            obtain ⟨s0, hs⟩ : ∃ s, s = S[0] := ⟨_, rfl⟩
            have hs0' : s0 = S[0]?.getD [] := by rw [hs, List.getElem?_eq_getElem h0]; rfl
            rw [← hs] at hf hte
            cases ok with
            | false =>
              rw [if_neg (by simp)] at hte
              rw [open_none (by rw [← hs0']; exact hte)]
              simp (maxSteps := 1000000) (disch := first | assumption | ((try simp only [LEN, LEN2]); omega)) only [push_cast, Int.reduceToNat, Int.reduceEq, Int.reduceNe, Int.reduceLT, Int.reduceLE, Int.reduceAdd, Int.reduceSub, Int.reduceMul, Int.reduceNeg, Nat.reduceEqDiff, Nat.reduceBEq, Nat.reduceBNe, Nat.reduceAdd, Nat.reduceLeDiff, Nat.reduceLT, Nat.reduceMul, ↓reduceIte, reduceCtorEq, g11, pf11, b11, callC_eq hmay, hl, ht1, ht3, eS, ← hs, callC_eq hf]
              rfl
            | true =>
              rw [if_pos rfl] at hte
              have hst := startS_le (slot := slot)
              obtain ⟨A, hA⟩ : ∃ A, A = startS slot := ⟨_, rfl⟩
              have eA : ((A : Int) + 127).toNat = A + 127 := by omega
              have hseg : (S.take (A + 127)).drop A = seg S slot := by rw [seg, ← hA, List.drop_take]; congr 1; omega
              obtain ⟨Z, hZ⟩ : ∃ Z, Z = seg S slot := ⟨_, rfl⟩
              rw [← hZ] at hseg
              have hZl : Z.length ≤ 127 := by rw [hZ, seg, List.length_take]; omega
              have hw := f30 (run := run) (nn := 0) (L := Z) (by omega)
              have hbd := whole_bd (run := run) (n := 0) (L := Z) (l := Z) (i := 0) (b := [])
              rw [show whole run 0 Z Z 0 [] = whole1 run 0 Z from rfl] at hbd
              obtain ⟨⟨⟨c, ws⟩, k⟩, hW⟩ : ∃ x, whole1 run 0 Z = x := ⟨_, rfl⟩
              rw [hW] at hw hbd
              have hsm : smW ws ∧ ∀ w ∈ ws, 0 ≤ w.Table := by
                rcases hbd with g | g
                · simp only [Prod.mk.injEq, Q.Record.mk.injEq] at g
                  rw [g.1.2]
                  exact ⟨⟨by simp, by simp⟩, by simp⟩
                · refine ⟨okR_smW g, fun w hw => ?_⟩
                  simp only [okR, Bool.and_eq_true, List.all_eq_true] at g
                  have := g.2 w hw
                  simp only [okW, decide_eq_true_eq] at this
                  omega
              have hdl : (S.drop 255).length ≤ 4000000 := by rw [List.length_drop]; omega
              have hrd := f32 (run := run) (n0 := 1) (L := S.drop 255) hdl ⟨by omega, by omega⟩
              have hcn := rd_cnt run 1 (S.drop 255)
              have hcl := rd_le run 1 (S.drop 255)
              have htk : S.take 512 = S := List.take_of_length_le (by omega)
              obtain ⟨⟨R, n⟩, hR⟩ : ∃ x, rd run 1 (S.drop 255) = x := ⟨_, rfl⟩
              rw [hR] at hrd hcn hcl
              rw [List.length_drop] at hcl
              simp only at hcn hcl
              rw [open_some (r := ⟨c, ws⟩) (k := k) (by rw [← hs0']; exact hte) (by rw [← hZ]; exact hW) hR]
              obtain ⟨tb, htb⟩ : ∃ tb : Nat, tables = tb := Int.eq_ofNat_of_zero_le (by omega)
              subst htb
              have hrw := f31 (n := c) (tables := tb) hsm.1 (by omega) hsm.2
              simp only [push_cast, Int.reduceToNat, Int.reduceEq, Int.reduceNe, Int.reduceLT, Int.reduceLE, Int.reduceAdd, Int.reduceSub, Int.reduceMul, Int.reduceNeg, Nat.reduceEqDiff, Nat.reduceBEq, Nat.reduceBNe, Nat.reduceAdd, Nat.reduceLeDiff, Nat.reduceLT, Nat.reduceMul, ↓reduceIte, reduceCtorEq] at hw hrd hrw
              by_cases hk : k = 0
              · subst hk
                rw [if_pos rfl]
                simp (maxSteps := 1000000) (disch := first | assumption | ((try simp only [LEN, LEN2]); omega)) only [push_cast, Int.reduceToNat, Int.reduceEq, Int.reduceNe, Int.reduceLT, Int.reduceLE, Int.reduceAdd, Int.reduceSub, Int.reduceMul, Int.reduceNeg, Nat.reduceEqDiff, Nat.reduceBEq, Nat.reduceBNe, Nat.reduceAdd, Nat.reduceLeDiff, Nat.reduceLT, Nat.reduceMul, ↓reduceIte, reduceCtorEq, g11, pf11, b11, callC_eq hmay, hl, ht1, ht3, eS, ← hs, callC_eq hf, ← hA, eA, hseg, callC_eq hw, callC_eq hrd, callC_eq hrw]
                rfl
              · have hk1 : ¬ (k : Int) = 0 := by omega
                rw [if_neg hk, rowsP_eq (whole_sound hW hk).2, Int.toNat_natCast]
                obtain ⟨⟨m, okm⟩, hm⟩ : ∃ x, rowsP tb ⟨c, ws⟩ = x := ⟨_, rfl⟩
                rw [hm] at hrw ⊢
                cases okm with
                | false =>
                  simp (maxSteps := 1000000) (disch := first | assumption | ((try simp only [LEN, LEN2]); omega)) only [push_cast, Int.reduceToNat, Int.reduceEq, Int.reduceNe, Int.reduceLT, Int.reduceLE, Int.reduceAdd, Int.reduceSub, Int.reduceMul, Int.reduceNeg, Nat.reduceEqDiff, Nat.reduceBEq, Nat.reduceBNe, Nat.reduceAdd, Nat.reduceLeDiff, Nat.reduceLT, Nat.reduceMul, ↓reduceIte, reduceCtorEq, g11, pf11, b11, callC_eq hmay, hl, ht1, ht3, eS, ← hs, callC_eq hf, ← hA, eA, hseg, callC_eq hw, callC_eq hrd, callC_eq hrw, hk1]
                  rfl
                | true =>
                  simp (maxSteps := 1000000) (disch := first | assumption | ((try simp only [LEN, LEN2]); omega)) only [push_cast, Int.reduceToNat, Int.reduceEq, Int.reduceNe, Int.reduceLT, Int.reduceLE, Int.reduceAdd, Int.reduceSub, Int.reduceMul, Int.reduceNeg, Nat.reduceEqDiff, Nat.reduceBEq, Nat.reduceBNe, Nat.reduceAdd, Nat.reduceLeDiff, Nat.reduceLT, Nat.reduceMul, ↓reduceIte, reduceCtorEq, g11, pf11, b11, callC_eq hmay, hl, ht1, ht3, eS, ← hs, callC_eq hf, ← hA, eA, hseg, callC_eq hw, callC_eq hrd, callC_eq hrw, hk1, htk]
      · have e : openP S W tables = ([], [], ⟨0, 0, 0, 0⟩, 1) := by unfold openP; rw [if_neg (fun h => hW h.2.2.1)]
        have hWl : (0 : Int) < W.length := by have := List.length_pos_iff.2 hW; omega
        simp (maxSteps := 1000000) (disch := first | assumption | ((try simp only [LEN, LEN2]); omega)) only [push_cast, Int.reduceToNat, Int.reduceEq, Int.reduceNe, Int.reduceLT, Int.reduceLE, Int.reduceAdd, Int.reduceSub, Int.reduceMul, Int.reduceNeg, Nat.reduceEqDiff, Nat.reduceBEq, Nat.reduceBNe, Nat.reduceAdd, Nat.reduceLeDiff, Nat.reduceLT, Nat.reduceMul, ↓reduceIte, reduceCtorEq, g11, pf11, b11, hok, hl, hWl, e]
        rfl
    · have e : openP S W tables = ([], [], ⟨0, 0, 0, 0⟩, 1) := by unfold openP; rw [if_neg (fun h => hl h.2.1)]
      have hl2 : ¬ (S.length : Int) = 512 := by omega
      simp (maxSteps := 1000000) (disch := first | assumption | ((try simp only [LEN, LEN2]); omega)) only [push_cast, Int.reduceToNat, Int.reduceEq, Int.reduceNe, Int.reduceLT, Int.reduceLE, Int.reduceAdd, Int.reduceSub, Int.reduceMul, Int.reduceNeg, Nat.reduceEqDiff, Nat.reduceBEq, Nat.reduceBNe, Nat.reduceAdd, Nat.reduceLeDiff, Nat.reduceLT, Nat.reduceMul, ↓reduceIte, reduceCtorEq, g11, pf11, b11, hok, hl2, e]
      rfl
theorem f11c {S : List (List UInt8)} {W : List Put} {tables : Int} (h1 : S.length ≤ 1048576) (h3 : W.length ≤ 1048576) {g : VG} {F : Fn} {lk : Bool} {e : Env} {dst : Option Nat} {ops : List Ins} {keep : Option (List Nat)} {K : List Fr} : CallC G g F 11 [.vs true (cT S W), .int .i64 tables] lk e dst ops keep K = ThenL G g F (if lk && !(T.noSl (openR (openP S W tables).1 (openP S W tables).2.1 (openP S W tables).2.2.1 (openP S W tables).2.2.2)) then none else e.put g.un dst (openR (openP S W tables).1 (openP S W tables).2.1 (openP S W tables).2.2.1 (openP S W tables).2.2.2)) ops keep K := callC_eq (f11 h1 h3)
attribute [push_cast] f11c
end Go.Mir.Try

/- Walks: heavy; may be added; does it wake. -/
set_option linter.unusedVariables false
set_option linter.unusedSimpArgs false
set_option maxRecDepth 100000
namespace Go.Mir.Try
open Go.Proofs Go.Mir.Q

theorem f19 {m : Map} (hm : smM m) : ∃ n : Int, Fun G 19 [.one (.d (.sl (m.map eMp)))] (.int .i64 n, []) ∧ 0 ≤ n ∧ n ≤ 2097152 := by
  obtain ⟨hl, h⟩ := hm
  obtain ⟨r, h1, n, rfl, h2⟩ := Fun.ex_of_run (G := G) (f := 19) (args := [.one (.d (.sl (m.map eMp)))]) (Q := fun r => ∃ n : Int, r = (.int .i64 n, []) ∧ 0 ≤ n ∧ n ≤ 2097152) (g := g19) (pf := pf19) rfl rfl rfl rfl (by
    simp (maxSteps := 1000000) (disch := first | assumption | ((try simp only [LEN, LEN2]); omega)) only [push_cast, Int.reduceToNat, Int.reduceEq, Int.reduceNe, Int.reduceLT, Int.reduceLE, Int.reduceAdd, Int.reduceSub, Int.reduceMul, Int.reduceNeg, Nat.reduceEqDiff, Nat.reduceBEq, Nat.reduceBNe, Nat.reduceAdd, Nat.reduceLeDiff, Nat.reduceLT, Nat.reduceMul, ↓reduceIte, reduceCtorEq, g19, pf19, b19]
    refine run_loop' (fun x : Nat × Int => [(0, T.one (.d (.sl (m.map eMp)))), (3, T.int .i64 x.2), (4, T.int .i64 x.1)]) (fun x => x.1 ≤ m.length ∧ 0 ≤ x.2 ∧ x.2 ≤ 2097152) (fun x => m.length - x.1) (0, m.length) rfl (by simp only; omega) (fun ⟨i, n⟩ hi => ?_)
    simp only at hi
    by_cases h1 : (i : Int) < m.length
    · have hi' : i < m.length := by omega
      obtain ⟨hs1, hs2⟩ := h m[i] (List.getElem_mem hi')
      obtain ⟨l, hl0⟩ : ∃ l, l = m[i] := ⟨_, rfl⟩
      rw [← hl0] at hs1 hs2
      by_cases h2 : n < 1048576
      · simp (maxSteps := 1000000) (disch := first | assumption | ((try simp only [LEN, LEN2]); omega)) only [push_cast, Int.reduceToNat, Int.reduceEq, Int.reduceNe, Int.reduceLT, Int.reduceLE, Int.reduceAdd, Int.reduceSub, Int.reduceMul, Int.reduceNeg, Nat.reduceEqDiff, Nat.reduceBEq, Nat.reduceBNe, Nat.reduceAdd, Nat.reduceLeDiff, Nat.reduceLT, Nat.reduceMul, ↓reduceIte, reduceCtorEq, g19, pf19, b19, h1, h2, eMp, ← hl0]
        refine run_loop' (fun x : Nat × Int => [(0, T.one (.d (.sl (m.map eMp)))), (3, T.int .i64 x.2), (4, T.int .i64 i), (5, T.int .i64 x.1)]) (fun x => x.1 ≤ l.length ∧ 0 ≤ x.2 ∧ x.2 ≤ 2097152) (fun x => l.length - x.1) (0, n + l.length) rfl (by simp only; omega) (fun ⟨k, n⟩ hk => ?_)
        simp only at hk
        by_cases h3 : (k : Int) < l.length
        · have hk' : k < l.length := by omega
          have hs := hs2 l[k] (List.getElem_mem hk')
          by_cases h4 : n < 1048576
          · simp (maxSteps := 1000000) (disch := first | assumption | ((try simp only [LEN, LEN2]); omega)) only [push_cast, Int.reduceToNat, Int.reduceEq, Int.reduceNe, Int.reduceLT, Int.reduceLE, Int.reduceAdd, Int.reduceSub, Int.reduceMul, Int.reduceNeg, Nat.reduceEqDiff, Nat.reduceBEq, Nat.reduceBNe, Nat.reduceAdd, Nat.reduceLeDiff, Nat.reduceLT, Nat.reduceMul, ↓reduceIte, reduceCtorEq, g19, pf19, b19, h3, h4, eMp, ← hl0, eRow]
            exact ⟨(k + 1, n + ((l[k].Key.length : Int) + l[k].Value.length) / 8), rfl, by simp only; omega, by simp only; omega⟩
          · simp (maxSteps := 1000000) (disch := first | assumption | ((try simp only [LEN, LEN2]); omega)) only [push_cast, Int.reduceToNat, Int.reduceEq, Int.reduceNe, Int.reduceLT, Int.reduceLE, Int.reduceAdd, Int.reduceSub, Int.reduceMul, Int.reduceNeg, Nat.reduceEqDiff, Nat.reduceBEq, Nat.reduceBNe, Nat.reduceAdd, Nat.reduceLeDiff, Nat.reduceLT, Nat.reduceMul, ↓reduceIte, reduceCtorEq, g19, pf19, b19, h3, h4, eMp, ← hl0]
            exact ⟨(i + 1, n), rfl, by simp only; omega, by simp only; omega⟩
        · simp (maxSteps := 1000000) (disch := first | assumption | ((try simp only [LEN, LEN2]); omega)) only [push_cast, Int.reduceToNat, Int.reduceEq, Int.reduceNe, Int.reduceLT, Int.reduceLE, Int.reduceAdd, Int.reduceSub, Int.reduceMul, Int.reduceNeg, Nat.reduceEqDiff, Nat.reduceBEq, Nat.reduceBNe, Nat.reduceAdd, Nat.reduceLeDiff, Nat.reduceLT, Nat.reduceMul, ↓reduceIte, reduceCtorEq, g19, pf19, b19, h3, eMp, ← hl0]
          exact ⟨(i + 1, n), rfl, by simp only; omega, by simp only; omega⟩
      · simp (maxSteps := 1000000) (disch := first | assumption | ((try simp only [LEN, LEN2]); omega)) only [push_cast, Int.reduceToNat, Int.reduceEq, Int.reduceNe, Int.reduceLT, Int.reduceLE, Int.reduceAdd, Int.reduceSub, Int.reduceMul, Int.reduceNeg, Nat.reduceEqDiff, Nat.reduceBEq, Nat.reduceBNe, Nat.reduceAdd, Nat.reduceLeDiff, Nat.reduceLT, Nat.reduceMul, ↓reduceIte, reduceCtorEq, g19, pf19, b19, h1, h2]
        exact ⟨n, rfl, hi.2⟩
    · simp (maxSteps := 1000000) (disch := first | assumption | ((try simp only [LEN, LEN2]); omega)) only [push_cast, Int.reduceToNat, Int.reduceEq, Int.reduceNe, Int.reduceLT, Int.reduceLE, Int.reduceAdd, Int.reduceSub, Int.reduceMul, Int.reduceNeg, Nat.reduceEqDiff, Nat.reduceBEq, Nat.reduceBNe, Nat.reduceAdd, Nat.reduceLeDiff, Nat.reduceLT, Nat.reduceMul, ↓reduceIte, reduceCtorEq, g19, pf19, b19, h1]
      exact ⟨n, rfl, hi.2⟩)
  exact ⟨n, h1, h2⟩

def eMaps (m : Map) : List D := [.sl (m.map eMp)]
abbrev cAsk (M : List Map) (R : List Record) (S : List (List UInt8)) (N1 : List Int) (L : List (List (List UInt8))) (W : List Wal) (K N : List Int) : List V :=
  [.d (.sl (M.map eMaps)), .d (.sl (R.map eR)), .d (.sl (S.map eS)), .d (.sl (N1.map eN)), .d (.sl (L.map fun l => [.sl (l.map eS)])), .d (.sl (W.map eWal)), .d (.sl (K.map eN)), .d (.sl (N.map eN))]
structure smAsk (M : List Map) (R : List Record) (S : List (List UInt8)) (N1 : List Int) (L : List (List (List UInt8))) (W : List Wal) (K N : List Int) : Prop where
  m : M.length ≤ 1048576
  mm : ∀ m ∈ M, smM m
  r : smR R
  s : smS S
  n1 : N1.length ≤ 1048576
  l : L.length ≤ 1048576 ∧ ∀ l ∈ L, smS l
  w : W.length ≤ 1048576
  k : K.length ≤ 1048576 ∧ ∀ x ∈ K, okN x
  n : N.length ≤ 1048576 ∧ ∀ x ∈ N, okN x

theorem f5 {M : List Map} {R : List Record} {S : List (List UInt8)} {N1 : List Int} {L : List (List (List UInt8))} {W : List Wal} {K N : List Int} (h : smAsk M R S N1 L W K N) : ∃ b : Bool, Fun G 5 [.vs true (cAsk M R S N1 L W K N)] (.bool b, []) := by
  obtain ⟨b17, h17⟩ := f20 h.r h.s h.n1 h.l
  have hm := h.m
  have hw := h.w
  have hk := h.k.1
  have hn := h.n.1
  obtain ⟨r, h1, b, rfl⟩ := Fun.ex_of_run (G := G) (f := 5) (args := [.vs true (cAsk M R S N1 L W K N)]) (Q := fun r => ∃ b : Bool, r = (.bool b, [])) (g := g5) (pf := pf5) rfl rfl rfl rfl (by
    simp (maxSteps := 1000000) (disch := first | assumption | ((try simp only [LEN, LEN2]); omega)) only [push_cast, Int.reduceToNat, Int.reduceEq, Int.reduceNe, Int.reduceLT, Int.reduceLE, Int.reduceAdd, Int.reduceSub, Int.reduceMul, Int.reduceNeg, Nat.reduceEqDiff, Nat.reduceBEq, Nat.reduceBNe, Nat.reduceAdd, Nat.reduceLeDiff, Nat.reduceLT, Nat.reduceMul, ↓reduceIte, reduceCtorEq, g5, pf5, b5]
    refine run_loop' (fun x : Nat × Int => [(1, T.one (.box (cAsk M R S N1 L W K N))), (3, T.int .i64 x.2), (4, T.int .i64 x.1)]) (fun x => x.1 ≤ M.length ∧ 0 ≤ x.2 ∧ x.2 ≤ 8388608) (fun x => M.length - x.1) (0, M.length + W.length + K.length + N.length) rfl (by simp only; omega) (fun ⟨i, n⟩ hi => ?_)
    simp only at hi
    by_cases h1 : (i : Int) < M.length
    · have hi' : i < M.length := by omega
      by_cases h2 : n < 1048576
      · obtain ⟨w, hw1, hw2, hw3⟩ := f19 (h.mm M[i] (List.getElem_mem hi'))
        simp (maxSteps := 1000000) (disch := first | assumption | ((try simp only [LEN, LEN2]); omega)) only [push_cast, Int.reduceToNat, Int.reduceEq, Int.reduceNe, Int.reduceLT, Int.reduceLE, Int.reduceAdd, Int.reduceSub, Int.reduceMul, Int.reduceNeg, Nat.reduceEqDiff, Nat.reduceBEq, Nat.reduceBNe, Nat.reduceAdd, Nat.reduceLeDiff, Nat.reduceLT, Nat.reduceMul, ↓reduceIte, reduceCtorEq, g5, pf5, b5, h1, h2, eMaps, callC_eq hw1]
        exact ⟨(i + 1, n + w), rfl, by simp only; omega, by simp only; omega⟩
      · by_cases h3 : (700 : Int) < n
        · simp (maxSteps := 1000000) (disch := first | assumption | ((try simp only [LEN, LEN2]); omega)) only [push_cast, Int.reduceToNat, Int.reduceEq, Int.reduceNe, Int.reduceLT, Int.reduceLE, Int.reduceAdd, Int.reduceSub, Int.reduceMul, Int.reduceNeg, Nat.reduceEqDiff, Nat.reduceBEq, Nat.reduceBNe, Nat.reduceAdd, Nat.reduceLeDiff, Nat.reduceLT, Nat.reduceMul, ↓reduceIte, reduceCtorEq, g5, pf5, b5, h1, h2, h3]
          exact ⟨_, rfl⟩
        · exact absurd h3 (by omega)
    · by_cases h3 : (700 : Int) < n
      · simp (maxSteps := 1000000) (disch := first | assumption | ((try simp only [LEN, LEN2]); omega)) only [push_cast, Int.reduceToNat, Int.reduceEq, Int.reduceNe, Int.reduceLT, Int.reduceLE, Int.reduceAdd, Int.reduceSub, Int.reduceMul, Int.reduceNeg, Nat.reduceEqDiff, Nat.reduceBEq, Nat.reduceBNe, Nat.reduceAdd, Nat.reduceLeDiff, Nat.reduceLT, Nat.reduceMul, ↓reduceIte, reduceCtorEq, g5, pf5, b5, h1, h3]
        exact ⟨_, rfl⟩
      · simp (maxSteps := 1000000) (disch := first | assumption | ((try simp only [LEN, LEN2]); omega)) only [push_cast, Int.reduceToNat, Int.reduceEq, Int.reduceNe, Int.reduceLT, Int.reduceLE, Int.reduceAdd, Int.reduceSub, Int.reduceMul, Int.reduceNeg, Nat.reduceEqDiff, Nat.reduceBEq, Nat.reduceBNe, Nat.reduceAdd, Nat.reduceLeDiff, Nat.reduceLT, Nat.reduceMul, ↓reduceIte, reduceCtorEq, g5, pf5, b5, h1, h3, callC_eq h17]
        exact ⟨_, rfl⟩)
  exact ⟨b, h1⟩

def mayR (n : Nat) (r : Record) : Bool := okR r && r.Writes.all fun w => decide (w.Table < n)

set_option maxHeartbeats 2000000 in
theorem f16 {m : Map} {R : List Record} (hm : smM m) (hR : smR R) : Fun G 16 [.one (.d (.sl (m.map eMp))), .one (.d (.sl (R.map eR)))] (.bool (R.all (mayR m.length) && okM m), []) := by
  refine Fun.of_run (g := g16) (pf := pf16) rfl rfl rfl rfl ?_
  obtain ⟨hR1, hR2⟩ := hR
  have hm1 := hm.1
  have hbad : ∀ r ∈ R, mayR m.length r = false → (R.all (mayR m.length) && okM m) = false := fun r hr hb => by
    rw [Bool.and_eq_false_iff]
    left
    rw [← Bool.not_eq_true, List.all_eq_true]
    intro hh
    rw [hh r hr] at hb
    cases hb
  simp (maxSteps := 1000000) (disch := first | assumption | ((try simp only [LEN, LEN2]); omega)) only [push_cast, Int.reduceToNat, Int.reduceEq, Int.reduceNe, Int.reduceLT, Int.reduceLE, Int.reduceAdd, Int.reduceSub, Int.reduceMul, Int.reduceNeg, Nat.reduceEqDiff, Nat.reduceBEq, Nat.reduceBNe, Nat.reduceAdd, Nat.reduceLeDiff, Nat.reduceLT, Nat.reduceMul, ↓reduceIte, reduceCtorEq, g16, pf16, b16]
  refine run_loop' (fun i : Nat => [(0, T.one (.d (.sl (m.map eMp)))), (1, T.one (.d (.sl (R.map eR)))), (5, T.int .i64 i)]) (fun i => i ≤ R.length ∧ ∀ x ∈ R.take i, mayR m.length x = true) (fun i => R.length - i) 0 rfl ⟨Nat.zero_le _, by simp⟩ (fun i hi => ?_)
  obtain ⟨hi, ht⟩ := hi
  by_cases h1 : (i : Int) < R.length
  · have hi' : i < R.length := by omega
    have hrm := List.getElem_mem hi'
    have hsw := (hR2 R[i] hrm).1
    obtain ⟨r, hr⟩ : ∃ r, r = R[i] := ⟨_, rfl⟩
    rw [← hr] at hsw hrm
    obtain ⟨c, l⟩ := r
    simp only at hsw
    have hsl := hsw.1
    cases hok : okR ⟨c, l⟩ with
    | false =>
      have hb := hbad _ hrm (by simp [mayR, hok])
      simp (maxSteps := 1000000) (disch := first | assumption | ((try simp only [LEN, LEN2]); omega)) only [push_cast, Int.reduceToNat, Int.reduceEq, Int.reduceNe, Int.reduceLT, Int.reduceLE, Int.reduceAdd, Int.reduceSub, Int.reduceMul, Int.reduceNeg, Nat.reduceEqDiff, Nat.reduceBEq, Nat.reduceBNe, Nat.reduceAdd, Nat.reduceLeDiff, Nat.reduceLT, Nat.reduceMul, ↓reduceIte, reduceCtorEq, g16, pf16, b16, h1, eR, ← hr, hok, hb]
    | true =>
      simp (maxSteps := 1000000) (disch := first | assumption | ((try simp only [LEN, LEN2]); omega)) only [push_cast, Int.reduceToNat, Int.reduceEq, Int.reduceNe, Int.reduceLT, Int.reduceLE, Int.reduceAdd, Int.reduceSub, Int.reduceMul, Int.reduceNeg, Nat.reduceEqDiff, Nat.reduceBEq, Nat.reduceBNe, Nat.reduceAdd, Nat.reduceLeDiff, Nat.reduceLT, Nat.reduceMul, ↓reduceIte, reduceCtorEq, g16, pf16, b16, h1, eR, ← hr, hok]
      refine run_loop' (fun k : Nat => [(0, T.one (.d (.sl (m.map eMp)))), (1, T.one (.d (.sl (R.map eR)))), (5, T.int .i64 i), (6, T.int .i64 k)]) (fun k => k ≤ l.length ∧ ∀ x ∈ l.take k, x.Table < m.length) (fun k => l.length - k) 0 rfl ⟨Nat.zero_le _, by simp⟩ (fun k hk => ?_)
      obtain ⟨hk, htk⟩ := hk
      by_cases h2 : (k : Int) < l.length
      · have hk' : k < l.length := by omega
        by_cases h3 : (m.length : Int) ≤ l[k].Table
        · have hb := hbad _ hrm (by
            simp only [mayR, Bool.and_eq_false_iff]
            right
            rw [← Bool.not_eq_true, List.all_eq_true]
            intro hh
            have := of_decide_eq_true (hh _ (List.getElem_mem hk'))
            omega)
          simp (maxSteps := 1000000) (disch := first | assumption | ((try simp only [LEN, LEN2]); omega)) only [push_cast, Int.reduceToNat, Int.reduceEq, Int.reduceNe, Int.reduceLT, Int.reduceLE, Int.reduceAdd, Int.reduceSub, Int.reduceMul, Int.reduceNeg, Nat.reduceEqDiff, Nat.reduceBEq, Nat.reduceBNe, Nat.reduceAdd, Nat.reduceLeDiff, Nat.reduceLT, Nat.reduceMul, ↓reduceIte, reduceCtorEq, g16, pf16, b16, h2, h3, eR, ← hr, eW, hb]
        · simp (maxSteps := 1000000) (disch := first | assumption | ((try simp only [LEN, LEN2]); omega)) only [push_cast, Int.reduceToNat, Int.reduceEq, Int.reduceNe, Int.reduceLT, Int.reduceLE, Int.reduceAdd, Int.reduceSub, Int.reduceMul, Int.reduceNeg, Nat.reduceEqDiff, Nat.reduceBEq, Nat.reduceBNe, Nat.reduceAdd, Nat.reduceLeDiff, Nat.reduceLT, Nat.reduceMul, ↓reduceIte, reduceCtorEq, g16, pf16, b16, h2, h3, eR, ← hr, eW]
          refine ⟨k + 1, rfl, ⟨by omega, fun x hx => ?_⟩, by omega⟩
          rw [List.take_succ_eq_append_getElem hk', List.mem_append, List.mem_singleton] at hx
          rcases hx with hx | rfl
          · exact htk x hx
          · omega
      · simp (maxSteps := 1000000) (disch := first | assumption | ((try simp only [LEN, LEN2]); omega)) only [push_cast, Int.reduceToNat, Int.reduceEq, Int.reduceNe, Int.reduceLT, Int.reduceLE, Int.reduceAdd, Int.reduceSub, Int.reduceMul, Int.reduceNeg, Nat.reduceEqDiff, Nat.reduceBEq, Nat.reduceBNe, Nat.reduceAdd, Nat.reduceLeDiff, Nat.reduceLT, Nat.reduceMul, ↓reduceIte, reduceCtorEq, g16, pf16, b16, h2, eR, ← hr]
        refine ⟨i + 1, rfl, ⟨by omega, fun x hx => ?_⟩, by omega⟩
        rw [List.take_succ_eq_append_getElem hi', List.mem_append, List.mem_singleton, ← hr] at hx
        rcases hx with hx | rfl
        · exact ht x hx
        · obtain rfl : k = l.length := by omega
          rw [List.take_length] at htk
          simp only [mayR, hok, Bool.true_and, List.all_eq_true, decide_eq_true_eq]
          exact htk
  · obtain rfl : i = R.length := by omega
    rw [List.take_length] at ht
    have e : R.all (mayR m.length) = true := List.all_eq_true.2 ht
    simp (maxSteps := 1000000) (disch := first | assumption | ((try simp only [LEN, LEN2]); omega)) only [push_cast, Int.reduceToNat, Int.reduceEq, Int.reduceNe, Int.reduceLT, Int.reduceLE, Int.reduceAdd, Int.reduceSub, Int.reduceMul, Int.reduceNeg, Nat.reduceEqDiff, Nat.reduceBEq, Nat.reduceBNe, Nat.reduceAdd, Nat.reduceLeDiff, Nat.reduceLT, Nat.reduceMul, ↓reduceIte, reduceCtorEq, g16, pf16, b16, h1, e]
theorem f16c {m : Map} {R : List Record} (hm : smM m) (hR : smR R) {g : VG} {F : Fn} {lk : Bool} {e : Env} {dst : Option Nat} {ops : List Ins} {keep : Option (List Nat)} {K : List Fr} : CallC G g F 16 [.one (.d (.sl (m.map eMp))), .one (.d (.sl (R.map eR)))] lk e dst ops keep K = ThenL G g F (if lk && !(T.noSl (.bool (R.all (mayR m.length) && okM m))) then none else e.put g.un dst (.bool (R.all (mayR m.length) && okM m))) ops keep K := callC_eq (f16 hm hR)
attribute [push_cast] f16c
end Go.Mir.Try

/- Walks: what is laid and opened; does it wake. -/
set_option linter.unusedVariables false
set_option linter.unusedSimpArgs false
set_option maxRecDepth 100000
namespace Go.Mir.Try
open Go.Proofs Go.Mir.Q

theorem okT_all {S : List (List UInt8)} (hS : S.length = 512) (h32 : all32 S) : okT S [] = true := okT_iff.2 ⟨⟨by omega, by omega, by simp⟩, h32, by simp⟩
theorem fPlay {S S' : List (List UInt8)} {l : List Do} (hS : S.length = 512) (h32 : all32 S) (hl : smDo l) (h : playT ⟨S, []⟩ l = (0, ⟨S', []⟩)) : Fun G 10 [.vs true (cT S []), .int .i64 (-1), .one (.d (.sl (l.map eDo)))] (tErr' 0 ⟨S', []⟩, []) := by
  have hp := f10 (S := S) (W := []) (n := -1) (l := l) (by omega) (by simp) hl
  have e : playP S [] (-1) l = (0, ⟨S', []⟩) := by
    unfold playP
    rw [if_pos ⟨okT_all hS h32, by omega⟩, show upto (-1) l = l from rfl, h]
  rw [e] at hp
  exact hp
theorem smDo_lay {run slot : Int} {m : Map} (hm : okM m = true) (h64 : (image m).length ≤ 64) : smDo (layD run slot m) := by
  have hc := okR_cnt (image_okR hm h64)
  refine ⟨?_, fun d hd => ?_⟩
  · simp only [layD, List.length_append, List.length_cons, putsD_len, cuts_len, List.length_nil]; omega
  · simp only [layD, putsD, List.mem_append, List.mem_cons, List.mem_map, List.not_mem_nil, or_false] at hd
    rcases hd with ⟨p, hp, rfl⟩ | rfl | ⟨p, hp, rfl⟩ | rfl
    · have := cuts_32 _ (putsW_mem hp).2.2; simp only; omega
    · simp [syncD]
    · have := (putsW_mem hp).2.2
      simp only [List.mem_singleton] at this
      simp only [this, super_32]; omega
    · simp [syncD]
theorem fLay {S : List (List UInt8)} {run slot : Int} {m : Map} (hS : S.length = 512) (h32 : all32 S) (hm : okM m = true) (h64 : (image m).length ≤ 64) : Fun G 10 [.vs true (cT S []), .int .i64 (-1), .one (.d (.sl ((layD run slot m).map eDo)))] (tErr' 0 ⟨layS S run slot m, []⟩, []) :=
  fPlay hS h32 (smDo_lay hm h64) (play_lay hS hm h64)
theorem okM_len {m : Map} (hm : okM m = true) : m.length ≤ 3 := by simp only [okM, Bool.and_eq_true, decide_eq_true_eq] at hm; exact hm.1
theorem fOpenT {S : List (List UInt8)} {m m' : Map} {l : List Record} {w : Wal} (hS : S.length = 512) (h32 : all32 S) (hm : okM m = true) (h1 : 1 ≤ m.length) (h : openT S m.length = some (m', l, w)) : Fun G 11 [.vs true (cT S []), .int .i64 m.length] (openR m' l w 0, []) := by
  have h3 := okM_len hm
  have hp := f11 (S := S) (W := []) (tables := m.length) (by omega) (by simp)
  have e : openP S [] m.length = (m', l, w, 0) := by
    unfold openP
    rw [if_pos ⟨okT_all hS h32, hS, rfl, by omega, by omega⟩, Int.toNat_natCast, h]
  rw [e] at hp
  exact hp
theorem fOpen {S : List (List UInt8)} {m : Map} {l : List Record} {w : Wal} (h1 : 1 ≤ m.length) (h : Laid S w m l) : Fun G 11 [.vs true (cT S []), .int .i64 m.length] (openR m l w 0, []) :=
  fOpenT h.len h.a32 h.okm h1 h.open
theorem okM_sm {m : Map} (hm : okM m = true) (h64 : (image m).length ≤ 64) : smM m := by
  simp only [okM, Bool.and_eq_true, decide_eq_true_eq, List.all_eq_true] at hm
  refine ⟨by omega, fun l hl => ?_⟩
  have ho := hm.2 l hl
  simp only [okRows, Bool.and_eq_true, List.all_eq_true] at ho
  refine ⟨?_, fun x hx => ?_⟩
  · have : ∀ (m : Map) (t : Nat), l ∈ m → l.length ≤ (imageF t m).length := by
      intro m
      induction m with
      | nil => intro t h; cases h
      | cons x m ih =>
        intro t h
        simp only [imageF, List.length_append, List.length_map]
        rcases List.mem_cons.1 h with rfl | h
        · omega
        · have := ih (t + 1) h; omega
    have := this m 0 hl
    simp only [image] at h64
    omega
  · have := ho.1 x hx
    simp only [okRow, decide_eq_true_eq] at this
    omega
theorem layR_ok {run slot : Int} {m : Map} (hm : okM m = true) (hr : run < 1073741824) (h64 : (image m).length ≤ 64) : layR run slot m = (layD run slot m, ⟨run, slot, 255, 1⟩, 0) := by
  unfold layR; rw [if_neg (by rw [hm]; simp), if_neg (by omega), if_pos h64]
theorem fFormat {m : Map} (hm : okM m = true) (h64 : (image m).length ≤ 64) : Fun G 8 [.one (.d (.sl (m.map eMp)))] (layT (layD 1 0 m) ⟨1, 0, 255, 1⟩ 0, []) := by
  have h := f8 (okM_sm hm h64)
  rw [layR_ok hm (by omega) h64] at h
  exact h
theorem fSave {S : List (List UInt8)} {w : Wal} {m m' : Map} {l : List Record} (h : Laid S w m l) (hr : w.Run < 1073741823) (hseq : w.Seq < 1073741824) (hm : okM m' = true) (h64 : (image m').length ≤ 64) : Fun G 7 [.vs true (cWal w), .one (.d (.sl (m'.map eMp)))] (layT (layD (w.Run + 1) (1 - w.Slot) m') ⟨w.Run + 1, 1 - w.Slot, 255, 1⟩ 0, []) := by
  have hrun := h.run
  have hs := h.slot
  have hat := h.at_
  have hq := h.seq
  have hf := h.few
  have hw : okWal w = true := by simp only [okWal, Bool.and_eq_true, decide_eq_true_eq]; omega
  have hh := f7 (w := w) (okM_sm hm h64) ⟨by omega, by omega⟩
  rw [if_pos hw, layR_ok hm (by omega) h64] at hh
  exact hh
def tape0 : List (List UInt8) := List.replicate 512 zeros
theorem tape0_len : tape0.length = 512 := List.length_replicate
theorem tape0_32 : all32 tape0 := fun s hs => by rw [List.eq_of_mem_replicate hs]; decide
theorem tape0_z : ∀ s ∈ tape0.drop 255, s = zeros := fun s hs => List.eq_of_mem_replicate (List.mem_of_mem_drop hs)
theorem fNew0 : Fun G 9 [.int .i64 512] (.vs true (oT tape0 []), []) := f9 (n := 512) (by omega)

def m0 : Map := [[⟨[97], [118]⟩]]
theorem m0_ok : okM m0 = true := by decide
theorem m0_64 : (image m0).length ≤ 64 := by decide
set_option maxHeartbeats 2000000 in
theorem f15   : Fun G 15 [] (.bool true, []) := by
  refine Fun.of_run (g := g15) (pf := pf15) rfl rfl rfl rfl ?_
  have h1 := fFormat m0_ok m0_64
  have h2 := fNew0
  have h3 := fLay (run := 1) (slot := 0) tape0_len tape0_32 m0_ok m0_64
  have h4 := fOpen (m := m0) (by decide) (Laid.lay (run := 1) (slot := 0) tape0_len tape0_32 (by omega) (by omega) (.inl rfl) m0_ok m0_64 tape0_z)
  have hsm := okM_sm m0_ok m0_64
  have h5 := f13 hsm hsm
  rw [decide_eq_true rfl] at h5
  have ht := Laid.len (Laid.lay (run := 1) (slot := 0) tape0_len tape0_32 (by omega) (by omega) (.inl rfl) m0_ok m0_64 tape0_z)
  have hd := (smDo_lay (run := 1) (slot := 0) m0_ok m0_64).1
  obtain ⟨T', hT⟩ : ∃ T, T = layS tape0 1 0 m0 := ⟨_, rfl⟩
  rw [← hT] at h3 h4 ht
  obtain ⟨L, hL⟩ : ∃ L, L = layD 1 0 m0 := ⟨_, rfl⟩
  rw [← hL] at hd h1 h3
  obtain ⟨Z, hZ⟩ : ∃ Z, Z = tape0 := ⟨_, rfl⟩
  have hz := tape0_len
  rw [← hZ] at hz h2 h3
  clear hT hL hZ hsm
  simp only [push_cast, Int.reduceToNat, Int.reduceEq, Int.reduceNe, Int.reduceLT, Int.reduceLE, Int.reduceAdd, Int.reduceSub, Int.reduceMul, Int.reduceNeg, Nat.reduceEqDiff, Nat.reduceBEq, Nat.reduceBNe, Nat.reduceAdd, Nat.reduceLeDiff, Nat.reduceLT, Nat.reduceMul, ↓reduceIte, reduceCtorEq, cT, oT, tErr', m0, eMp, oMp, eRow, oRow, List.length_cons, List.length_nil] at h1 h2 h3 h4 h5
  simp (maxSteps := 1000000) (disch := first | assumption | ((try simp only [LEN, LEN2]); omega)) only [push_cast, Int.reduceToNat, Int.reduceEq, Int.reduceNe, Int.reduceLT, Int.reduceLE, Int.reduceAdd, Int.reduceSub, Int.reduceMul, Int.reduceNeg, Nat.reduceEqDiff, Nat.reduceBEq, Nat.reduceBNe, Nat.reduceAdd, Nat.reduceLeDiff, Nat.reduceLT, Nat.reduceMul, ↓reduceIte, reduceCtorEq, g15, pf15, b15, eRow, oRow, eMp, oMp, callC_eq h1, callT_eq h1, callC_eq h2, callT_eq h2, callC_eq h3, callT_eq h3, callC_eq h4, callT_eq h4, callC_eq h5, callT_eq h5]
theorem f15c   {g : VG} {F : Fn} {lk : Bool} {e : Env} {dst : Option Nat} {ops : List Ins} {keep : Option (List Nat)} {K : List Fr} : CallC G g F 15 [] lk e dst ops keep K = ThenL G g F (if lk && !(T.noSl (.bool true)) then none else e.put g.un dst (.bool true)) ops keep K := callC_eq (f15 )
attribute [push_cast] f15c
end Go.Mir.Try
