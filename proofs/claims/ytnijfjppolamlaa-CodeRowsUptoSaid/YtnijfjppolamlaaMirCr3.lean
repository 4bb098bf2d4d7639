/- The law CodeRows answers true, and its input reads behind the call as before, for every input of bulk at most 1048576. Part 3 of its proof. -/
import Derived.Test.YtnijfjppolamlaaMirCr2
import Derived.KernelRfl
/- Walks: small ones. -/
set_option linter.unusedVariables false
set_option linter.unusedSimpArgs false
set_option maxRecDepth 100000
namespace Go.Mir.Try
open Go.Proofs Go.Mir.Q


set_option maxHeartbeats 2000000 in
theorem f18 {i : Int}  : Fun G 18 [.int .i64 i] (.int .i64 i, []) := by
  refine Fun.of_run (g := g18) (pf := pf18) rfl rfl rfl rfl ?_
  simp (disch := first | assumption | ((try simp only [LEN, LEN2]); omega)) only [push_cast, Int.reduceToNat, Int.reduceEq, Int.reduceNe, Int.reduceLT, Int.reduceLE, Int.reduceAdd, Int.reduceSub, Int.reduceMul, Int.reduceNeg, Nat.reduceEqDiff, Nat.reduceBEq, Nat.reduceBNe, Nat.reduceAdd, Nat.reduceLeDiff, Nat.reduceLT, Nat.reduceMul, ↓reduceIte, reduceCtorEq, g18, pf18, b18]
theorem f18c {i : Int}  {g : VG} {F : Fn} {lk : Bool} {e : Env} {dst : Option Nat} {ops : List Ins} {keep : Option (List Nat)} {K : List Fr} : CallC G g F 18 [.int .i64 i] lk e dst ops keep K = ThenL G g F (if lk && !(T.noSl (.int .i64 i)) then none else e.put g.un dst (.int .i64 i)) ops keep K := callC_eq (f18 )
attribute [push_cast] f18c



set_option maxHeartbeats 2000000 in
theorem f84 {b : Bool}  : Fun G 84 [.bool b] (.int .u8 (if b then 1 else 0), []) := by
  refine Fun.of_run (g := g84) (pf := pf84) rfl rfl rfl rfl ?_
  cases b <;> simp (disch := first | assumption | ((try simp only [LEN, LEN2]); omega)) only [push_cast, Int.reduceToNat, Int.reduceEq, Int.reduceNe, Int.reduceLT, Int.reduceLE, Int.reduceAdd, Int.reduceSub, Int.reduceMul, Int.reduceNeg, Nat.reduceEqDiff, Nat.reduceBEq, Nat.reduceBNe, Nat.reduceAdd, Nat.reduceLeDiff, Nat.reduceLT, Nat.reduceMul, ↓reduceIte, reduceCtorEq, g84, pf84, b84]
theorem f84c {b : Bool}  {g : VG} {F : Fn} {lk : Bool} {e : Env} {dst : Option Nat} {ops : List Ins} {keep : Option (List Nat)} {K : List Fr} : CallC G g F 84 [.bool b] lk e dst ops keep K = ThenL G g F (if lk && !(T.noSl (.int .u8 (if b then 1 else 0))) then none else e.put g.un dst (.int .u8 (if b then 1 else 0))) ops keep K := callC_eq (f84 )
attribute [push_cast] f84c



set_option maxHeartbeats 2000000 in
theorem f106 {s : List UInt8}  : Fun G 106 [.str (bs s)] (.bool (decide (s.length ≤ 20)), []) := by
  refine Fun.of_run (g := g106) (pf := pf106) rfl rfl rfl rfl ?_
  simp (disch := first | assumption | ((try simp only [LEN, LEN2]); omega)) only [push_cast, Int.reduceToNat, Int.reduceEq, Int.reduceNe, Int.reduceLT, Int.reduceLE, Int.reduceAdd, Int.reduceSub, Int.reduceMul, Int.reduceNeg, Nat.reduceEqDiff, Nat.reduceBEq, Nat.reduceBNe, Nat.reduceAdd, Nat.reduceLeDiff, Nat.reduceLT, Nat.reduceMul, ↓reduceIte, reduceCtorEq, g106, pf106, b106]
  exact boolRes (by omega)
theorem f106c {s : List UInt8}  {g : VG} {F : Fn} {lk : Bool} {e : Env} {dst : Option Nat} {ops : List Ins} {keep : Option (List Nat)} {K : List Fr} : CallC G g F 106 [.str (bs s)] lk e dst ops keep K = ThenL G g F (if lk && !(T.noSl (.bool (decide (s.length ≤ 20)))) then none else e.put g.un dst (.bool (decide (s.length ≤ 20)))) ops keep K := callC_eq (f106 )
attribute [push_cast] f106c

set_option maxHeartbeats 2000000 in
theorem f104 {t : Int}  : Fun G 104 [.int .i64 t] (.bool (decide (0 ≤ t ∧ t < 3)), []) := by
  refine Fun.of_run (g := g104) (pf := pf104) rfl rfl rfl rfl ?_
  by_cases h : 0 ≤ t <;> by_cases h' : t < 3 <;> simp (disch := first | assumption | ((try simp only [LEN, LEN2]); omega)) only [push_cast, Int.reduceToNat, Int.reduceEq, Int.reduceNe, Int.reduceLT, Int.reduceLE, Int.reduceAdd, Int.reduceSub, Int.reduceMul, Int.reduceNeg, Nat.reduceEqDiff, Nat.reduceBEq, Nat.reduceBNe, Nat.reduceAdd, Nat.reduceLeDiff, Nat.reduceLT, Nat.reduceMul, ↓reduceIte, reduceCtorEq, g104, pf104, b104, h, h']
theorem f104c {t : Int}  {g : VG} {F : Fn} {lk : Bool} {e : Env} {dst : Option Nat} {ops : List Ins} {keep : Option (List Nat)} {K : List Fr} : CallC G g F 104 [.int .i64 t] lk e dst ops keep K = ThenL G g F (if lk && !(T.noSl (.bool (decide (0 ≤ t ∧ t < 3)))) then none else e.put g.un dst (.bool (decide (0 ≤ t ∧ t < 3)))) ops keep K := callC_eq (f104 )
attribute [push_cast] f104c

set_option maxHeartbeats 2000000 in
theorem f105 {s : List UInt8}  : Fun G 105 [.str (bs s)] (.bool (decide (s ≠ [] ∧ s.length ≤ 12)), []) := by
  refine Fun.of_run (g := g105) (pf := pf105) rfl rfl rfl rfl ?_
  by_cases h : s = [] <;> by_cases h' : (s.length : Int) ≤ 12 <;> simp (disch := first | assumption | ((try simp only [LEN, LEN2]); omega)) only [push_cast, Int.reduceToNat, Int.reduceEq, Int.reduceNe, Int.reduceLT, Int.reduceLE, Int.reduceAdd, Int.reduceSub, Int.reduceMul, Int.reduceNeg, Nat.reduceEqDiff, Nat.reduceBEq, Nat.reduceBNe, Nat.reduceAdd, Nat.reduceLeDiff, Nat.reduceLT, Nat.reduceMul, ↓reduceIte, reduceCtorEq, g105, pf105, b105, h, h'] <;> simp <;> omega
theorem f105c {s : List UInt8}  {g : VG} {F : Fn} {lk : Bool} {e : Env} {dst : Option Nat} {ops : List Ins} {keep : Option (List Nat)} {K : List Fr} : CallC G g F 105 [.str (bs s)] lk e dst ops keep K = ThenL G g F (if lk && !(T.noSl (.bool (decide (s ≠ [] ∧ s.length ≤ 12)))) then none else e.put g.un dst (.bool (decide (s ≠ [] ∧ s.length ≤ 12)))) ops keep K := callC_eq (f105 )
attribute [push_cast] f105c

def okW (w : Write) : Bool := decide (0 ≤ w.Table ∧ w.Table < 3 ∧ w.Key ≠ [] ∧ w.Key.length ≤ 12 ∧ w.Value.length ≤ 20 ∧ (w.Gone = false ∨ w.Value = []))

set_option maxHeartbeats 2000000 in
theorem f82 {t : Int} {k v : List UInt8} {d : Bool}  : Fun G 82 [.vs true (cW t k v d)] (.bool (okW ⟨t, k, v, d⟩), []) := by
  refine Fun.of_run (g := g82) (pf := pf82) rfl rfl rfl rfl ?_
  by_cases h1 : 0 ≤ t ∧ t < 3
  · by_cases h2 : k = []
    · simp (disch := first | assumption | ((try simp only [LEN, LEN2]); omega)) only [push_cast, Int.reduceToNat, Int.reduceEq, Int.reduceNe, Int.reduceLT, Int.reduceLE, Int.reduceAdd, Int.reduceSub, Int.reduceMul, Int.reduceNeg, Nat.reduceEqDiff, Nat.reduceBEq, Nat.reduceBNe, Nat.reduceAdd, Nat.reduceLeDiff, Nat.reduceLT, Nat.reduceMul, ↓reduceIte, reduceCtorEq, g82, pf82, b82, h1, h2]
      simp [okW]
    · by_cases h3 : k.length ≤ 12
      · by_cases h4 : v.length ≤ 20
        · cases d <;> by_cases h5 : v = [] <;> simp (disch := first | assumption | ((try simp only [LEN, LEN2]); omega)) only [push_cast, Int.reduceToNat, Int.reduceEq, Int.reduceNe, Int.reduceLT, Int.reduceLE, Int.reduceAdd, Int.reduceSub, Int.reduceMul, Int.reduceNeg, Nat.reduceEqDiff, Nat.reduceBEq, Nat.reduceBNe, Nat.reduceAdd, Nat.reduceLeDiff, Nat.reduceLT, Nat.reduceMul, ↓reduceIte, reduceCtorEq, g82, pf82, b82, h1, h2, h3, h4, h5] <;> simp [okW, *]
        · simp (disch := first | assumption | ((try simp only [LEN, LEN2]); omega)) only [push_cast, Int.reduceToNat, Int.reduceEq, Int.reduceNe, Int.reduceLT, Int.reduceLE, Int.reduceAdd, Int.reduceSub, Int.reduceMul, Int.reduceNeg, Nat.reduceEqDiff, Nat.reduceBEq, Nat.reduceBNe, Nat.reduceAdd, Nat.reduceLeDiff, Nat.reduceLT, Nat.reduceMul, ↓reduceIte, reduceCtorEq, g82, pf82, b82, h1, h2, h3, h4]
          simp [okW, *]
      · simp (disch := first | assumption | ((try simp only [LEN, LEN2]); omega)) only [push_cast, Int.reduceToNat, Int.reduceEq, Int.reduceNe, Int.reduceLT, Int.reduceLE, Int.reduceAdd, Int.reduceSub, Int.reduceMul, Int.reduceNeg, Nat.reduceEqDiff, Nat.reduceBEq, Nat.reduceBNe, Nat.reduceAdd, Nat.reduceLeDiff, Nat.reduceLT, Nat.reduceMul, ↓reduceIte, reduceCtorEq, g82, pf82, b82, h1, h2, h3]
        simp [okW, *]
  · simp (disch := first | assumption | ((try simp only [LEN, LEN2]); omega)) only [push_cast, Int.reduceToNat, Int.reduceEq, Int.reduceNe, Int.reduceLT, Int.reduceLE, Int.reduceAdd, Int.reduceSub, Int.reduceMul, Int.reduceNeg, Nat.reduceEqDiff, Nat.reduceBEq, Nat.reduceBNe, Nat.reduceAdd, Nat.reduceLeDiff, Nat.reduceLT, Nat.reduceMul, ↓reduceIte, reduceCtorEq, g82, pf82, b82, h1]
    have : okW ⟨t, k, v, d⟩ = false := by simp only [okW, decide_eq_false_iff_not]; omega
    rw [this]
theorem f82c {t : Int} {k v : List UInt8} {d : Bool}  {g : VG} {F : Fn} {lk : Bool} {e : Env} {dst : Option Nat} {ops : List Ins} {keep : Option (List Nat)} {K : List Fr} : CallC G g F 82 [.vs true (cW t k v d)] lk e dst ops keep K = ThenL G g F (if lk && !(T.noSl (.bool (okW ⟨t, k, v, d⟩))) then none else e.put g.un dst (.bool (okW ⟨t, k, v, d⟩))) ops keep K := callC_eq (f82 )
attribute [push_cast] f82c


def okR (r : Record) : Bool := decide (1 ≤ r.Commit ∧ r.Commit ≤ 1073741824 ∧ r.Writes.length ≤ 64) && r.Writes.all okW

set_option maxHeartbeats 2000000 in
theorem f81 {t : Int} {k v : List UInt8} {d : Bool}  : Fun G 81 [.vs true (cW t k v d)] (.bool (!okW ⟨t, k, v, d⟩), []) := by
  refine Fun.of_run (g := g81) (pf := pf81) rfl rfl rfl rfl ?_
  simp (disch := first | assumption | ((try simp only [LEN, LEN2]); omega)) only [push_cast, Int.reduceToNat, Int.reduceEq, Int.reduceNe, Int.reduceLT, Int.reduceLE, Int.reduceAdd, Int.reduceSub, Int.reduceMul, Int.reduceNeg, Nat.reduceEqDiff, Nat.reduceBEq, Nat.reduceBNe, Nat.reduceAdd, Nat.reduceLeDiff, Nat.reduceLT, Nat.reduceMul, ↓reduceIte, reduceCtorEq, g81, pf81, b81]
theorem f81c {t : Int} {k v : List UInt8} {d : Bool}  {g : VG} {F : Fn} {lk : Bool} {e : Env} {dst : Option Nat} {ops : List Ins} {keep : Option (List Nat)} {K : List Fr} : CallC G g F 81 [.vs true (cW t k v d)] lk e dst ops keep K = ThenL G g F (if lk && !(T.noSl (.bool (!okW ⟨t, k, v, d⟩))) then none else e.put g.un dst (.bool (!okW ⟨t, k, v, d⟩))) ops keep K := callC_eq (f81 )
attribute [push_cast] f81c

end Go.Mir.Try

/- Walks: copies, comparisons, weights. -/
set_option linter.unusedVariables false
set_option linter.unusedSimpArgs false
set_option maxRecDepth 100000
namespace Go.Mir.Try
open Go.Proofs Go.Mir.Q

theorem eqW_fold (a b : Write) : (decide (a.Table = b.Table) && (decide (a.Key = b.Key) && (decide (a.Value = b.Value) && decide (a.Gone = b.Gone)))) = decide (a = b) := by
  obtain ⟨a1, a2, a3, a4⟩ := a
  obtain ⟨b1, b2, b3, b4⟩ := b
  simp

set_option maxHeartbeats 2000000 in
theorem f12 {l : List (List UInt8)} (hl : l.length ≤ 1000000000) : Fun G 12 [.one (.d (.sl (l.map eS)))] (.one (.own 9 (l.map oS)), []) := by
  refine Fun.of_run (g := g12) (pf := pf12) rfl rfl rfl rfl ?_
  simp (disch := first | assumption | ((try simp only [LEN, LEN2]); omega)) only [push_cast, Int.reduceToNat, Int.reduceEq, Int.reduceNe, Int.reduceLT, Int.reduceLE, Int.reduceAdd, Int.reduceSub, Int.reduceMul, Int.reduceNeg, Nat.reduceEqDiff, Nat.reduceBEq, Nat.reduceBNe, Nat.reduceAdd, Nat.reduceLeDiff, Nat.reduceLT, Nat.reduceMul, ↓reduceIte, reduceCtorEq, g12, pf12, b12]
  refine run_loop' (fun i : Nat => [(0, T.one (.d (.sl (l.map eS)))), (3, T.one (.own 9 ((l.take i).map oS))), (4, T.int .i64 i)]) (fun i => i ≤ l.length) (fun i => l.length - i) 0 rfl (Nat.zero_le _) (fun i hi => ?_)
  simp (disch := first | assumption | ((try simp only [LEN, LEN2]); omega)) only [push_cast, Int.reduceToNat, Int.reduceEq, Int.reduceNe, Int.reduceLT, Int.reduceLE, Int.reduceAdd, Int.reduceSub, Int.reduceMul, Int.reduceNeg, Nat.reduceEqDiff, Nat.reduceBEq, Nat.reduceBNe, Nat.reduceAdd, Nat.reduceLeDiff, Nat.reduceLT, Nat.reduceMul, ↓reduceIte, reduceCtorEq, g12, pf12, b12]
  refine If.dec (fun h => ?_) (fun h => ?_)
  · replace h : i < l.length := by omega
    simp (disch := first | assumption | ((try simp only [LEN, LEN2]); omega)) only [push_cast, Int.reduceToNat, Int.reduceEq, Int.reduceNe, Int.reduceLT, Int.reduceLE, Int.reduceAdd, Int.reduceSub, Int.reduceMul, Int.reduceNeg, Nat.reduceEqDiff, Nat.reduceBEq, Nat.reduceBNe, Nat.reduceAdd, Nat.reduceLeDiff, Nat.reduceLT, Nat.reduceMul, ↓reduceIte, reduceCtorEq, g12, pf12, b12, eS]
    refine ⟨i + 1, ?_, by omega, by omega⟩
    simp only [List.take_succ_eq_append_getElem h, List.map_append, List.map_cons, List.map_nil, oS, Int.natCast_add, Int.cast_ofNat_Int]
  · obtain rfl : i = l.length := by omega
    simp (disch := first | assumption | ((try simp only [LEN, LEN2]); omega)) only [push_cast, Int.reduceToNat, Int.reduceEq, Int.reduceNe, Int.reduceLT, Int.reduceLE, Int.reduceAdd, Int.reduceSub, Int.reduceMul, Int.reduceNeg, Nat.reduceEqDiff, Nat.reduceBEq, Nat.reduceBNe, Nat.reduceAdd, Nat.reduceLeDiff, Nat.reduceLT, Nat.reduceMul, ↓reduceIte, reduceCtorEq, g12, pf12, b12, eS]
    simp
theorem f12c {l : List (List UInt8)} (hl : l.length ≤ 1000000000) {g : VG} {F : Fn} {lk : Bool} {e : Env} {dst : Option Nat} {ops : List Ins} {keep : Option (List Nat)} {K : List Fr} : CallC G g F 12 [.one (.d (.sl (l.map eS)))] lk e dst ops keep K = ThenL G g F (if lk && !(T.noSl (.one (.own 9 (l.map oS)))) then none else e.put g.un dst (.one (.own 9 (l.map oS)))) ops keep K := callC_eq (f12 hl)
attribute [push_cast] f12c


set_option maxHeartbeats 2000000 in
theorem f50 {a b : List Write} (ha : a.length ≤ 1000000000) (hb : b.length ≤ 1000000000) : Fun G 50 [.one (.d (.sl (a.map eW))), .one (.d (.sl (b.map eW)))] (.bool (decide (a = b)), []) := by
  refine Fun.of_run (g := g50) (pf := pf50) rfl rfl rfl rfl ?_
  simp (disch := first | assumption | ((try simp only [LEN, LEN2]); omega)) only [push_cast, Int.reduceToNat, Int.reduceEq, Int.reduceNe, Int.reduceLT, Int.reduceLE, Int.reduceAdd, Int.reduceSub, Int.reduceMul, Int.reduceNeg, Nat.reduceEqDiff, Nat.reduceBEq, Nat.reduceBNe, Nat.reduceAdd, Nat.reduceLeDiff, Nat.reduceLT, Nat.reduceMul, ↓reduceIte, reduceCtorEq, g50, pf50, b50]
  refine If.dec (fun h => ?_) (fun h => ?_)
  · have : a ≠ b := fun e => h (by rw [e])
    simp (disch := first | assumption | ((try simp only [LEN, LEN2]); omega)) only [push_cast, Int.reduceToNat, Int.reduceEq, Int.reduceNe, Int.reduceLT, Int.reduceLE, Int.reduceAdd, Int.reduceSub, Int.reduceMul, Int.reduceNeg, Nat.reduceEqDiff, Nat.reduceBEq, Nat.reduceBNe, Nat.reduceAdd, Nat.reduceLeDiff, Nat.reduceLT, Nat.reduceMul, ↓reduceIte, reduceCtorEq, g50, pf50, b50]
    simp [this]
  simp (disch := first | assumption | ((try simp only [LEN, LEN2]); omega)) only [push_cast, Int.reduceToNat, Int.reduceEq, Int.reduceNe, Int.reduceLT, Int.reduceLE, Int.reduceAdd, Int.reduceSub, Int.reduceMul, Int.reduceNeg, Nat.reduceEqDiff, Nat.reduceBEq, Nat.reduceBNe, Nat.reduceAdd, Nat.reduceLeDiff, Nat.reduceLT, Nat.reduceMul, ↓reduceIte, reduceCtorEq, g50, pf50, b50]
  have hl : a.length = b.length := by omega
  refine run_loop' (fun i : Nat => [(0, T.one (.d (.sl (a.map eW)))), (1, T.one (.d (.sl (b.map eW)))), (5, T.int .i64 i)]) (fun i => i ≤ a.length ∧ a.take i = b.take i) (fun i => a.length - i) 0 rfl ⟨Nat.zero_le _, by simp⟩ (fun i hi => ?_)
  obtain ⟨hi, ht⟩ := hi
  simp (disch := first | assumption | ((try simp only [LEN, LEN2]); omega)) only [push_cast, Int.reduceToNat, Int.reduceEq, Int.reduceNe, Int.reduceLT, Int.reduceLE, Int.reduceAdd, Int.reduceSub, Int.reduceMul, Int.reduceNeg, Nat.reduceEqDiff, Nat.reduceBEq, Nat.reduceBNe, Nat.reduceAdd, Nat.reduceLeDiff, Nat.reduceLT, Nat.reduceMul, ↓reduceIte, reduceCtorEq, g50, pf50, b50]
  refine If.dec (fun h => ?_) (fun h => ?_)
  · replace h : i < a.length := by omega
    have h' : i < b.length := by omega
    simp (disch := first | assumption | ((try simp only [LEN, LEN2]); omega)) only [push_cast, Int.reduceToNat, Int.reduceEq, Int.reduceNe, Int.reduceLT, Int.reduceLE, Int.reduceAdd, Int.reduceSub, Int.reduceMul, Int.reduceNeg, Nat.reduceEqDiff, Nat.reduceBEq, Nat.reduceBNe, Nat.reduceAdd, Nat.reduceLeDiff, Nat.reduceLT, Nat.reduceMul, ↓reduceIte, reduceCtorEq, g50, pf50, b50, eW, eqW_fold]
    by_cases he : a[i] = b[i]
    · simp (disch := first | assumption | ((try simp only [LEN, LEN2]); omega)) only [push_cast, Int.reduceToNat, Int.reduceEq, Int.reduceNe, Int.reduceLT, Int.reduceLE, Int.reduceAdd, Int.reduceSub, Int.reduceMul, Int.reduceNeg, Nat.reduceEqDiff, Nat.reduceBEq, Nat.reduceBNe, Nat.reduceAdd, Nat.reduceLeDiff, Nat.reduceLT, Nat.reduceMul, ↓reduceIte, reduceCtorEq, g50, pf50, b50, he]
      refine ⟨i + 1, rfl, ⟨by omega, ?_⟩, by omega⟩
      rw [List.take_succ_eq_append_getElem h, List.take_succ_eq_append_getElem h', ht, he]
    · have hne : a ≠ b := fun e => he (by subst e; rfl)
      simp (disch := first | assumption | ((try simp only [LEN, LEN2]); omega)) only [push_cast, Int.reduceToNat, Int.reduceEq, Int.reduceNe, Int.reduceLT, Int.reduceLE, Int.reduceAdd, Int.reduceSub, Int.reduceMul, Int.reduceNeg, Nat.reduceEqDiff, Nat.reduceBEq, Nat.reduceBNe, Nat.reduceAdd, Nat.reduceLeDiff, Nat.reduceLT, Nat.reduceMul, ↓reduceIte, reduceCtorEq, g50, pf50, b50, he]
      simp [hne]
  · obtain rfl : i = a.length := by omega
    have : a = b := by rw [List.take_length] at ht; rw [ht, hl, List.take_length]
    simp (disch := first | assumption | ((try simp only [LEN, LEN2]); omega)) only [push_cast, Int.reduceToNat, Int.reduceEq, Int.reduceNe, Int.reduceLT, Int.reduceLE, Int.reduceAdd, Int.reduceSub, Int.reduceMul, Int.reduceNeg, Nat.reduceEqDiff, Nat.reduceBEq, Nat.reduceBNe, Nat.reduceAdd, Nat.reduceLeDiff, Nat.reduceLT, Nat.reduceMul, ↓reduceIte, reduceCtorEq, g50, pf50, b50]
    simp [this]
theorem f50c {a b : List Write} (ha : a.length ≤ 1000000000) (hb : b.length ≤ 1000000000) {g : VG} {F : Fn} {lk : Bool} {e : Env} {dst : Option Nat} {ops : List Ins} {keep : Option (List Nat)} {K : List Fr} : CallC G g F 50 [.one (.d (.sl (a.map eW))), .one (.d (.sl (b.map eW)))] lk e dst ops keep K = ThenL G g F (if lk && !(T.noSl (.bool (decide (a = b)))) then none else e.put g.un dst (.bool (decide (a = b)))) ops keep K := callC_eq (f50 ha hb)
attribute [push_cast] f50c

set_option maxHeartbeats 2000000 in
theorem f20 {n m : Int} {a b : List Write} (ha : a.length ≤ 1000000000) (hb : b.length ≤ 1000000000) : Fun G 20 [.vs true [.d (.sc (.int .i64 n)), .d (.sl (a.map eW))], .vs true [.d (.sc (.int .i64 m)), .d (.sl (b.map eW))]] (.bool (decide (n = m ∧ a = b)), []) := by
  refine Fun.of_run (g := g20) (pf := pf20) rfl rfl rfl rfl ?_
  by_cases h : n = m <;> simp (disch := first | assumption | ((try simp only [LEN, LEN2]); omega)) only [push_cast, Int.reduceToNat, Int.reduceEq, Int.reduceNe, Int.reduceLT, Int.reduceLE, Int.reduceAdd, Int.reduceSub, Int.reduceMul, Int.reduceNeg, Nat.reduceEqDiff, Nat.reduceBEq, Nat.reduceBNe, Nat.reduceAdd, Nat.reduceLeDiff, Nat.reduceLT, Nat.reduceMul, ↓reduceIte, reduceCtorEq, g20, pf20, b20, h] <;> simp
theorem f20c {n m : Int} {a b : List Write} (ha : a.length ≤ 1000000000) (hb : b.length ≤ 1000000000) {g : VG} {F : Fn} {lk : Bool} {e : Env} {dst : Option Nat} {ops : List Ins} {keep : Option (List Nat)} {K : List Fr} : CallC G g F 20 [.vs true [.d (.sc (.int .i64 n)), .d (.sl (a.map eW))], .vs true [.d (.sc (.int .i64 m)), .d (.sl (b.map eW))]] lk e dst ops keep K = ThenL G g F (if lk && !(T.noSl (.bool (decide (n = m ∧ a = b)))) then none else e.put g.un dst (.bool (decide (n = m ∧ a = b)))) ops keep K := callC_eq (f20 ha hb)
attribute [push_cast] f20c


/-- A weight. -/
def isW (r : Res) : Prop := ∃ n : Int, r = (.int .i64 n, []) ∧ 0 ≤ n ∧ n ≤ 4398046511104

theorem f44 {l : List (List UInt8)} (hl : l.length ≤ 1048576) (h : ∀ s ∈ l, s.length ≤ 1048576) : ∃ n : Int, Fun G 44 [.one (.d (.sl (l.map eS)))] (.int .i64 n, []) ∧ 0 ≤ n ∧ n ≤ 2097152 := by
  obtain ⟨r, h1, n, rfl, h2⟩ := Fun.ex_of_run (G := G) (f := 44) (args := [.one (.d (.sl (l.map eS)))]) (Q := fun r => ∃ n : Int, r = (.int .i64 n, []) ∧ 0 ≤ n ∧ n ≤ 2097152) (g := g44) (pf := pf44) rfl rfl rfl rfl (by
    simp (disch := first | assumption | ((try simp only [LEN, LEN2]); omega)) only [push_cast, Int.reduceToNat, Int.reduceEq, Int.reduceNe, Int.reduceLT, Int.reduceLE, Int.reduceAdd, Int.reduceSub, Int.reduceMul, Int.reduceNeg, Nat.reduceEqDiff, Nat.reduceBEq, Nat.reduceBNe, Nat.reduceAdd, Nat.reduceLeDiff, Nat.reduceLT, Nat.reduceMul, ↓reduceIte, reduceCtorEq, g44, pf44, b44]
    refine run_loop' (fun x : Nat × Int => [(0, T.one (.d (.sl (l.map eS)))), (3, T.int .i64 x.2), (4, T.int .i64 x.1)]) (fun x => x.1 ≤ l.length ∧ 0 ≤ x.2 ∧ x.2 ≤ 2097152) (fun x => l.length - x.1) (0, l.length) rfl (by simp only; omega) (fun ⟨i, n⟩ hi => ?_)
    simp only at hi
    by_cases h1 : (i : Int) < l.length
    · have hi' : i < l.length := by omega
      have hs := h l[i] (List.getElem_mem hi')
      simp (disch := first | assumption | ((try simp only [LEN, LEN2]); omega)) only [push_cast, Int.reduceToNat, Int.reduceEq, Int.reduceNe, Int.reduceLT, Int.reduceLE, Int.reduceAdd, Int.reduceSub, Int.reduceMul, Int.reduceNeg, Nat.reduceEqDiff, Nat.reduceBEq, Nat.reduceBNe, Nat.reduceAdd, Nat.reduceLeDiff, Nat.reduceLT, Nat.reduceMul, ↓reduceIte, reduceCtorEq, g44, pf44, b44, h1]
      refine If.dec (fun h2 => ?_) (fun h2 => ?_)
      · simp (disch := first | assumption | ((try simp only [LEN, LEN2]); omega)) only [push_cast, Int.reduceToNat, Int.reduceEq, Int.reduceNe, Int.reduceLT, Int.reduceLE, Int.reduceAdd, Int.reduceSub, Int.reduceMul, Int.reduceNeg, Nat.reduceEqDiff, Nat.reduceBEq, Nat.reduceBNe, Nat.reduceAdd, Nat.reduceLeDiff, Nat.reduceLT, Nat.reduceMul, ↓reduceIte, reduceCtorEq, g44, pf44, b44, eS]
        exact ⟨(i + 1, n + l[i].length), rfl, by simp only; omega, by simp only; omega⟩
      · simp (disch := first | assumption | ((try simp only [LEN, LEN2]); omega)) only [push_cast, Int.reduceToNat, Int.reduceEq, Int.reduceNe, Int.reduceLT, Int.reduceLE, Int.reduceAdd, Int.reduceSub, Int.reduceMul, Int.reduceNeg, Nat.reduceEqDiff, Nat.reduceBEq, Nat.reduceBNe, Nat.reduceAdd, Nat.reduceLeDiff, Nat.reduceLT, Nat.reduceMul, ↓reduceIte, reduceCtorEq, g44, pf44, b44]
        exact ⟨n, rfl, hi.2⟩
    · simp (disch := first | assumption | ((try simp only [LEN, LEN2]); omega)) only [push_cast, Int.reduceToNat, Int.reduceEq, Int.reduceNe, Int.reduceLT, Int.reduceLE, Int.reduceAdd, Int.reduceSub, Int.reduceMul, Int.reduceNeg, Nat.reduceEqDiff, Nat.reduceBEq, Nat.reduceBNe, Nat.reduceAdd, Nat.reduceLeDiff, Nat.reduceLT, Nat.reduceMul, ↓reduceIte, reduceCtorEq, g44, pf44, b44, h1]
      exact ⟨n, rfl, hi.2⟩)
  exact ⟨n, h1, h2⟩

def smS (l : List (List UInt8)) : Prop := l.length ≤ 1048576 ∧ ∀ s ∈ l, s.length ≤ 1048576
def smW (l : List Write) : Prop := l.length ≤ 1048576 ∧ ∀ w ∈ l, w.Key.length ≤ 1048576 ∧ w.Value.length ≤ 1048576
def smR (l : List Record) : Prop := l.length ≤ 1048576 ∧ ∀ r ∈ l, smW r.Writes ∧ okN r.Commit

theorem f79 {l : List Write} (hl : smW l) : ∃ n : Int, Fun G 79 [.one (.d (.sl (l.map eW)))] (.int .i64 n, []) ∧ 0 ≤ n ∧ n ≤ 2097152 := by
  obtain ⟨hl, h⟩ := hl
  obtain ⟨r, h1, n, rfl, h2⟩ := Fun.ex_of_run (G := G) (f := 79) (args := [.one (.d (.sl (l.map eW)))]) (Q := fun r => ∃ n : Int, r = (.int .i64 n, []) ∧ 0 ≤ n ∧ n ≤ 2097152) (g := g79) (pf := pf79) rfl rfl rfl rfl (by
    simp (disch := first | assumption | ((try simp only [LEN, LEN2]); omega)) only [push_cast, Int.reduceToNat, Int.reduceEq, Int.reduceNe, Int.reduceLT, Int.reduceLE, Int.reduceAdd, Int.reduceSub, Int.reduceMul, Int.reduceNeg, Nat.reduceEqDiff, Nat.reduceBEq, Nat.reduceBNe, Nat.reduceAdd, Nat.reduceLeDiff, Nat.reduceLT, Nat.reduceMul, ↓reduceIte, reduceCtorEq, g79, pf79, b79]
    refine run_loop' (fun x : Nat × Int => [(0, T.one (.d (.sl (l.map eW)))), (3, T.int .i64 x.2), (4, T.int .i64 x.1)]) (fun x => x.1 ≤ l.length ∧ 0 ≤ x.2 ∧ x.2 ≤ 2097152) (fun x => l.length - x.1) (0, l.length) rfl (by simp only; omega) (fun ⟨i, n⟩ hi => ?_)
    simp only at hi
    by_cases h1 : (i : Int) < l.length
    · have hi' : i < l.length := by omega
      have hs := h l[i] (List.getElem_mem hi')
      simp (disch := first | assumption | ((try simp only [LEN, LEN2]); omega)) only [push_cast, Int.reduceToNat, Int.reduceEq, Int.reduceNe, Int.reduceLT, Int.reduceLE, Int.reduceAdd, Int.reduceSub, Int.reduceMul, Int.reduceNeg, Nat.reduceEqDiff, Nat.reduceBEq, Nat.reduceBNe, Nat.reduceAdd, Nat.reduceLeDiff, Nat.reduceLT, Nat.reduceMul, ↓reduceIte, reduceCtorEq, g79, pf79, b79, h1]
      refine If.dec (fun h2 => ?_) (fun h2 => ?_)
      · simp (disch := first | assumption | ((try simp only [LEN, LEN2]); omega)) only [push_cast, Int.reduceToNat, Int.reduceEq, Int.reduceNe, Int.reduceLT, Int.reduceLE, Int.reduceAdd, Int.reduceSub, Int.reduceMul, Int.reduceNeg, Nat.reduceEqDiff, Nat.reduceBEq, Nat.reduceBNe, Nat.reduceAdd, Nat.reduceLeDiff, Nat.reduceLT, Nat.reduceMul, ↓reduceIte, reduceCtorEq, g79, pf79, b79, eW]
        exact ⟨(i + 1, n + ((l[i].Key.length : Int) + l[i].Value.length) / 8), rfl, by simp only; omega, by simp only; omega⟩
      · simp (disch := first | assumption | ((try simp only [LEN, LEN2]); omega)) only [push_cast, Int.reduceToNat, Int.reduceEq, Int.reduceNe, Int.reduceLT, Int.reduceLE, Int.reduceAdd, Int.reduceSub, Int.reduceMul, Int.reduceNeg, Nat.reduceEqDiff, Nat.reduceBEq, Nat.reduceBNe, Nat.reduceAdd, Nat.reduceLeDiff, Nat.reduceLT, Nat.reduceMul, ↓reduceIte, reduceCtorEq, g79, pf79, b79]
        exact ⟨n, rfl, hi.2⟩
    · simp (disch := first | assumption | ((try simp only [LEN, LEN2]); omega)) only [push_cast, Int.reduceToNat, Int.reduceEq, Int.reduceNe, Int.reduceLT, Int.reduceLE, Int.reduceAdd, Int.reduceSub, Int.reduceMul, Int.reduceNeg, Nat.reduceEqDiff, Nat.reduceBEq, Nat.reduceBNe, Nat.reduceAdd, Nat.reduceLeDiff, Nat.reduceLT, Nat.reduceMul, ↓reduceIte, reduceCtorEq, g79, pf79, b79, h1]
      exact ⟨n, rfl, hi.2⟩)
  exact ⟨n, h1, h2⟩

theorem f43 {l : List Record} (hl : smR l) : ∃ n : Int, Fun G 43 [.one (.d (.sl (l.map eR)))] (.int .i64 n, []) ∧ 0 ≤ n ∧ n ≤ 4194304 := by
  obtain ⟨hl, h⟩ := hl
  obtain ⟨r, h1, n, rfl, h2⟩ := Fun.ex_of_run (G := G) (f := 43) (args := [.one (.d (.sl (l.map eR)))]) (Q := fun r => ∃ n : Int, r = (.int .i64 n, []) ∧ 0 ≤ n ∧ n ≤ 4194304) (g := g43) (pf := pf43) rfl rfl rfl rfl (by
    simp (disch := first | assumption | ((try simp only [LEN, LEN2]); omega)) only [push_cast, Int.reduceToNat, Int.reduceEq, Int.reduceNe, Int.reduceLT, Int.reduceLE, Int.reduceAdd, Int.reduceSub, Int.reduceMul, Int.reduceNeg, Nat.reduceEqDiff, Nat.reduceBEq, Nat.reduceBNe, Nat.reduceAdd, Nat.reduceLeDiff, Nat.reduceLT, Nat.reduceMul, ↓reduceIte, reduceCtorEq, g43, pf43, b43]
    refine run_loop' (fun x : Nat × Int => [(0, T.one (.d (.sl (l.map eR)))), (3, T.int .i64 x.2), (4, T.int .i64 x.1)]) (fun x => x.1 ≤ l.length ∧ 0 ≤ x.2 ∧ x.2 ≤ 4194304) (fun x => l.length - x.1) (0, l.length) rfl (by simp only; omega) (fun ⟨i, n⟩ hi => ?_)
    simp only at hi
    by_cases h1 : (i : Int) < l.length
    · have hi' : i < l.length := by omega
      obtain ⟨m, hm, hm1, hm2⟩ := f79 (h l[i] (List.getElem_mem hi')).1
      simp (disch := first | assumption | ((try simp only [LEN, LEN2]); omega)) only [push_cast, Int.reduceToNat, Int.reduceEq, Int.reduceNe, Int.reduceLT, Int.reduceLE, Int.reduceAdd, Int.reduceSub, Int.reduceMul, Int.reduceNeg, Nat.reduceEqDiff, Nat.reduceBEq, Nat.reduceBNe, Nat.reduceAdd, Nat.reduceLeDiff, Nat.reduceLT, Nat.reduceMul, ↓reduceIte, reduceCtorEq, g43, pf43, b43, h1]
      refine If.dec (fun h2 => ?_) (fun h2 => ?_)
      · simp (disch := first | assumption | ((try simp only [LEN, LEN2]); omega)) only [push_cast, Int.reduceToNat, Int.reduceEq, Int.reduceNe, Int.reduceLT, Int.reduceLE, Int.reduceAdd, Int.reduceSub, Int.reduceMul, Int.reduceNeg, Nat.reduceEqDiff, Nat.reduceBEq, Nat.reduceBNe, Nat.reduceAdd, Nat.reduceLeDiff, Nat.reduceLT, Nat.reduceMul, ↓reduceIte, reduceCtorEq, g43, pf43, b43, eR, callC_eq hm]
        exact ⟨(i + 1, n + m), rfl, by simp only; omega, by simp only; omega⟩
      · simp (disch := first | assumption | ((try simp only [LEN, LEN2]); omega)) only [push_cast, Int.reduceToNat, Int.reduceEq, Int.reduceNe, Int.reduceLT, Int.reduceLE, Int.reduceAdd, Int.reduceSub, Int.reduceMul, Int.reduceNeg, Nat.reduceEqDiff, Nat.reduceBEq, Nat.reduceBNe, Nat.reduceAdd, Nat.reduceLeDiff, Nat.reduceLT, Nat.reduceMul, ↓reduceIte, reduceCtorEq, g43, pf43, b43]
        exact ⟨n, rfl, hi.2⟩
    · simp (disch := first | assumption | ((try simp only [LEN, LEN2]); omega)) only [push_cast, Int.reduceToNat, Int.reduceEq, Int.reduceNe, Int.reduceLT, Int.reduceLE, Int.reduceAdd, Int.reduceSub, Int.reduceMul, Int.reduceNeg, Nat.reduceEqDiff, Nat.reduceBEq, Nat.reduceBNe, Nat.reduceAdd, Nat.reduceLeDiff, Nat.reduceLT, Nat.reduceMul, ↓reduceIte, reduceCtorEq, g43, pf43, b43, h1]
      exact ⟨n, rfl, hi.2⟩)
  exact ⟨n, h1, h2⟩

theorem f11 {R : List Record} {S : List (List UInt8)} {N : List Int} {L : List (List (List UInt8))} (hR : smR R) (hS : smS S) (hN : N.length ≤ 1048576) (hL : L.length ≤ 1048576 ∧ ∀ l ∈ L, smS l) :
    ∃ b : Bool, Fun G 11 [.vs true [.d (.sl (R.map eR)), .d (.sl (S.map eS)), .d (.sl (N.map eN)), .d (.sl (L.map fun l => [.sl (l.map eS)]))]] (.bool b, []) := by
  obtain ⟨a, ha, ha1, ha2⟩ := f43 hR
  obtain ⟨c, hc, hc1, hc2⟩ := f44 hS.1 hS.2
  obtain ⟨r, h1, b, rfl⟩ := Fun.ex_of_run (G := G) (f := 11) (args := [.vs true [.d (.sl (R.map eR)), .d (.sl (S.map eS)), .d (.sl (N.map eN)), .d (.sl (L.map fun l => [.sl (l.map eS)]))]]) (Q := fun r => ∃ b : Bool, r = (.bool b, [])) (g := g11) (pf := pf11) rfl rfl rfl rfl (by
    simp (disch := first | assumption | ((try simp only [LEN, LEN2]); omega)) only [push_cast, Int.reduceToNat, Int.reduceEq, Int.reduceNe, Int.reduceLT, Int.reduceLE, Int.reduceAdd, Int.reduceSub, Int.reduceMul, Int.reduceNeg, Nat.reduceEqDiff, Nat.reduceBEq, Nat.reduceBNe, Nat.reduceAdd, Nat.reduceLeDiff, Nat.reduceLT, Nat.reduceMul, ↓reduceIte, reduceCtorEq, g11, pf11, b11, callC_eq ha, callC_eq hc]
    refine run_loop' (fun x : Nat × Int => [(1, T.one (.box [.d (.sl (R.map eR)), .d (.sl (S.map eS)), .d (.sl (N.map eN)), .d (.sl (L.map fun l => [.sl (l.map eS)]))])), (3, T.int .i64 x.2), (4, T.int .i64 x.1)]) (fun x => x.1 ≤ L.length ∧ 0 ≤ x.2 ∧ x.2 ≤ 1099511627776) (fun x => L.length - x.1) (0, a * 8 + c + N.length + L.length) rfl (by simp only; omega) (fun ⟨i, n⟩ hi => ?_)
    simp only at hi
    by_cases h1 : (i : Int) < L.length
    · have hi' : i < L.length := by omega
      have hs := hL.2 L[i] (List.getElem_mem hi')
      obtain ⟨m, hm, hm1, hm2⟩ := f44 hs.1 hs.2
      simp (disch := first | assumption | ((try simp only [LEN, LEN2]); omega)) only [push_cast, Int.reduceToNat, Int.reduceEq, Int.reduceNe, Int.reduceLT, Int.reduceLE, Int.reduceAdd, Int.reduceSub, Int.reduceMul, Int.reduceNeg, Nat.reduceEqDiff, Nat.reduceBEq, Nat.reduceBNe, Nat.reduceAdd, Nat.reduceLeDiff, Nat.reduceLT, Nat.reduceMul, ↓reduceIte, reduceCtorEq, g11, pf11, b11, h1]
      refine If.dec (fun h2 => ?_) (fun h2 => ?_)
      · simp (disch := first | assumption | ((try simp only [LEN, LEN2]); omega)) only [push_cast, Int.reduceToNat, Int.reduceEq, Int.reduceNe, Int.reduceLT, Int.reduceLE, Int.reduceAdd, Int.reduceSub, Int.reduceMul, Int.reduceNeg, Nat.reduceEqDiff, Nat.reduceBEq, Nat.reduceBNe, Nat.reduceAdd, Nat.reduceLeDiff, Nat.reduceLT, Nat.reduceMul, ↓reduceIte, reduceCtorEq, g11, pf11, b11, callC_eq hm]
        exact ⟨(i + 1, n + m), rfl, by simp only; omega, by simp only; omega⟩
      · simp (disch := first | assumption | ((try simp only [LEN, LEN2]); omega)) only [push_cast, Int.reduceToNat, Int.reduceEq, Int.reduceNe, Int.reduceLT, Int.reduceLE, Int.reduceAdd, Int.reduceSub, Int.reduceMul, Int.reduceNeg, Nat.reduceEqDiff, Nat.reduceBEq, Nat.reduceBNe, Nat.reduceAdd, Nat.reduceLeDiff, Nat.reduceLT, Nat.reduceMul, ↓reduceIte, reduceCtorEq, g11, pf11, b11]
        exact ⟨_, rfl⟩
    · simp (disch := first | assumption | ((try simp only [LEN, LEN2]); omega)) only [push_cast, Int.reduceToNat, Int.reduceEq, Int.reduceNe, Int.reduceLT, Int.reduceLE, Int.reduceAdd, Int.reduceSub, Int.reduceMul, Int.reduceNeg, Nat.reduceEqDiff, Nat.reduceBEq, Nat.reduceBNe, Nat.reduceAdd, Nat.reduceLeDiff, Nat.reduceLT, Nat.reduceMul, ↓reduceIte, reduceCtorEq, g11, pf11, b11, h1]
      exact ⟨_, rfl⟩)
  exact ⟨b, h1⟩

end Go.Mir.Try

/- Walks: bytes. -/
set_option linter.unusedVariables false
set_option linter.unusedSimpArgs false
set_option maxRecDepth 100000
namespace Go.Mir.Try
open Go.Proofs Go.Mir.Q

theorem oB_byt (n : Int) : oB (byt n) = [.d (.sc (.int .u8 (n % 256)))] := by simp only [oB, byt_toNat]
theorem be4 (n : Int) : be 4 n = [byt (n / 16777216), byt (n / 65536), byt (n / 256), byt n] := by
  rw [be_cons, be_cons, be_cons, be_cons]; simp [be]

set_option maxHeartbeats 2000000 in
theorem f83 {b : List UInt8} {n : Int} (hb : b.length ≤ 1000000000) : Fun G 83 [.one (.own 5 (b.map oB)), .int .i64 n] (.one (.own 5 ((b ++ be 4 n).map oB)), []) := by
  refine Fun.of_run (g := g83) (pf := pf83) rfl rfl rfl rfl ?_
  simp (disch := first | assumption | ((try simp only [LEN, LEN2]); omega)) only [push_cast, Int.reduceToNat, Int.reduceEq, Int.reduceNe, Int.reduceLT, Int.reduceLE, Int.reduceAdd, Int.reduceSub, Int.reduceMul, Int.reduceNeg, Nat.reduceEqDiff, Nat.reduceBEq, Nat.reduceBNe, Nat.reduceAdd, Nat.reduceLeDiff, Nat.reduceLT, Nat.reduceMul, ↓reduceIte, reduceCtorEq, g83, pf83, b83]
  simp only [be4, List.map_append, List.map_cons, List.map_nil, oB_byt]
theorem f83t {b : List UInt8} {n : Int} (hb : b.length ≤ 1000000000) {g : VG} {F : Fn} {lk : Bool} {ags : List Arg} {e0 e1 : Env} {dst : Option Nat} {ops : List Ins} {keep : Option (List Nat)} {K : List Fr} : CallT G g F 83 [.one (.own 5 (b.map oB)), .int .i64 n] lk ags e0 e1 dst ops keep K = RetT G g F (.one (.own 5 ((b ++ be 4 n).map oB))) [] lk ags e0 e1 dst ops keep K := callT_eq (f83 hb)
attribute [push_cast] f83t

theorem set_oB (l : List UInt8) (i : Nat) (b : UInt8) : (l.map oB).set i [.d (.sc (.int .u8 b.toNat))] = (l.set i b).map oB := by
  rw [List.map_set]; rfl


theorem or_byte {a b : Int} (h0 : 0 ≤ a) (h1 : a < 36028797018963968) (h2 : 0 ≤ b) (h3 : b < 256) : IntKind.i64.wrap ((BitVec.ofInt IntKind.i64.bits (a * 256) ||| BitVec.ofInt IntKind.i64.bits b).toNat) = a * 256 + b := by
  obtain ⟨m, rfl⟩ := Int.eq_ofNat_of_zero_le h0
  obtain ⟨k, rfl⟩ := Int.eq_ofNat_of_zero_le h2
  have e : (BitVec.ofInt IntKind.i64.bits ((m : Int) * 256) ||| BitVec.ofInt IntKind.i64.bits k).toNat = m * 256 + k := by
    have h4 : m * 256 % 18446744073709551616 = m * 256 := Nat.mod_eq_of_lt (by omega)
    have h5 : k % 18446744073709551616 = k := Nat.mod_eq_of_lt (by omega)
    have h6 : (m : Int) * 256 = ((m * 256 : Nat) : Int) := by push_cast; rfl
    rw [h6, BitVec.ofInt_natCast, BitVec.ofInt_natCast, BitVec.toNat_or, BitVec.toNat_ofNat, BitVec.toNat_ofNat]
    simp only [IntKind.bits]
    rw [show 2 ^ 64 = 18446744073709551616 from rfl, h4, h5]
    have := Nat.two_pow_add_eq_or_of_lt (i := 8) (b := k) (by omega) m
    rw [Nat.mul_comm m 256]
    exact this.symm
  rw [e, wrap_i64 (by omega) (by omega)]
  push_cast
  rfl

/-- A number, of bytes. -/
def num (l : List UInt8) : Int := l.foldl (fun a b => a * 256 + b.toNat) 0
theorem num_snoc (l : List UInt8) (b : UInt8) : num (l ++ [b]) = num l * 256 + b.toNat := by simp [num]
theorem num_bdk : ∀ (l : List UInt8) (k : Nat) (a : Int), 0 ≤ a → a < 256 ^ k → 0 ≤ l.foldl (fun a b => a * 256 + (b.toNat : Int)) a ∧ l.foldl (fun a b => a * 256 + (b.toNat : Int)) a < 256 ^ (k + l.length)
  | [], k, a, h0, h1 => ⟨h0, h1⟩
  | b :: l, k, a, h0, h1 => by
    have hb := b.toNat_lt
    have := num_bdk l (k + 1) (a * 256 + b.toNat) (by omega) (by rw [Int.pow_succ]; omega)
    rw [show k + (b :: l).length = k + 1 + l.length by simp; omega]
    exact this
theorem num_bd6 (l : List UInt8) (h : l.length ≤ 6) : 0 ≤ num l ∧ num l < 281474976710656 := by
  have h1 := num_bdk l 0 0 (by omega) (by simp)
  refine ⟨h1.1, Int.lt_of_lt_of_le h1.2 ?_⟩
  have : l.length = 0 ∨ l.length = 1 ∨ l.length = 2 ∨ l.length = 3 ∨ l.length = 4 ∨ l.length = 5 ∨ l.length = 6 := by omega
  rcases this with h | h | h | h | h | h | h <;> rw [h] <;> decide


end Go.Mir.Try

/- Walks: records. -/
set_option linter.unusedVariables false
set_option linter.unusedSimpArgs false
set_option maxRecDepth 100000
namespace Go.Mir.Try
open Go.Proofs Go.Mir.Q

def idx {α : Type} (p : α → Bool) (l : List α) : Int := match l.findIdx? p with | some i => i | none => -1
theorem idx_none {α : Type} {p : α → Bool} {l : List α} (h : ∀ x ∈ l, p x = false) : idx p l = -1 := by
  have : l.findIdx? p = none := List.findIdx?_eq_none_iff.2 h
  simp [idx, this]
theorem idx_some {α : Type} {p : α → Bool} {l : List α} {i : Nat} (hi : i < l.length) (h : ∀ x ∈ l.take i, p x = false) (h2 : p l[i] = true) : idx p l = i := by
  have : l.findIdx? p = some i := by
    rw [List.findIdx?_eq_some_iff_getElem]
    refine ⟨hi, h2, fun j hj => ?_⟩
    have := h l[j] (by rw [List.mem_take_iff_getElem]; exact ⟨j, by omega, rfl⟩)
    simp [this]
  simp [idx, this]
theorem idx_nonneg {α : Type} (p : α → Bool) (l : List α) : decide (0 ≤ idx p l) = l.any p := by
  unfold idx
  cases h : l.findIdx? p with
  | none =>
    have := List.findIdx?_eq_none_iff.1 h
    have h2 : l.any p = false := by rw [List.any_eq_false]; intro x hx; simp [this x hx]
    simp [h2]
  | some i =>
    obtain ⟨hi, h2, _⟩ := List.findIdx?_eq_some_iff_getElem.1 h
    have h3 : l.any p = true := List.any_eq_true.2 ⟨l[i], List.getElem_mem hi, h2⟩
    simp [h3]

theorem f103 {l : List Write} {f : FuncId} {p : Write → Bool} (hl : l.length ≤ 1000000000) (hpm : G.pm f = [.ro]) (hf : ∀ w ∈ l, Fun G f [.vs true (oW w)] (.bool (p w), [])) :
    Fun G 103 [.one (.d (.sl (l.map eW))), .fn f []] (.int .i64 (idx p l), []) := by
  refine Fun.of_run (g := g103) (pf := pf103) rfl rfl rfl rfl ?_
  simp (disch := first | assumption | ((try simp only [LEN, LEN2]); omega)) only [push_cast, Int.reduceToNat, Int.reduceEq, Int.reduceNe, Int.reduceLT, Int.reduceLE, Int.reduceAdd, Int.reduceSub, Int.reduceMul, Int.reduceNeg, Nat.reduceEqDiff, Nat.reduceBEq, Nat.reduceBNe, Nat.reduceAdd, Nat.reduceLeDiff, Nat.reduceLT, Nat.reduceMul, ↓reduceIte, reduceCtorEq, g103, pf103, b103]
  refine run_loop' (fun i : Nat => [(0, T.one (.d (.sl (l.map eW)))), (1, T.fn f []), (7, T.int .i64 l.length), (8, T.int .i64 i)]) (fun i => i ≤ l.length ∧ ∀ x ∈ l.take i, p x = false) (fun i => l.length - i) 0 rfl ⟨Nat.zero_le _, by simp⟩ (fun i hi => ?_)
  obtain ⟨hi, ht⟩ := hi
  simp (disch := first | assumption | ((try simp only [LEN, LEN2]); omega)) only [push_cast, Int.reduceToNat, Int.reduceEq, Int.reduceNe, Int.reduceLT, Int.reduceLE, Int.reduceAdd, Int.reduceSub, Int.reduceMul, Int.reduceNeg, Nat.reduceEqDiff, Nat.reduceBEq, Nat.reduceBNe, Nat.reduceAdd, Nat.reduceLeDiff, Nat.reduceLT, Nat.reduceMul, ↓reduceIte, reduceCtorEq, g103, pf103, b103]
  refine If.dec (fun h => ?_) (fun h => ?_)
  · replace h : i < l.length := by omega
    have h2 := hf l[i] (List.getElem_mem h)
    simp only [oW] at h2
    simp (disch := first | assumption | ((try simp only [LEN, LEN2]); omega)) only [push_cast, Int.reduceToNat, Int.reduceEq, Int.reduceNe, Int.reduceLT, Int.reduceLE, Int.reduceAdd, Int.reduceSub, Int.reduceMul, Int.reduceNeg, Nat.reduceEqDiff, Nat.reduceBEq, Nat.reduceBNe, Nat.reduceAdd, Nat.reduceLeDiff, Nat.reduceLT, Nat.reduceMul, ↓reduceIte, reduceCtorEq, g103, pf103, b103, hpm, eW, callT_eq h2]
    by_cases hp : p l[i] = true
    · simp (disch := first | assumption | ((try simp only [LEN, LEN2]); omega)) only [push_cast, Int.reduceToNat, Int.reduceEq, Int.reduceNe, Int.reduceLT, Int.reduceLE, Int.reduceAdd, Int.reduceSub, Int.reduceMul, Int.reduceNeg, Nat.reduceEqDiff, Nat.reduceBEq, Nat.reduceBNe, Nat.reduceAdd, Nat.reduceLeDiff, Nat.reduceLT, Nat.reduceMul, ↓reduceIte, reduceCtorEq, g103, pf103, b103, hp]
      rw [idx_some h ht hp]
    · rw [Bool.not_eq_true] at hp
      simp (disch := first | assumption | ((try simp only [LEN, LEN2]); omega)) only [push_cast, Int.reduceToNat, Int.reduceEq, Int.reduceNe, Int.reduceLT, Int.reduceLE, Int.reduceAdd, Int.reduceSub, Int.reduceMul, Int.reduceNeg, Nat.reduceEqDiff, Nat.reduceBEq, Nat.reduceBNe, Nat.reduceAdd, Nat.reduceLeDiff, Nat.reduceLT, Nat.reduceMul, ↓reduceIte, reduceCtorEq, g103, pf103, b103, hp]
      refine ⟨i + 1, rfl, ⟨by omega, fun x hx => ?_⟩, by omega⟩
      rw [List.take_succ_eq_append_getElem h, List.mem_append, List.mem_singleton] at hx
      rcases hx with hx | rfl
      · exact ht x hx
      · exact hp
  · obtain rfl : i = l.length := by omega
    simp (disch := first | assumption | ((try simp only [LEN, LEN2]); omega)) only [push_cast, Int.reduceToNat, Int.reduceEq, Int.reduceNe, Int.reduceLT, Int.reduceLE, Int.reduceAdd, Int.reduceSub, Int.reduceMul, Int.reduceNeg, Nat.reduceEqDiff, Nat.reduceBEq, Nat.reduceBNe, Nat.reduceAdd, Nat.reduceLeDiff, Nat.reduceLT, Nat.reduceMul, ↓reduceIte, reduceCtorEq, g103, pf103, b103]
    rw [idx_none (fun x hx => ht x (by rw [List.take_length]; exact hx))]

theorem f80 {l : List Write} {f : FuncId} {p : Write → Bool} (hl : l.length ≤ 1000000000) (hpm : G.pm f = [.ro]) (hf : ∀ w ∈ l, Fun G f [.vs true (oW w)] (.bool (p w), [])) :
    Fun G 80 [.one (.d (.sl (l.map eW))), .fn f []] (.bool (l.any p), []) := by
  refine Fun.of_run (g := g80) (pf := pf80) rfl rfl rfl rfl ?_
  simp (disch := first | assumption | ((try simp only [LEN, LEN2]); omega)) only [push_cast, Int.reduceToNat, Int.reduceEq, Int.reduceNe, Int.reduceLT, Int.reduceLE, Int.reduceAdd, Int.reduceSub, Int.reduceMul, Int.reduceNeg, Nat.reduceEqDiff, Nat.reduceBEq, Nat.reduceBNe, Nat.reduceAdd, Nat.reduceLeDiff, Nat.reduceLT, Nat.reduceMul, ↓reduceIte, reduceCtorEq, g80, pf80, b80, callC_eq (f103 hl hpm hf)]
  rw [← idx_nonneg]

set_option maxHeartbeats 2000000 in
theorem f46 {n : Int} {l : List Write} (hl : l.length ≤ 1000000000) : Fun G 46 [.vs true [.d (.sc (.int .i64 n)), .d (.sl (l.map eW))]] (.bool (okR ⟨n, l⟩), []) := by
  refine Fun.of_run (g := g46) (pf := pf46) rfl rfl rfl rfl ?_
  have h := f80 (l := l) (f := 81) (p := fun w => !okW w) hl rfl (fun w _ => f81)
  by_cases h1 : 1 ≤ n
  · by_cases h2 : n ≤ 1073741824
    · by_cases h3 : (l.length : Int) ≤ 64
      · simp (disch := first | assumption | ((try simp only [LEN, LEN2]); omega)) only [push_cast, Int.reduceToNat, Int.reduceEq, Int.reduceNe, Int.reduceLT, Int.reduceLE, Int.reduceAdd, Int.reduceSub, Int.reduceMul, Int.reduceNeg, Nat.reduceEqDiff, Nat.reduceBEq, Nat.reduceBNe, Nat.reduceAdd, Nat.reduceLeDiff, Nat.reduceLT, Nat.reduceMul, ↓reduceIte, reduceCtorEq, g46, pf46, b46, h1, h2, h3, callC_eq h]
        simp only [okR]
        have : l.length ≤ 64 := by omega
        simp [h1, h2, this, List.not_any_eq_all_not]
      · simp (disch := first | assumption | ((try simp only [LEN, LEN2]); omega)) only [push_cast, Int.reduceToNat, Int.reduceEq, Int.reduceNe, Int.reduceLT, Int.reduceLE, Int.reduceAdd, Int.reduceSub, Int.reduceMul, Int.reduceNeg, Nat.reduceEqDiff, Nat.reduceBEq, Nat.reduceBNe, Nat.reduceAdd, Nat.reduceLeDiff, Nat.reduceLT, Nat.reduceMul, ↓reduceIte, reduceCtorEq, g46, pf46, b46, h1, h2, h3]
        simp [okR, show ¬ l.length ≤ 64 by omega]
    · simp (disch := first | assumption | ((try simp only [LEN, LEN2]); omega)) only [push_cast, Int.reduceToNat, Int.reduceEq, Int.reduceNe, Int.reduceLT, Int.reduceLE, Int.reduceAdd, Int.reduceSub, Int.reduceMul, Int.reduceNeg, Nat.reduceEqDiff, Nat.reduceBEq, Nat.reduceBNe, Nat.reduceAdd, Nat.reduceLeDiff, Nat.reduceLT, Nat.reduceMul, ↓reduceIte, reduceCtorEq, g46, pf46, b46, h1, h2]
      simp [okR, h2]
  · simp (disch := first | assumption | ((try simp only [LEN, LEN2]); omega)) only [push_cast, Int.reduceToNat, Int.reduceEq, Int.reduceNe, Int.reduceLT, Int.reduceLE, Int.reduceAdd, Int.reduceSub, Int.reduceMul, Int.reduceNeg, Nat.reduceEqDiff, Nat.reduceBEq, Nat.reduceBNe, Nat.reduceAdd, Nat.reduceLeDiff, Nat.reduceLT, Nat.reduceMul, ↓reduceIte, reduceCtorEq, g46, pf46, b46, h1]
    simp [okR, h1]
theorem f46c {n : Int} {l : List Write} (hl : l.length ≤ 1000000000) {g : VG} {F : Fn} {lk : Bool} {e : Env} {dst : Option Nat} {ops : List Ins} {keep : Option (List Nat)} {K : List Fr} : CallC G g F 46 [.vs true [.d (.sc (.int .i64 n)), .d (.sl (l.map eW))]] lk e dst ops keep K = ThenL G g F (if lk && !(T.noSl (.bool (okR ⟨n, l⟩))) then none else e.put g.un dst (.bool (okR ⟨n, l⟩))) ops keep K := callC_eq (f46 hl)
attribute [push_cast] f46c


end Go.Mir.Try

/- Walks: a record's bytes. -/
set_option linter.unusedVariables false
set_option linter.unusedSimpArgs false
set_option maxRecDepth 100000
namespace Go.Mir.Try
open Go.Proofs Go.Mir.Q

/-- A write's bytes. -/
def wr (w : Write) : List UInt8 := be 1 w.Table ++ be 1 (if w.Gone then 1 else 0) ++ be 1 w.Key.length ++ w.Key ++ be 1 w.Value.length ++ w.Value
def wrs (l : List Write) : List UInt8 := l.flatMap wr
def spelt (r : Record) : List UInt8 := be 4 r.Commit ++ be 4 r.Writes.length ++ wrs r.Writes
theorem wrs_snoc (l : List Write) (w : Write) : wrs (l ++ [w]) = wrs l ++ wr w := by simp [wrs]
theorem wrs_len (l : List Write) (h : ∀ w ∈ l, w.Key.length ≤ 1048576 ∧ w.Value.length ≤ 1048576) : (wrs l).length ≤ l.length * 2097156 := by
  induction l with
  | nil => simp [wrs]
  | cons w l ih =>
    have h1 := h w (by simp)
    have h2 := ih fun x hx => h x (List.mem_cons_of_mem _ hx)
    have : (wrs (w :: l)).length = (wr w).length + (wrs l).length := by simp [wrs]
    have h3 : (wr w).length = 4 + w.Key.length + w.Value.length := by simp [wr, be_length]; omega
    rw [this, List.length_cons]
    omega


set_option maxHeartbeats 2000000 in
theorem f47 {n : Int} {l : List Write} (hs : smW l) (h64 : l.length ≤ 64) : Fun G 47 [.vs true [.d (.sc (.int .i64 n)), .d (.sl (l.map eW))]] (.str (bs (spelt ⟨n, l⟩)), []) := by
  refine Fun.of_run (g := g47) (pf := pf47) rfl rfl rfl rfl ?_
  obtain ⟨hl, hs⟩ := hs
  have f0 := @f83t [] n (by simp)
  simp only [List.map_nil] at f0
  simp (disch := first | assumption | ((try simp only [LEN, LEN2]); omega)) only [push_cast, Int.reduceToNat, Int.reduceEq, Int.reduceNe, Int.reduceLT, Int.reduceLE, Int.reduceAdd, Int.reduceSub, Int.reduceMul, Int.reduceNeg, Nat.reduceEqDiff, Nat.reduceBEq, Nat.reduceBNe, Nat.reduceAdd, Nat.reduceLeDiff, Nat.reduceLT, Nat.reduceMul, ↓reduceIte, reduceCtorEq, g47, pf47, b47, f0]
  refine run_loop' (fun i : Nat => [(1, T.one (.box [.d (.sc (.int .i64 n)), .d (.sl (l.map eW))])), (3, T.one (.own 5 ((be 4 n ++ be 4 l.length ++ wrs (l.take i)).map oB))), (13, .at_ 1 0 [(0, 1)]), (14, T.one (.d (.sl (l.map eW)))), (15, T.int .i64 l.length), (16, T.int .i64 i)]) (fun i => i ≤ l.length) (fun i => l.length - i) 0 ?_ (Nat.zero_le _) (fun i hi => ?_)
  · simp [wrs]
  have hw := wrs_len (l.take i) fun w hw => hs w (List.mem_of_mem_take hw)
  rw [List.length_take] at hw
  simp (disch := first | assumption | ((try simp only [LEN, LEN2]); omega)) only [push_cast, Int.reduceToNat, Int.reduceEq, Int.reduceNe, Int.reduceLT, Int.reduceLE, Int.reduceAdd, Int.reduceSub, Int.reduceMul, Int.reduceNeg, Nat.reduceEqDiff, Nat.reduceBEq, Nat.reduceBNe, Nat.reduceAdd, Nat.reduceLeDiff, Nat.reduceLT, Nat.reduceMul, ↓reduceIte, reduceCtorEq, g47, pf47, b47]
  refine If.dec (fun h => ?_) (fun h => ?_)
  · replace h : i < l.length := by omega
    have hk := hs l[i] (List.getElem_mem h)
    simp (disch := first | assumption | ((try simp only [LEN, LEN2]); omega)) only [push_cast, Int.reduceToNat, Int.reduceEq, Int.reduceNe, Int.reduceLT, Int.reduceLE, Int.reduceAdd, Int.reduceSub, Int.reduceMul, Int.reduceNeg, Nat.reduceEqDiff, Nat.reduceBEq, Nat.reduceBNe, Nat.reduceAdd, Nat.reduceLeDiff, Nat.reduceLT, Nat.reduceMul, ↓reduceIte, reduceCtorEq, g47, pf47, b47, eW]
    refine ⟨i + 1, ?_, by omega, by omega⟩
    rw [List.take_succ_eq_append_getElem h, wrs_snoc]
    have e1 : ∀ n : Int, be 1 n = [byt n] := fun n => by simp [be]
    have e2 : ∀ b : Bool, (if b then (1 : Int) else 0) % 256 = if b then 1 else 0 := fun b => by cases b <;> rfl
    simp [wr, e1, oB_byt, e2, List.map_append]
  · obtain rfl : i = l.length := by omega
    simp (disch := first | assumption | ((try simp only [LEN, LEN2]); omega)) only [push_cast, Int.reduceToNat, Int.reduceEq, Int.reduceNe, Int.reduceLT, Int.reduceLE, Int.reduceAdd, Int.reduceSub, Int.reduceMul, Int.reduceNeg, Nat.reduceEqDiff, Nat.reduceBEq, Nat.reduceBNe, Nat.reduceAdd, Nat.reduceLeDiff, Nat.reduceLT, Nat.reduceMul, ↓reduceIte, reduceCtorEq, g47, pf47, b47]
    simp [spelt]
theorem f47c {n : Int} {l : List Write} (hs : smW l) (h64 : l.length ≤ 64) {g : VG} {F : Fn} {lk : Bool} {e : Env} {dst : Option Nat} {ops : List Ins} {keep : Option (List Nat)} {K : List Fr} : CallC G g F 47 [.vs true [.d (.sc (.int .i64 n)), .d (.sl (l.map eW))]] lk e dst ops keep K = ThenL G g F (if lk && !(T.noSl (.str (bs (spelt ⟨n, l⟩)))) then none else e.put g.un dst (.str (bs (spelt ⟨n, l⟩)))) ops keep K := callC_eq (f47 hs h64)
attribute [push_cast] f47c

set_option maxHeartbeats 2000000 in
theorem f14 {n : Int} {l : List Write} (hs : smW l) : Fun G 14 [.vs true [.d (.sc (.int .i64 n)), .d (.sl (l.map eW))]] (.tup [(false, [.d (.sc (.string (bs (if okR ⟨n, l⟩ then spelt ⟨n, l⟩ else []))))]), (false, [.d (.sc (.int .i64 (if okR ⟨n, l⟩ then 0 else 1)))])], []) := by
  refine Fun.of_run (g := g14) (pf := pf14) rfl rfl rfl rfl ?_
  have hl := hs.1
  by_cases hr : okR ⟨n, l⟩ = true
  · have h64 : l.length ≤ 64 := by simp [okR] at hr; omega
    simp (disch := first | assumption | ((try simp only [LEN, LEN2]); omega)) only [push_cast, Int.reduceToNat, Int.reduceEq, Int.reduceNe, Int.reduceLT, Int.reduceLE, Int.reduceAdd, Int.reduceSub, Int.reduceMul, Int.reduceNeg, Nat.reduceEqDiff, Nat.reduceBEq, Nat.reduceBNe, Nat.reduceAdd, Nat.reduceLeDiff, Nat.reduceLT, Nat.reduceMul, ↓reduceIte, reduceCtorEq, g14, pf14, b14, hr]
  · rw [Bool.not_eq_true] at hr
    simp (disch := first | assumption | ((try simp only [LEN, LEN2]); omega)) only [push_cast, Int.reduceToNat, Int.reduceEq, Int.reduceNe, Int.reduceLT, Int.reduceLE, Int.reduceAdd, Int.reduceSub, Int.reduceMul, Int.reduceNeg, Nat.reduceEqDiff, Nat.reduceBEq, Nat.reduceBNe, Nat.reduceAdd, Nat.reduceLeDiff, Nat.reduceLT, Nat.reduceMul, ↓reduceIte, reduceCtorEq, g14, pf14, b14, hr]
theorem f14c {n : Int} {l : List Write} (hs : smW l) {g : VG} {F : Fn} {lk : Bool} {e : Env} {dst : Option Nat} {ops : List Ins} {keep : Option (List Nat)} {K : List Fr} : CallC G g F 14 [.vs true [.d (.sc (.int .i64 n)), .d (.sl (l.map eW))]] lk e dst ops keep K = ThenL G g F (if lk && !(T.noSl (.tup [(false, [.d (.sc (.string (bs (if okR ⟨n, l⟩ then spelt ⟨n, l⟩ else []))))]), (false, [.d (.sc (.int .i64 (if okR ⟨n, l⟩ then 0 else 1)))])])) then none else e.put g.un dst (.tup [(false, [.d (.sc (.string (bs (if okR ⟨n, l⟩ then spelt ⟨n, l⟩ else []))))]), (false, [.d (.sc (.int .i64 (if okR ⟨n, l⟩ then 0 else 1)))])])) ops keep K := callC_eq (f14 hs)
attribute [push_cast] f14c


end Go.Mir.Try

/- Walks: reading bytes. -/
set_option linter.unusedVariables false
set_option linter.unusedSimpArgs false
set_option maxRecDepth 100000
namespace Go.Mir.Try
open Go.Proofs Go.Mir.Q

abbrev Rdr := List UInt8 × Bool
abbrev bR (r : Rdr) : V := .box [.d (.sc (.string (bs r.1))), .d (.sc (.bool r.2))]
def tk (n : Nat) (r : Rdr) : List UInt8 × Rdr := if r.2 = true ∨ r.1.length < n then ([], (r.1, true)) else (r.1.take n, (r.1.drop n, false))

set_option maxHeartbeats 2000000 in
theorem f87 {s : List UInt8} {b : Bool} {n : Int} (h0 : 0 ≤ n) (hs : s.length ≤ 1000000000) : Fun G 87 [.one (.box [.d (.sc (.string (bs s))), .d (.sc (.bool b))]), .int .i64 n] (.str (bs (tk n.toNat (s, b)).1), [bR (tk n.toNat (s, b)).2]) := by
  refine Fun.of_run (g := g87) (pf := pf87) rfl rfl rfl rfl ?_
  cases b with
  | true =>
    simp (disch := first | assumption | ((try simp only [LEN, LEN2]); omega)) only [push_cast, Int.reduceToNat, Int.reduceEq, Int.reduceNe, Int.reduceLT, Int.reduceLE, Int.reduceAdd, Int.reduceSub, Int.reduceMul, Int.reduceNeg, Nat.reduceEqDiff, Nat.reduceBEq, Nat.reduceBNe, Nat.reduceAdd, Nat.reduceLeDiff, Nat.reduceLT, Nat.reduceMul, ↓reduceIte, reduceCtorEq, g87, pf87, b87]
    simp [tk]
  | false =>
    by_cases h : (s.length : Int) < n
    · simp (disch := first | assumption | ((try simp only [LEN, LEN2]); omega)) only [push_cast, Int.reduceToNat, Int.reduceEq, Int.reduceNe, Int.reduceLT, Int.reduceLE, Int.reduceAdd, Int.reduceSub, Int.reduceMul, Int.reduceNeg, Nat.reduceEqDiff, Nat.reduceBEq, Nat.reduceBNe, Nat.reduceAdd, Nat.reduceLeDiff, Nat.reduceLT, Nat.reduceMul, ↓reduceIte, reduceCtorEq, g87, pf87, b87, h]
      have : s.length < n.toNat := by omega
      simp [tk, this]
    · simp (disch := first | assumption | ((try simp only [LEN, LEN2]); omega)) only [push_cast, Int.reduceToNat, Int.reduceEq, Int.reduceNe, Int.reduceLT, Int.reduceLE, Int.reduceAdd, Int.reduceSub, Int.reduceMul, Int.reduceNeg, Nat.reduceEqDiff, Nat.reduceBEq, Nat.reduceBNe, Nat.reduceAdd, Nat.reduceLeDiff, Nat.reduceLT, Nat.reduceMul, ↓reduceIte, reduceCtorEq, g87, pf87, b87, h]
      have : ¬ s.length < n.toNat := by omega
      simp [tk, this]
theorem f87t {s : List UInt8} {b : Bool} {n : Int} (h0 : 0 ≤ n) (hs : s.length ≤ 1000000000) {g : VG} {F : Fn} {lk : Bool} {ags : List Arg} {e0 e1 : Env} {dst : Option Nat} {ops : List Ins} {keep : Option (List Nat)} {K : List Fr} : CallT G g F 87 [.one (.box [.d (.sc (.string (bs s))), .d (.sc (.bool b))]), .int .i64 n] lk ags e0 e1 dst ops keep K = RetT G g F (.str (bs (tk n.toNat (s, b)).1)) [bR (tk n.toNat (s, b)).2] lk ags e0 e1 dst ops keep K := callT_eq (f87 h0 hs)
attribute [push_cast] f87t

theorem tk_len (n : Nat) (r : Rdr) : (tk n r).1.length ≤ n ∧ (tk n r).2.1.length ≤ r.1.length := by
  unfold tk; split <;> simp <;> omega

set_option maxHeartbeats 2000000 in
theorem f51 {s : List UInt8} {b : Bool} {n : Int} (h0 : 0 ≤ n) (h6 : n ≤ 6) (hs : s.length ≤ 1000000000) : Fun G 51 [.one (.box [.d (.sc (.string (bs s))), .d (.sc (.bool b))]), .int .i64 n] (.int .i64 (num (tk n.toNat (s, b)).1), [bR (tk n.toNat (s, b)).2]) := by
  refine Fun.of_run (g := g51) (pf := pf51) rfl rfl rfl rfl ?_
  simp (disch := first | assumption | ((try simp only [LEN, LEN2]); omega)) only [push_cast, Int.reduceToNat, Int.reduceEq, Int.reduceNe, Int.reduceLT, Int.reduceLE, Int.reduceAdd, Int.reduceSub, Int.reduceMul, Int.reduceNeg, Nat.reduceEqDiff, Nat.reduceBEq, Nat.reduceBNe, Nat.reduceAdd, Nat.reduceLeDiff, Nat.reduceLT, Nat.reduceMul, ↓reduceIte, reduceCtorEq, g51, pf51, b51]
  obtain ⟨t, ht⟩ : ∃ t, t = (tk n.toNat (s, b)).1 := ⟨_, rfl⟩
  have hl : t.length ≤ 6 := by have := (tk_len n.toNat (s, b)).1; rw [← ht] at this; omega
  rw [← ht]
  refine run_loop' (fun i : Nat => [(0, T.one (bR (tk n.toNat (s, b)).2)), (5, T.int .i64 (num (t.take i))), (11, T.one (.row (t.map oB))), (12, T.int .i64 t.length), (13, T.int .i64 i)]) (fun i => i ≤ t.length) (fun i => t.length - i) 0 rfl (Nat.zero_le _) (fun i hi => ?_)
  have hb := num_bd6 (t.take i) (by simp; omega)
  simp (disch := first | assumption | ((try simp only [LEN, LEN2]); omega)) only [push_cast, Int.reduceToNat, Int.reduceEq, Int.reduceNe, Int.reduceLT, Int.reduceLE, Int.reduceAdd, Int.reduceSub, Int.reduceMul, Int.reduceNeg, Nat.reduceEqDiff, Nat.reduceBEq, Nat.reduceBNe, Nat.reduceAdd, Nat.reduceLeDiff, Nat.reduceLT, Nat.reduceMul, ↓reduceIte, reduceCtorEq, g51, pf51, b51]
  refine If.dec (fun h => ?_) (fun h => ?_)
  · replace h : i < t.length := by omega
    have e := or_byte (a := num (t.take i)) (b := t[i].toNat) hb.1 (by omega) (by omega) (by have := t[i].toNat_lt; omega)
    simp (disch := first | assumption | ((try simp only [LEN, LEN2]); omega)) only [push_cast, Int.reduceToNat, Int.reduceEq, Int.reduceNe, Int.reduceLT, Int.reduceLE, Int.reduceAdd, Int.reduceSub, Int.reduceMul, Int.reduceNeg, Nat.reduceEqDiff, Nat.reduceBEq, Nat.reduceBNe, Nat.reduceAdd, Nat.reduceLeDiff, Nat.reduceLT, Nat.reduceMul, ↓reduceIte, reduceCtorEq, g51, pf51, b51, oB, e]
    refine ⟨i + 1, ?_, by omega, by omega⟩
    rw [List.take_succ_eq_append_getElem h, num_snoc]; rfl
  · obtain rfl : i = t.length := by omega
    simp (disch := first | assumption | ((try simp only [LEN, LEN2]); omega)) only [push_cast, Int.reduceToNat, Int.reduceEq, Int.reduceNe, Int.reduceLT, Int.reduceLE, Int.reduceAdd, Int.reduceSub, Int.reduceMul, Int.reduceNeg, Nat.reduceEqDiff, Nat.reduceBEq, Nat.reduceBNe, Nat.reduceAdd, Nat.reduceLeDiff, Nat.reduceLT, Nat.reduceMul, ↓reduceIte, reduceCtorEq, g51, pf51, b51]
    simp
theorem f51t {s : List UInt8} {b : Bool} {n : Int} (h0 : 0 ≤ n) (h6 : n ≤ 6) (hs : s.length ≤ 1000000000) {g : VG} {F : Fn} {lk : Bool} {ags : List Arg} {e0 e1 : Env} {dst : Option Nat} {ops : List Ins} {keep : Option (List Nat)} {K : List Fr} : CallT G g F 51 [.one (.box [.d (.sc (.string (bs s))), .d (.sc (.bool b))]), .int .i64 n] lk ags e0 e1 dst ops keep K = RetT G g F (.int .i64 (num (tk n.toNat (s, b)).1)) [bR (tk n.toNat (s, b)).2] lk ags e0 e1 dst ops keep K := callT_eq (f51 h0 h6 hs)
attribute [push_cast] f51t

theorem num_one (n : Nat) (hn : n ≤ 1) (r : Rdr) : 0 ≤ num (tk n r).1 ∧ num (tk n r).1 < 256 := by
  have h := (tk_len n r).1
  match hx : (tk n r).1 with
  | [] => simp [num]
  | [b] => have := b.toNat_lt; simp [num]; omega
  | _ :: _ :: _ => rw [hx] at h; simp at h; omega

/-- A write, read. -/
def rdK (r : Rdr) : List UInt8 × Rdr := let l := tk 1 r; tk (num l.1).toNat l.2
def rdG (r : Rdr) : Rdr := let a := tk 1 r; let g := tk 1 a.2; (g.2.1, g.2.2 || decide (1 < num g.1))
def rdW (r : Rdr) : Write × Rdr := (⟨num (tk 1 r).1, (rdK (rdG r)).1, (rdK (rdK (rdG r)).2).1, decide (num (tk 1 (tk 1 r).2).1 = 1)⟩, (rdK (rdK (rdG r)).2).2)

set_option maxHeartbeats 2000000 in
theorem f52 {s : List UInt8} {b : Bool} (hs : s.length ≤ 1000000000) : Fun G 52 [.one (.box [.d (.sc (.string (bs s))), .d (.sc (.bool b))])] (.vs true (cW (rdW (s, b)).1.Table (rdW (s, b)).1.Key (rdW (s, b)).1.Value (rdW (s, b)).1.Gone), [bR (rdW (s, b)).2]) := by
  refine Fun.of_run (g := g52) (pf := pf52) rfl rfl rfl rfl ?_
  obtain ⟨⟨a1, s1, b1⟩, e1⟩ : ∃ x, tk 1 (s, b) = x := ⟨_, rfl⟩
  obtain ⟨⟨a2, s2, b2⟩, e2⟩ : ∃ x, tk 1 (s1, b1) = x := ⟨_, rfl⟩
  obtain ⟨c, ec⟩ : ∃ c, c = (b2 || decide (1 < num a2)) := ⟨_, rfl⟩
  obtain ⟨⟨a3, s3, b3⟩, e3⟩ : ∃ x, tk 1 (s2, c) = x := ⟨_, rfl⟩
  obtain ⟨⟨a4, s4, b4⟩, e4⟩ : ∃ x, tk (num a3).toNat (s3, b3) = x := ⟨_, rfl⟩
  obtain ⟨⟨a5, s5, b5⟩, e5⟩ : ∃ x, tk 1 (s4, b4) = x := ⟨_, rfl⟩
  obtain ⟨⟨a6, s6, b6⟩, e6⟩ : ∃ x, tk (num a5).toNat (s5, b5) = x := ⟨_, rfl⟩
  have hr : rdW (s, b) = (⟨num a1, a4, a6, decide (num a2 = 1)⟩, s6, b6) := by simp only [rdW, rdK, rdG, e1, e2, ← ec, e3, e4, e5, e6]
  have l1 := (tk_len 1 (s, b)).2
  have l2 := (tk_len 1 (s1, b1)).2
  have l3 := (tk_len 1 (s2, c)).2
  have l4 := (tk_len (num a3).toNat (s3, b3)).2
  have l5 := (tk_len 1 (s4, b4)).2
  have n3 := num_one 1 (by omega) (s2, c)
  have n5 := num_one 1 (by omega) (s4, b4)
  rw [e1] at l1; rw [e2] at l2; rw [e3] at l3 n3; rw [e4] at l4; rw [e5] at l5 n5
  simp only at l1 l2 l3 l4 l5 n3 n5
  obtain ⟨n3, n3'⟩ := n3
  obtain ⟨n5, n5'⟩ := n5
  rw [hr]
  cases b2 with
  | true =>
    obtain rfl : c = true := by simpa using ec
    simp (disch := first | assumption | ((try simp only [LEN, LEN2]); omega)) only [push_cast, Int.reduceToNat, Int.reduceEq, Int.reduceNe, Int.reduceLT, Int.reduceLE, Int.reduceAdd, Int.reduceSub, Int.reduceMul, Int.reduceNeg, Nat.reduceEqDiff, Nat.reduceBEq, Nat.reduceBNe, Nat.reduceAdd, Nat.reduceLeDiff, Nat.reduceLT, Nat.reduceMul, ↓reduceIte, reduceCtorEq, g52, pf52, b52, e1, e2, e3, e4, e5, e6]
  | false =>
    rw [Bool.false_or] at ec
    simp (disch := first | assumption | ((try simp only [LEN, LEN2]); omega)) only [push_cast, Int.reduceToNat, Int.reduceEq, Int.reduceNe, Int.reduceLT, Int.reduceLE, Int.reduceAdd, Int.reduceSub, Int.reduceMul, Int.reduceNeg, Nat.reduceEqDiff, Nat.reduceBEq, Nat.reduceBNe, Nat.reduceAdd, Nat.reduceLeDiff, Nat.reduceLT, Nat.reduceMul, ↓reduceIte, reduceCtorEq, g52, pf52, b52, e1, e2, ← ec, e3, e4, e5, e6]
theorem f52t {s : List UInt8} {b : Bool} (hs : s.length ≤ 1000000000) {g : VG} {F : Fn} {lk : Bool} {ags : List Arg} {e0 e1 : Env} {dst : Option Nat} {ops : List Ins} {keep : Option (List Nat)} {K : List Fr} : CallT G g F 52 [.one (.box [.d (.sc (.string (bs s))), .d (.sc (.bool b))])] lk ags e0 e1 dst ops keep K = RetT G g F (.vs true (cW (rdW (s, b)).1.Table (rdW (s, b)).1.Key (rdW (s, b)).1.Value (rdW (s, b)).1.Gone)) [bR (rdW (s, b)).2] lk ags e0 e1 dst ops keep K := callT_eq (f52 hs)
attribute [push_cast] f52t

end Go.Mir.Try

/- Walks: Take. -/
set_option linter.unusedVariables false
set_option linter.unusedSimpArgs false
set_option maxRecDepth 100000
namespace Go.Mir.Try
open Go.Proofs Go.Mir.Q

/-- So many writes, read; behind something bad none. -/
def rdWs : Nat → Rdr → List Write × Rdr
  | 0, r => ([], r)
  | n + 1, r => if r.2 = true then ([], r) else ((rdW r).1 :: (rdWs n (rdW r).2).1, (rdWs n (rdW r).2).2)
/-- The record that bytes are, as the program reads it. -/
def rdRec (s : List UInt8) : Record × Rdr := let c := tk 4 (s, false); let k := tk 4 c.2; let w := rdWs (num k.1).toNat k.2; (⟨num c.1, w.1⟩, w.2)
def take (s : List UInt8) : Option Record := let x := rdRec s; if x.2.2 = true ∨ x.2.1 ≠ [] ∨ okR x.1 = false then none else some x.1

def rc (s : List UInt8) : Record := (take s).getD ⟨0, []⟩
theorem tk_good {n : Nat} {r : Rdr} (h : (tk n r).2.2 = false) : r.2 = false ∧ (tk n r).2.1.length + n = r.1.length := by
  unfold tk at *
  split at h
  · cases h
  · rename_i hn
    rw [if_neg hn]
    rw [not_or, Bool.not_eq_true] at hn
    refine ⟨hn.1, ?_⟩
    simp only [List.length_drop]; omega
theorem rdW_good {r : Rdr} (h : (rdW r).2.2 = false) : r.2 = false ∧ (rdW r).2.1.length + 4 ≤ r.1.length := by
  simp only [rdW, rdK] at *
  have h1 := tk_good h
  have h2 := tk_good h1.1
  have h3 := tk_good h2.1
  have h4 := tk_good h3.1
  have h5 : (tk 1 (tk 1 r).2).2.2 = false := by
    have := h4.1
    simp only [rdG, Bool.or_eq_false_iff] at this
    exact this.1
  have h6 := tk_good h5
  have h7 := tk_good h6.1
  have e : (rdG r).1 = (tk 1 (tk 1 r).2).2.1 := rfl
  rw [e] at h4
  exact ⟨h7.1, by omega⟩
theorem rdW_len (r : Rdr) : (rdW r).2.1.length ≤ r.1.length := by
  simp only [rdW, rdK]
  have h1 := (tk_len (num (tk 1 (tk (num (tk 1 (rdG r)).1).toNat (tk 1 (rdG r)).2).2).1).toNat (tk 1 (tk (num (tk 1 (rdG r)).1).toNat (tk 1 (rdG r)).2).2).2).2
  have h2 := (tk_len 1 (tk (num (tk 1 (rdG r)).1).toNat (tk 1 (rdG r)).2).2).2
  have h3 := (tk_len (num (tk 1 (rdG r)).1).toNat (tk 1 (rdG r)).2).2
  have h4 := (tk_len 1 (rdG r)).2
  have h5 := (tk_len 1 (tk 1 r).2).2
  have h6 := (tk_len 1 r).2
  have e : (rdG r).1 = (tk 1 (tk 1 r).2).2.1 := rfl
  rw [e] at h4
  omega

set_option maxHeartbeats 2000000 in
theorem f21 {s : List UInt8} (hs : s.length ≤ 100000000) : Fun G 21 [.str (bs s)] (.tup [(true, [.d (.sc (.int .i64 (rc s).Commit)), .own 84 ((rc s).Writes.map oW)]), (false, [.d (.sc (.int .i64 (if (take s).isSome then 0 else 10)))])], []) := by
  refine Fun.of_run (g := g21) (pf := pf21) rfl rfl rfl rfl ?_
  obtain ⟨⟨a1, s1, b1⟩, e1⟩ : ∃ x, tk 4 (s, false) = x := ⟨_, rfl⟩
  obtain ⟨⟨a2, s2, b2⟩, e2⟩ : ∃ x, tk 4 (s1, b1) = x := ⟨_, rfl⟩
  have l1 := (tk_len 4 (s, false)).2
  have l2 := (tk_len 4 (s1, b1)).2
  rw [e1] at l1; rw [e2] at l2
  simp only at l1 l2
  obtain ⟨ws, hws⟩ : ∃ x, x = rdWs (num a2).toNat (s2, b2) := ⟨_, rfl⟩
  have hrec : rdRec s = (⟨num a1, ws.1⟩, ws.2) := by simp only [rdRec, e1, e2, ← hws]
  have hn2 : 0 ≤ num a2 ∧ num a2 < 281474976710656 := num_bd6 a2 (by have := (tk_len 4 (s1, b1)).1; rw [e2] at this; simp only at this; omega)
  simp (disch := first | assumption | ((try simp only [LEN, LEN2]); omega)) only [push_cast, Int.reduceToNat, Int.reduceEq, Int.reduceNe, Int.reduceLT, Int.reduceLE, Int.reduceAdd, Int.reduceSub, Int.reduceMul, Int.reduceNeg, Nat.reduceEqDiff, Nat.reduceBEq, Nat.reduceBNe, Nat.reduceAdd, Nat.reduceLeDiff, Nat.reduceLT, Nat.reduceMul, ↓reduceIte, reduceCtorEq, g21, pf21, b21, e1, e2]
  refine run_loop' (fun x : Nat × List Write × Rdr => [(2, T.one (.box [.d (.sc (.int .i64 0)), .own 84 []])), (4, T.one (bR x.2.2)), (5, T.one (.box [.d (.sc (.int .i64 (num a1))), .own 84 (x.2.1.map oW)])), (6, T.int .i64 x.1)])
    (fun x => x.1 < 281474976710656 ∧ (x.2.1 ++ (rdWs x.1 x.2.2).1, (rdWs x.1 x.2.2).2) = ws ∧ x.2.2.1.length ≤ s.length ∧ (x.2.2.2 = false → x.2.1.length + x.2.2.1.length ≤ s.length) ∧ x.2.1.length ≤ s.length + 1)
    (fun x => x.1) ((num a2).toNat, [], (s2, b2)) ?_ ?_ (fun ⟨n, l, s3, b3⟩ hi => ?_)
  · simp only [Int.toNat_of_nonneg hn2.1]; rfl
  · simp only [List.nil_append, hws]; simp; omega
  obtain ⟨hn, hw, hs3, hl, hl2⟩ := hi
  simp only at hn hw hs3 hl hl2
  by_cases hx : 0 < n ∧ b3 = false
  · obtain ⟨m, rfl⟩ : ∃ m, n = m + 1 := ⟨n - 1, by omega⟩
    obtain ⟨h0, rfl⟩ := hx
    have hl := hl rfl
    have h1 : (0 : Int) < (m : Int) + 1 := by omega
    have g1 := @rdW_good (s3, false)
    have g2 := rdW_len (s3, false)
    have e3 : (m : Int) + 1 - 1 = m := by omega
    simp only at g1 g2
    simp (disch := first | assumption | ((try simp only [LEN, LEN2]); omega)) only [push_cast, Int.reduceToNat, Int.reduceEq, Int.reduceNe, Int.reduceLT, Int.reduceLE, Int.reduceAdd, Int.reduceSub, Int.reduceMul, Int.reduceNeg, Nat.reduceEqDiff, Nat.reduceBEq, Nat.reduceBNe, Nat.reduceAdd, Nat.reduceLeDiff, Nat.reduceLT, Nat.reduceMul, ↓reduceIte, reduceCtorEq, g21, pf21, b21, h1, e3]
    refine ⟨(m, l ++ [(rdW (s3, false)).1], (rdW (s3, false)).2), ?_, ⟨by simp only; omega, ?_, by simp only; omega, fun hf => ?_, by simp only [List.length_append, List.length_singleton]; omega⟩, by simp only; omega⟩
    · simp only [List.map_append, List.map_cons, List.map_nil, oW]
    · rw [← hw]; simp [rdWs]
    · have := g1 hf; simp only [List.length_append, List.length_singleton]; omega
  · have hw' : ws = (l, s3, b3) := by
      rw [← hw]
      cases n with
      | zero => simp [rdWs]
      | succ n =>
        have : b3 = true := by
          cases b3 with
          | true => rfl
          | false => exact (hx ⟨by omega, rfl⟩).elim
        subst this; simp [rdWs]
    have hrec' : rdRec s = (⟨num a1, l⟩, s3, b3) := by rw [hrec, hw']
    have ex : (decide (0 < (n : Int)) = false) ∨ (decide (0 < (n : Int)) = true ∧ b3 = true) := by
      by_cases h : 0 < n
      · right
        refine ⟨by simpa using h, ?_⟩
        cases b3 with
        | true => rfl
        | false => exact (hx ⟨h, rfl⟩).elim
      · left; simp; omega
    by_cases hb : b3 = true
    · have ht : take s = none := by simp [take, hrec', hb]
      subst hb
      rcases ex with h | ⟨h, _⟩ <;> simp (disch := first | assumption | ((try simp only [LEN, LEN2]); omega)) only [push_cast, Int.reduceToNat, Int.reduceEq, Int.reduceNe, Int.reduceLT, Int.reduceLE, Int.reduceAdd, Int.reduceSub, Int.reduceMul, Int.reduceNeg, Nat.reduceEqDiff, Nat.reduceBEq, Nat.reduceBNe, Nat.reduceAdd, Nat.reduceLeDiff, Nat.reduceLT, Nat.reduceMul, ↓reduceIte, reduceCtorEq, g21, pf21, b21, h, ht, rc] <;> try rfl
    · rw [Bool.not_eq_true] at hb
      subst hb
      have h : decide (0 < (n : Int)) = false := by rcases ex with h | ⟨_, h⟩; exact h; cases h
      by_cases h3 : s3 = []
      · by_cases hr : okR ⟨num a1, l⟩ = true
        · have ht : take s = some ⟨num a1, l⟩ := by simp [take, hrec', h3, hr]
          simp (disch := first | assumption | ((try simp only [LEN, LEN2]); omega)) only [push_cast, Int.reduceToNat, Int.reduceEq, Int.reduceNe, Int.reduceLT, Int.reduceLE, Int.reduceAdd, Int.reduceSub, Int.reduceMul, Int.reduceNeg, Nat.reduceEqDiff, Nat.reduceBEq, Nat.reduceBNe, Nat.reduceAdd, Nat.reduceLeDiff, Nat.reduceLT, Nat.reduceMul, ↓reduceIte, reduceCtorEq, g21, pf21, b21, h, h3, hr, ht, rc]
          try rfl
        · rw [Bool.not_eq_true] at hr
          have ht : take s = none := by simp [take, hrec', h3, hr]
          simp (disch := first | assumption | ((try simp only [LEN, LEN2]); omega)) only [push_cast, Int.reduceToNat, Int.reduceEq, Int.reduceNe, Int.reduceLT, Int.reduceLE, Int.reduceAdd, Int.reduceSub, Int.reduceMul, Int.reduceNeg, Nat.reduceEqDiff, Nat.reduceBEq, Nat.reduceBNe, Nat.reduceAdd, Nat.reduceLeDiff, Nat.reduceLT, Nat.reduceMul, ↓reduceIte, reduceCtorEq, g21, pf21, b21, h, h3, hr, ht, rc]
          try rfl
      · have ht : take s = none := by simp [take, hrec', h3]
        simp (disch := first | assumption | ((try simp only [LEN, LEN2]); omega)) only [push_cast, Int.reduceToNat, Int.reduceEq, Int.reduceNe, Int.reduceLT, Int.reduceLE, Int.reduceAdd, Int.reduceSub, Int.reduceMul, Int.reduceNeg, Nat.reduceEqDiff, Nat.reduceBEq, Nat.reduceBNe, Nat.reduceAdd, Nat.reduceLeDiff, Nat.reduceLT, Nat.reduceMul, ↓reduceIte, reduceCtorEq, g21, pf21, b21, h, h3, ht, rc]
        try rfl
theorem f21c {s : List UInt8} (hs : s.length ≤ 100000000) {g : VG} {F : Fn} {lk : Bool} {e : Env} {dst : Option Nat} {ops : List Ins} {keep : Option (List Nat)} {K : List Fr} : CallC G g F 21 [.str (bs s)] lk e dst ops keep K = ThenL G g F (if lk && !(T.noSl (.tup [(true, [.d (.sc (.int .i64 (rc s).Commit)), .own 84 ((rc s).Writes.map oW)]), (false, [.d (.sc (.int .i64 (if (take s).isSome then 0 else 10)))])])) then none else e.put g.un dst (.tup [(true, [.d (.sc (.int .i64 (rc s).Commit)), .own 84 ((rc s).Writes.map oW)]), (false, [.d (.sc (.int .i64 (if (take s).isSome then 0 else 10)))])])) ops keep K := callC_eq (f21 hs)
attribute [push_cast] f21c
theorem f21t {s : List UInt8} (hs : s.length ≤ 100000000) {g : VG} {F : Fn} {lk : Bool} {ags : List Arg} {e0 e1 : Env} {dst : Option Nat} {ops : List Ins} {keep : Option (List Nat)} {K : List Fr} : CallT G g F 21 [.str (bs s)] lk ags e0 e1 dst ops keep K = RetT G g F (.tup [(true, [.d (.sc (.int .i64 (rc s).Commit)), .own 84 ((rc s).Writes.map oW)]), (false, [.d (.sc (.int .i64 (if (take s).isSome then 0 else 10)))])]) [] lk ags e0 e1 dst ops keep K := callT_eq (f21 hs)
attribute [push_cast] f21t

end Go.Mir.Try

/- The plain law: what is spelt is taken back. -/
set_option linter.unusedVariables false
set_option linter.unusedSimpArgs false
set_option maxRecDepth 100000
namespace Go.Mir.Try
open Go.Proofs Go.Mir.Q

theorem tk_app {n : Nat} {s t : List UInt8} (h : s.length = n) : tk n (s ++ t, false) = (s, t, false) := by
  subst h
  unfold tk
  rw [if_neg (by simp)]
  simp
theorem num_be1 {n : Int} (h0 : 0 ≤ n) (h1 : n < 256) : num (be 1 n) = n := by
  simp [be, num, byt_toNat]; omega
theorem num_be4 {n : Int} (h0 : 0 ≤ n) (h1 : n < 4294967296) : num (be 4 n) = n := by
  simp only [be4, num, List.foldl_cons, List.foldl_nil, byt_toNat]; omega
theorem tk_be1 {n : Int} {t : List UInt8} : tk 1 (be 1 n ++ t, false) = (be 1 n, t, false) := tk_app (be_length _ _)
theorem tk_be4 {n : Int} {t : List UInt8} : tk 4 (be 4 n ++ t, false) = (be 4 n, t, false) := tk_app (be_length _ _)
theorem rdK_app {s t : List UInt8} (h : s.length < 256) : rdK (be 1 s.length ++ (s ++ t), false) = (s, t, false) := by
  simp only [rdK, tk_be1]
  rw [num_be1 (by omega) (by omega), Int.toNat_natCast, tk_app rfl]
theorem rdW_wr {w : Write} {t : List UInt8} (h : okW w = true) : rdW (wr w ++ t, false) = (w, t, false) := by
  obtain ⟨a, k, v, g⟩ := w
  simp only [okW, decide_eq_true_eq] at h
  have e : wr ⟨a, k, v, g⟩ ++ t = be 1 a ++ (be 1 (if g then 1 else 0) ++ (be 1 k.length ++ (k ++ (be 1 v.length ++ (v ++ t))))) := by simp [wr]
  have eg : num (be 1 (if g then (1 : Int) else 0)) = if g then 1 else 0 := num_be1 (by split <;> omega) (by split <;> omega)
  have e2 : rdG (wr ⟨a, k, v, g⟩ ++ t, false) = (be 1 k.length ++ (k ++ (be 1 v.length ++ (v ++ t))), false) := by
    rw [e]
    simp only [rdG, tk_be1, eg]
    cases g <;> simp
  simp only [rdW, e2]
  rw [rdK_app (by omega), rdK_app (by omega), e]
  simp only [tk_be1, eg]
  rw [num_be1 (by omega) (by omega)]
  cases g <;> rfl
theorem rdWs_wrs : ∀ {l : List Write} {t : List UInt8}, (∀ w ∈ l, okW w = true) → rdWs l.length (wrs l ++ t, false) = (l, t, false)
  | [], t, _ => rfl
  | w :: l, t, h => by
    have e : wrs (w :: l) ++ t = wr w ++ (wrs l ++ t) := by simp [wrs]
    rw [e, List.length_cons, rdWs, if_neg (by simp), rdW_wr (h w (by simp)), rdWs_wrs fun x hx => h x (List.mem_cons_of_mem _ hx)]
theorem take_spelt {r : Record} (h : okR r = true) : take (spelt r) = some r := by
  obtain ⟨c, l⟩ := r
  have h' := h
  simp only [okR, Bool.and_eq_true, decide_eq_true_eq, List.all_eq_true] at h'
  have e : rdRec (spelt ⟨c, l⟩) = (⟨c, l⟩, [], false) := by
    have e1 : spelt ⟨c, l⟩ = be 4 c ++ (be 4 l.length ++ (wrs l ++ [])) := by simp [spelt]
    rw [e1]
    simp only [rdRec, tk_be4]
    rw [num_be4 (by omega) (by omega), num_be4 (by omega) (by omega), Int.toNat_natCast, rdWs_wrs h'.2]
  simp only [take, e, h]
  simp

theorem okR_len {r : Record} (h : okR r = true) : (spelt r).length ≤ 3000 ∧ 8 ≤ (spelt r).length := by
  simp only [okR, Bool.and_eq_true, decide_eq_true_eq, List.all_eq_true] at h
  have : ∀ l : List Write, (∀ w ∈ l, okW w = true) → (wrs l).length ≤ l.length * 36 := by
    intro l
    induction l with
    | nil => intro _; simp [wrs]
    | cons w l ih =>
      intro hw
      have h1 := hw w (by simp)
      simp only [okW, decide_eq_true_eq] at h1
      have h2 := ih fun x hx => hw x (List.mem_cons_of_mem _ hx)
      have h3 : (wrs (w :: l)).length = (wr w).length + (wrs l).length := by simp [wrs]
      have h4 : (wr w).length = 4 + w.Key.length + w.Value.length := by simp [wr, be_length]; omega
      rw [h3, List.length_cons]; omega
  have h1 := this r.Writes h.2
  have h2 : (spelt r).length = 8 + (wrs r.Writes).length := by simp [spelt, be_length]; omega
  omega
theorem take_ok {s : List UInt8} {r : Record} (h : take s = some r) : okR r = true := by
  simp only [take] at h
  split at h
  · cases h
  · rename_i hn
    simp only [not_or, Bool.not_eq_false] at hn
    cases h
    exact hn.2.2

/-! ### sectors -/
def sec (run n : Int) (i : Nat) (last : Bool) (p : List UInt8) : List UInt8 :=
  be 4 run ++ be 4 n ++ [byt (i / 256), byt i, (if last then 1 else 0), byt p.length] ++ p ++ List.replicate (20 - p.length) 0
def cnt (s : List UInt8) : Nat := (s.length + 19) / 20
def piece (s : List UInt8) (i : Nat) : List UInt8 := (s.drop (20 * i)).take 20
def cutK (run n : Int) (s : List UInt8) (k : Nat) : List (List UInt8) := (List.range k).map fun i => sec run n i (decide (i + 1 = cnt s)) (piece s i)
def cuts (run n : Int) (s : List UInt8) : List (List UInt8) := cutK run n s (cnt s)
theorem cutK_succ (run n : Int) (s : List UInt8) (k : Nat) : cutK run n s (k + 1) = cutK run n s k ++ [sec run n k (decide (k + 1 = cnt s)) (piece s k)] := by
  simp [cutK, List.range_succ]
theorem cuts_len (run n : Int) (s : List UInt8) : (cuts run n s).length = cnt s := by simp [cuts, cutK]
theorem cuts_get {run n : Int} {s : List UInt8} {i : Nat} (h : i < cnt s) : (cuts run n s)[i]? = some (sec run n i (decide (i + 1 = cnt s)) (piece s i)) := by
  simp [cuts, cutK, h]
theorem piece_len (s : List UInt8) (i : Nat) : (piece s i).length ≤ 20 := by simp [piece]; omega
theorem sec_len {run n : Int} {i : Nat} {b : Bool} {p : List UInt8} (h : p.length ≤ 20) : (sec run n i b p).length = 32 := by
  simp [sec, be_length]; omega
theorem cuts_32 {run n : Int} {s : List UInt8} : ∀ x ∈ cuts run n s, x.length = 32 := by
  intro x hx
  simp only [cuts, cutK, List.mem_map] at hx
  obtain ⟨i, _, rfl⟩ := hx
  exact sec_len (piece_len s i)
theorem sec3 {run n : Int} {i : Nat} {b : Bool} {p : List UInt8} : (sec run n i b p)[3]? = some (byt run) := by simp [sec, be4]
theorem sec7 {run n : Int} {i : Nat} {b : Bool} {p : List UInt8} : (sec run n i b p)[7]? = some (byt n) := by simp [sec, be4]
theorem sec9 {run n : Int} {i : Nat} {b : Bool} {p : List UInt8} : (sec run n i b p)[9]? = some (byt i) := by simp [sec, be4]
theorem sec10 {run n : Int} {i : Nat} {b : Bool} {p : List UInt8} : (sec run n i b p)[10]? = some (if b then 1 else 0) := by simp [sec, be4]
theorem sec11 {run n : Int} {i : Nat} {b : Bool} {p : List UInt8} : (sec run n i b p)[11]? = some (byt p.length) := by simp [sec, be4]
theorem sec12 {run n : Int} {i : Nat} {b : Bool} {p : List UInt8} : ((sec run n i b p).drop 12).take p.length = p := by simp [sec, be4]
theorem byt_inj {a b : Int} (h : byt a = byt b) : a % 256 = b % 256 := by rw [← byt_toNat, ← byt_toNat, h]
theorem byt_len {p : List UInt8} (h : p.length ≤ 20) : (byt p.length).toNat = p.length := by
  have := byt_toNat p.length; omega

/-! ### reading sectors -/
def whole (run n : Int) (L : List (List UInt8)) : List (List UInt8) → Nat → List UInt8 → Record × Nat
  | [], _, _ => (⟨0, []⟩, 0)
  | s :: ss, i, b =>
    if s.length ≠ 32 then (⟨0, []⟩, 0) else if 20 < (s[11]?.getD 0).toNat then (⟨0, []⟩, 0) else
    if s[10]?.getD 0 = 0 then whole run n L ss (i + 1) (b ++ (s.drop 12).take (s[11]?.getD 0).toNat) else
    match take (b ++ (s.drop 12).take (s[11]?.getD 0).toNat) with
    | some r => if cuts run n (spelt r) = L.take (i + 1) then (r, i + 1) else (⟨0, []⟩, 0)
    | none => (⟨0, []⟩, 0)
def whole1 (run n : Int) (L : List (List UInt8)) : Record × Nat := whole run n L L 0 []
theorem whole_le (run n : Int) (L : List (List UInt8)) : ∀ (l : List (List UInt8)) (i : Nat) (b : List UInt8), (whole run n L l i b).2 ≤ i + l.length
  | [], i, b => by simp [whole]
  | s :: ss, i, b => by
    unfold whole
    have := whole_le run n L ss (i + 1) (b ++ (s.drop 12).take (s[11]?.getD 0).toNat)
    rw [List.length_cons]
    split
    · simp
    split
    · simp
    split
    · omega
    split
    · split <;> simp
    · simp
theorem whole1_le (run n : Int) (L : List (List UInt8)) : (whole1 run n L).2 ≤ L.length := by
  have := whole_le run n L L 0 []; unfold whole1; omega
theorem whole_sound {run n : Int} {L : List (List UInt8)} {r : Record} {k : Nat} : ∀ {l : List (List UInt8)} {i : Nat} {b : List UInt8}, whole run n L l i b = (r, k) → k ≠ 0 → cuts run n (spelt r) = L.take k ∧ okR r = true
  | [], i, b, h, hk => by simp [whole] at h; omega
  | s :: ss, i, b, h, hk => by
    unfold whole at h
    split at h
    · cases h; exact absurd rfl hk
    split at h
    · cases h; exact absurd rfl hk
    split at h
    · exact whole_sound h hk
    split at h
    · rename_i r' ht
      split at h
      · rename_i hc; cases h; exact ⟨hc, take_ok ht⟩
      · cases h; exact absurd rfl hk
    · cases h; exact absurd rfl hk
theorem cnt_pos {r : Record} (h : okR r = true) : 0 < cnt (spelt r) ∧ cnt (spelt r) ≤ 151 := by
  have := okR_len h; unfold cnt; omega
theorem whole1_none {run n : Int} {L : List (List UInt8)} (h : ∀ (s : List UInt8) (k : Nat), 0 < cnt s → k = cnt s → k ≤ L.length → cuts run n s = L.take k → False) : (whole1 run n L).2 = 0 := by
  obtain ⟨⟨r, k⟩, hw⟩ : ∃ x, whole1 run n L = x := ⟨_, rfl⟩
  have hle := whole1_le run n L
  rw [hw] at hle ⊢
  refine Classical.byContradiction fun hk => ?_
  obtain ⟨hc, hr⟩ := whole_sound hw hk
  have h1 := congrArg List.length hc
  simp only at hle
  rw [cuts_len, List.length_take, Nat.min_eq_left hle] at h1
  exact h _ k (cnt_pos hr).1 h1.symm hle hc
theorem whole_cut {run n : Int} {r : Record} {S : List (List UInt8)} (hr : okR r = true) : ∀ (d i : Nat), i + d + 1 = cnt (spelt r) → whole run n (cuts run n (spelt r) ++ S) ((cuts run n (spelt r) ++ S).drop i) i ((spelt r).take (20 * i)) = (r, cnt (spelt r))
  | d, i, hd => by
    obtain ⟨s, hs⟩ : ∃ s, spelt r = s := ⟨_, rfl⟩
    have ht := take_spelt hr
    have ih := fun d' (h : d = d' + 1) => whole_cut (run := run) (n := n) (S := S) hr d' (i + 1) (by omega)
    rw [hs] at hd ht ih ⊢
    have hi : i < cnt s := by omega
    have hil : i < (cuts run n s ++ S).length := by rw [List.length_append, cuts_len]; omega
    have hg : (cuts run n s ++ S)[i] = sec run n i (decide (i + 1 = cnt s)) (piece s i) := by
      have := cuts_get (run := run) (n := n) hi
      rw [← List.getElem?_append_left (l₂ := S) (by rw [cuts_len]; exact hi), List.getElem?_eq_getElem hil] at this
      exact Option.some.inj this
    have hp := piece_len s i
    have hpt : s.take (20 * i) ++ piece s i = s.take (20 * (i + 1)) := by
      rw [piece, show 20 * (i + 1) = 20 * i + 20 by omega, List.take_add]
    rw [List.drop_eq_getElem_cons hil, hg, whole, if_neg (by rw [sec_len hp]; simp), sec11, Option.getD_some, byt_len hp, if_neg (by omega), sec10, Option.getD_some, sec12, hpt]
    by_cases hl : i + 1 = cnt s
    · have e : s.take (20 * (i + 1)) = s := List.take_of_length_le (by unfold cnt at hl; omega)
      simp only [hl, decide_true, if_true]
      rw [if_neg (by decide)]
      rw [hl] at e
      rw [e, ht]
      simp only
      rw [hs, if_pos (by rw [← cuts_len run n s, List.take_left])]
    · rw [decide_eq_false hl]
      simp only [Bool.false_eq_true, if_false, if_true]
      obtain ⟨d', rfl⟩ : ∃ d', d = d' + 1 := ⟨d - 1, by omega⟩
      exact ih d' rfl
theorem whole1_cut {run n : Int} {r : Record} {S : List (List UInt8)} (hr : okR r = true) : whole1 run n (cuts run n (spelt r) ++ S) = (r, cnt (spelt r)) := by
  have := whole_cut (run := run) (n := n) (S := S) hr (cnt (spelt r) - 1) 0 (by have := (cnt_pos hr).1; omega)
  simpa [whole1] using this

/-- Record by record. -/
def runF (run : Int) (L : List (List UInt8)) : Nat → Int → Nat → List Record × Nat
  | 0, _, m => ([], m)
  | j + 1, n, m => if 1073741824 < n then ([], m) else
    let w := whole1 run n (L.drop m)
    if w.2 = 0 then ([], m) else (w.1 :: (runF run L j (n + 1) (m + w.2)).1, (runF run L j (n + 1) (m + w.2)).2)
def rd (run n : Int) (L : List (List UInt8)) : List Record × Nat := runF run L (L.length + 1) n 0
theorem runF_le (run : Int) (L : List (List UInt8)) : ∀ (j : Nat) (n : Int) (m : Nat), m ≤ (runF run L j n m).2
  | 0, n, m => Nat.le_refl _
  | j + 1, n, m => by
    unfold runF
    split
    · simp
    dsimp only
    split
    · simp
    · have := runF_le run L j (n + 1) (m + (whole1 run n (L.drop m)).2); simp only; omega
theorem runF_ub (run : Int) (L : List (List UInt8)) : ∀ (j : Nat) (n : Int) (m : Nat), m ≤ L.length → (runF run L j n m).2 ≤ L.length
  | 0, n, m, h => h
  | j + 1, n, m, h => by
    unfold runF
    split
    · exact h
    dsimp only
    split
    · exact h
    · have hle := whole1_le run n (L.drop m)
      rw [List.length_drop] at hle
      exact runF_ub run L j (n + 1) (m + (whole1 run n (L.drop m)).2) (by omega)
theorem rd_le (run n : Int) (L : List (List UInt8)) : (rd run n L).2 ≤ L.length := runF_ub run L _ n 0 (Nat.zero_le _)
theorem rd_none {run n : Int} {L : List (List UInt8)} (h : (whole1 run n L).2 = 0) : rd run n L = ([], 0) := by
  simp only [rd, runF, List.drop_zero, h]
  simp
theorem rd_cut {run n : Int} {r : Record} {S : List (List UInt8)} (hr : okR r = true) (hn : n ≤ 1073741824) : ∃ x k, rd run n (cuts run n (spelt r) ++ S) = (r :: x, k) ∧ cnt (spelt r) ≤ k := by
  have h0 := (cnt_pos hr).1
  have h1 : rd run n (cuts run n (spelt r) ++ S) = (r :: (runF run (cuts run n (spelt r) ++ S) (cuts run n (spelt r) ++ S).length (n + 1) (0 + cnt (spelt r))).1, (runF run (cuts run n (spelt r) ++ S) (cuts run n (spelt r) ++ S).length (n + 1) (0 + cnt (spelt r))).2) := by
    simp only [rd]
    rw [runF, if_neg (by omega)]
    simp only [List.drop_zero, whole1_cut hr]
    rw [if_neg (by omega)]
  refine ⟨_, _, h1, ?_⟩
  have := runF_le run (cuts run n (spelt r) ++ S) (cuts run n (spelt r) ++ S).length (n + 1) (0 + cnt (spelt r))
  omega

/-! ### none lies there -/
theorem none_run {run run' n n' : Int} {s : List UInt8} (h : run % 256 ≠ run' % 256 ∨ n % 256 ≠ n' % 256) : (whole1 run n (cuts run' n' s)).2 = 0 := by
  refine whole1_none fun t k h0 hk hl he => ?_
  rw [cuts_len] at hl
  have h1 := congrArg (·[0]?) he
  simp only [List.getElem?_take] at h1
  rw [if_pos (by omega), cuts_get h0, cuts_get (by omega)] at h1
  have h2 := Option.some.inj h1
  rcases h with h | h
  · have h3 := congrArg (·[3]?) h2; simp only [sec3] at h3; exact h (byt_inj (Option.some.inj h3))
  · have h3 := congrArg (·[7]?) h2; simp only [sec7] at h3; exact h (byt_inj (Option.some.inj h3))
theorem none_app {run n n' : Int} {s : List UInt8} {S : List (List UInt8)} (h0' : 0 < cnt s) (h : n % 256 ≠ n' % 256) : (whole1 run n (cuts run n' s ++ S)).2 = 0 := by
  refine whole1_none fun t k h0 hk hl he => ?_
  have h1 := congrArg (·[0]?) he
  simp only [List.getElem?_take] at h1
  rw [if_pos (by omega), cuts_get h0, List.getElem?_append_left (by rw [cuts_len]; exact h0'), cuts_get h0'] at h1
  have h2 := Option.some.inj h1
  have h3 := congrArg (·[7]?) h2; simp only [sec7] at h3; exact h (byt_inj (Option.some.inj h3))
theorem none_cut {run n : Int} {s : List UInt8} {k : Nat} (hk : k < cnt s) (h5 : cnt s ≤ 200) : (whole1 run n ((cuts run n s).take k ++ (cuts run n s).drop (k + 1))).2 = 0 := by
  refine whole1_none fun t j h0 hj hl he => ?_
  rw [List.length_append, List.length_take, List.length_drop, cuts_len] at hl
  have h1 := congrArg (·[j - 1]?) he
  simp only [List.getElem?_take] at h1
  rw [if_pos (by omega), cuts_get (by omega), List.getElem?_append] at h1
  rw [List.length_take, cuts_len] at h1
  split at h1
  · rw [List.getElem?_take, if_pos (by omega), cuts_get (by omega)] at h1
    have h2 := congrArg (·[10]?) (Option.some.inj h1)
    simp only [sec10] at h2
    rw [decide_eq_true (by omega), decide_eq_false (by omega)] at h2
    exact absurd h2 (by decide)
  · rw [List.getElem?_drop, cuts_get (by omega)] at h1
    have h2 := congrArg (·[9]?) (Option.some.inj h1)
    simp only [sec9] at h2
    have := byt_inj (Option.some.inj h2)
    omega
end Go.Mir.Try

/- Walks: a record's sectors. -/
set_option linter.unusedVariables false
set_option linter.unusedSimpArgs false
set_option maxRecDepth 100000
namespace Go.Mir.Try
open Go.Proofs Go.Mir.Q

theorem f64 {c : Int} (h0 : 0 ≤ c) (h1 : c ≤ 20) : Fun G 64 [.str (bs [0]), .int .i64 c] (.str (bs (List.replicate c.toNat 0)), []) := by
  refine ⟨1, ?_⟩
  show repGiven.2 _ = _
  simp only [repGiven]
  have hs : (bs [0]).size = 1 := rfl
  refine (if_pos ⟨h0, by rw [hs]; omega, by omega⟩).trans ?_
  have e : ∀ k : Nat, (List.replicate k (bs [0]).data.toList).flatten = List.replicate k 0 := by
    intro k
    induction k with
    | zero => rfl
    | succ k ih => rw [List.replicate_succ, List.flatten_cons, ih, List.replicate_succ]; rfl
  rw [e]

set_option maxHeartbeats 2000000 in
theorem f76 {n : Int}  : Fun G 76 [.int .i64 n] (.bool (decide (0 ≤ n ∧ n ≤ 1073741824)), []) := by
  refine Fun.of_run (g := g76) (pf := pf76) rfl rfl rfl rfl ?_
  by_cases h : 0 ≤ n <;> by_cases h' : n ≤ 1073741824 <;> simp (disch := first | assumption | ((try simp only [LEN, LEN2]); omega)) only [push_cast, Int.reduceToNat, Int.reduceEq, Int.reduceNe, Int.reduceLT, Int.reduceLE, Int.reduceAdd, Int.reduceSub, Int.reduceMul, Int.reduceNeg, Nat.reduceEqDiff, Nat.reduceBEq, Nat.reduceBNe, Nat.reduceAdd, Nat.reduceLeDiff, Nat.reduceLT, Nat.reduceMul, ↓reduceIte, reduceCtorEq, g76, pf76, b76, h, h']
theorem f76c {n : Int}  {g : VG} {F : Fn} {lk : Bool} {e : Env} {dst : Option Nat} {ops : List Ins} {keep : Option (List Nat)} {K : List Fr} : CallC G g F 76 [.int .i64 n] lk e dst ops keep K = ThenL G g F (if lk && !(T.noSl (.bool (decide (0 ≤ n ∧ n ≤ 1073741824)))) then none else e.put g.un dst (.bool (decide (0 ≤ n ∧ n ≤ 1073741824)))) ops keep K := callC_eq (f76 )
attribute [push_cast] f76c

set_option maxHeartbeats 2000000 in
theorem f114 {a b : List (List UInt8)} (ha : a.length ≤ 1000000000) (hb : b.length ≤ 1000000000) : Fun G 114 [.one (.d (.sl (a.map eS))), .one (.d (.sl (b.map eS)))] (.bool (decide (a = b)), []) := by
  refine Fun.of_run (g := g114) (pf := pf114) rfl rfl rfl rfl ?_
  simp (disch := first | assumption | ((try simp only [LEN, LEN2]); omega)) only [push_cast, Int.reduceToNat, Int.reduceEq, Int.reduceNe, Int.reduceLT, Int.reduceLE, Int.reduceAdd, Int.reduceSub, Int.reduceMul, Int.reduceNeg, Nat.reduceEqDiff, Nat.reduceBEq, Nat.reduceBNe, Nat.reduceAdd, Nat.reduceLeDiff, Nat.reduceLT, Nat.reduceMul, ↓reduceIte, reduceCtorEq, g114, pf114, b114]
  refine If.dec (fun h => ?_) (fun h => ?_)
  · have : a ≠ b := fun e => h (by rw [e])
    simp (disch := first | assumption | ((try simp only [LEN, LEN2]); omega)) only [push_cast, Int.reduceToNat, Int.reduceEq, Int.reduceNe, Int.reduceLT, Int.reduceLE, Int.reduceAdd, Int.reduceSub, Int.reduceMul, Int.reduceNeg, Nat.reduceEqDiff, Nat.reduceBEq, Nat.reduceBNe, Nat.reduceAdd, Nat.reduceLeDiff, Nat.reduceLT, Nat.reduceMul, ↓reduceIte, reduceCtorEq, g114, pf114, b114]
    simp [this]
  simp (disch := first | assumption | ((try simp only [LEN, LEN2]); omega)) only [push_cast, Int.reduceToNat, Int.reduceEq, Int.reduceNe, Int.reduceLT, Int.reduceLE, Int.reduceAdd, Int.reduceSub, Int.reduceMul, Int.reduceNeg, Nat.reduceEqDiff, Nat.reduceBEq, Nat.reduceBNe, Nat.reduceAdd, Nat.reduceLeDiff, Nat.reduceLT, Nat.reduceMul, ↓reduceIte, reduceCtorEq, g114, pf114, b114]
  have hl : a.length = b.length := by omega
  refine run_loop' (fun i : Nat => [(0, T.one (.d (.sl (a.map eS)))), (1, T.one (.d (.sl (b.map eS)))), (12, T.int .i64 a.length), (13, T.int .i64 i)]) (fun i => i ≤ a.length ∧ a.take i = b.take i) (fun i => a.length - i) 0 rfl ⟨Nat.zero_le _, by simp⟩ (fun i hi => ?_)
  obtain ⟨hi, ht⟩ := hi
  simp (disch := first | assumption | ((try simp only [LEN, LEN2]); omega)) only [push_cast, Int.reduceToNat, Int.reduceEq, Int.reduceNe, Int.reduceLT, Int.reduceLE, Int.reduceAdd, Int.reduceSub, Int.reduceMul, Int.reduceNeg, Nat.reduceEqDiff, Nat.reduceBEq, Nat.reduceBNe, Nat.reduceAdd, Nat.reduceLeDiff, Nat.reduceLT, Nat.reduceMul, ↓reduceIte, reduceCtorEq, g114, pf114, b114]
  refine If.dec (fun h => ?_) (fun h => ?_)
  · replace h : i < a.length := by omega
    have h' : i < b.length := by omega
    by_cases he : a[i] = b[i]
    · simp (disch := first | assumption | ((try simp only [LEN, LEN2]); omega)) only [push_cast, Int.reduceToNat, Int.reduceEq, Int.reduceNe, Int.reduceLT, Int.reduceLE, Int.reduceAdd, Int.reduceSub, Int.reduceMul, Int.reduceNeg, Nat.reduceEqDiff, Nat.reduceBEq, Nat.reduceBNe, Nat.reduceAdd, Nat.reduceLeDiff, Nat.reduceLT, Nat.reduceMul, ↓reduceIte, reduceCtorEq, g114, pf114, b114, eS, he]
      refine ⟨i + 1, rfl, ⟨by omega, ?_⟩, by omega⟩
      rw [List.take_succ_eq_append_getElem h, List.take_succ_eq_append_getElem h', ht, he]
    · have hne : a ≠ b := fun e => he (by subst e; rfl)
      simp (disch := first | assumption | ((try simp only [LEN, LEN2]); omega)) only [push_cast, Int.reduceToNat, Int.reduceEq, Int.reduceNe, Int.reduceLT, Int.reduceLE, Int.reduceAdd, Int.reduceSub, Int.reduceMul, Int.reduceNeg, Nat.reduceEqDiff, Nat.reduceBEq, Nat.reduceBNe, Nat.reduceAdd, Nat.reduceLeDiff, Nat.reduceLT, Nat.reduceMul, ↓reduceIte, reduceCtorEq, g114, pf114, b114, eS, he]
      simp [hne]
  · obtain rfl : i = a.length := by omega
    have : a = b := by rw [List.take_length] at ht; rw [ht, hl, List.take_length]
    simp (disch := first | assumption | ((try simp only [LEN, LEN2]); omega)) only [push_cast, Int.reduceToNat, Int.reduceEq, Int.reduceNe, Int.reduceLT, Int.reduceLE, Int.reduceAdd, Int.reduceSub, Int.reduceMul, Int.reduceNeg, Nat.reduceEqDiff, Nat.reduceBEq, Nat.reduceBNe, Nat.reduceAdd, Nat.reduceLeDiff, Nat.reduceLT, Nat.reduceMul, ↓reduceIte, reduceCtorEq, g114, pf114, b114]
    simp [this]
theorem f114c {a b : List (List UInt8)} (ha : a.length ≤ 1000000000) (hb : b.length ≤ 1000000000) {g : VG} {F : Fn} {lk : Bool} {e : Env} {dst : Option Nat} {ops : List Ins} {keep : Option (List Nat)} {K : List Fr} : CallC G g F 114 [.one (.d (.sl (a.map eS))), .one (.d (.sl (b.map eS)))] lk e dst ops keep K = ThenL G g F (if lk && !(T.noSl (.bool (decide (a = b)))) then none else e.put g.un dst (.bool (decide (a = b)))) ops keep K := callC_eq (f114 ha hb)
attribute [push_cast] f114c

set_option maxHeartbeats 2000000 in
theorem f42 {a b : List Record} (ha : a.length ≤ 1000000000) (hb : b.length ≤ 1000000000) (ha' : ∀ r ∈ a, r.Writes.length ≤ 1000000000) (hb' : ∀ r ∈ b, r.Writes.length ≤ 1000000000) : Fun G 42 [.one (.d (.sl (a.map eR))), .one (.d (.sl (b.map eR)))] (.bool (decide (a = b)), []) := by
  refine Fun.of_run (g := g42) (pf := pf42) rfl rfl rfl rfl ?_
  simp (disch := first | assumption | ((try simp only [LEN, LEN2]); omega)) only [push_cast, Int.reduceToNat, Int.reduceEq, Int.reduceNe, Int.reduceLT, Int.reduceLE, Int.reduceAdd, Int.reduceSub, Int.reduceMul, Int.reduceNeg, Nat.reduceEqDiff, Nat.reduceBEq, Nat.reduceBNe, Nat.reduceAdd, Nat.reduceLeDiff, Nat.reduceLT, Nat.reduceMul, ↓reduceIte, reduceCtorEq, g42, pf42, b42]
  refine If.dec (fun h => ?_) (fun h => ?_)
  · have : a ≠ b := fun e => h (by rw [e])
    simp (disch := first | assumption | ((try simp only [LEN, LEN2]); omega)) only [push_cast, Int.reduceToNat, Int.reduceEq, Int.reduceNe, Int.reduceLT, Int.reduceLE, Int.reduceAdd, Int.reduceSub, Int.reduceMul, Int.reduceNeg, Nat.reduceEqDiff, Nat.reduceBEq, Nat.reduceBNe, Nat.reduceAdd, Nat.reduceLeDiff, Nat.reduceLT, Nat.reduceMul, ↓reduceIte, reduceCtorEq, g42, pf42, b42]
    simp [this]
  simp (disch := first | assumption | ((try simp only [LEN, LEN2]); omega)) only [push_cast, Int.reduceToNat, Int.reduceEq, Int.reduceNe, Int.reduceLT, Int.reduceLE, Int.reduceAdd, Int.reduceSub, Int.reduceMul, Int.reduceNeg, Nat.reduceEqDiff, Nat.reduceBEq, Nat.reduceBNe, Nat.reduceAdd, Nat.reduceLeDiff, Nat.reduceLT, Nat.reduceMul, ↓reduceIte, reduceCtorEq, g42, pf42, b42]
  have hl : a.length = b.length := by omega
  refine run_loop' (fun i : Nat => [(0, T.one (.d (.sl (a.map eR)))), (1, T.one (.d (.sl (b.map eR)))), (5, T.int .i64 i)]) (fun i => i ≤ a.length ∧ a.take i = b.take i) (fun i => a.length - i) 0 rfl ⟨Nat.zero_le _, by simp⟩ (fun i hi => ?_)
  obtain ⟨hi, ht⟩ := hi
  simp (disch := first | assumption | ((try simp only [LEN, LEN2]); omega)) only [push_cast, Int.reduceToNat, Int.reduceEq, Int.reduceNe, Int.reduceLT, Int.reduceLE, Int.reduceAdd, Int.reduceSub, Int.reduceMul, Int.reduceNeg, Nat.reduceEqDiff, Nat.reduceBEq, Nat.reduceBNe, Nat.reduceAdd, Nat.reduceLeDiff, Nat.reduceLT, Nat.reduceMul, ↓reduceIte, reduceCtorEq, g42, pf42, b42]
  refine If.dec (fun h => ?_) (fun h => ?_)
  · replace h : i < a.length := by omega
    have h' : i < b.length := by omega
    have h1 := ha' a[i] (List.getElem_mem h)
    have h2 := hb' b[i] (List.getElem_mem h')
    by_cases he : a[i].Commit = b[i].Commit ∧ a[i].Writes = b[i].Writes
    · simp (disch := first | assumption | ((try simp only [LEN, LEN2]); omega)) only [push_cast, Int.reduceToNat, Int.reduceEq, Int.reduceNe, Int.reduceLT, Int.reduceLE, Int.reduceAdd, Int.reduceSub, Int.reduceMul, Int.reduceNeg, Nat.reduceEqDiff, Nat.reduceBEq, Nat.reduceBNe, Nat.reduceAdd, Nat.reduceLeDiff, Nat.reduceLT, Nat.reduceMul, ↓reduceIte, reduceCtorEq, g42, pf42, b42, eR, he]
      refine ⟨i + 1, rfl, ⟨by omega, ?_⟩, by omega⟩
      rw [List.take_succ_eq_append_getElem h, List.take_succ_eq_append_getElem h', ht, show a[i] = b[i] by cases hx : a[i]; cases hy : b[i]; rw [hx, hy] at he; simpa using he]
    · have hne : a ≠ b := fun e => he (by subst e; exact ⟨rfl, rfl⟩)
      simp (disch := first | assumption | ((try simp only [LEN, LEN2]); omega)) only [push_cast, Int.reduceToNat, Int.reduceEq, Int.reduceNe, Int.reduceLT, Int.reduceLE, Int.reduceAdd, Int.reduceSub, Int.reduceMul, Int.reduceNeg, Nat.reduceEqDiff, Nat.reduceBEq, Nat.reduceBNe, Nat.reduceAdd, Nat.reduceLeDiff, Nat.reduceLT, Nat.reduceMul, ↓reduceIte, reduceCtorEq, g42, pf42, b42, eR, he]
      simp [hne]
  · obtain rfl : i = a.length := by omega
    have : a = b := by rw [List.take_length] at ht; rw [ht, hl, List.take_length]
    simp (disch := first | assumption | ((try simp only [LEN, LEN2]); omega)) only [push_cast, Int.reduceToNat, Int.reduceEq, Int.reduceNe, Int.reduceLT, Int.reduceLE, Int.reduceAdd, Int.reduceSub, Int.reduceMul, Int.reduceNeg, Nat.reduceEqDiff, Nat.reduceBEq, Nat.reduceBNe, Nat.reduceAdd, Nat.reduceLeDiff, Nat.reduceLT, Nat.reduceMul, ↓reduceIte, reduceCtorEq, g42, pf42, b42]
    simp [this]
theorem f42c {a b : List Record} (ha : a.length ≤ 1000000000) (hb : b.length ≤ 1000000000) (ha' : ∀ r ∈ a, r.Writes.length ≤ 1000000000) (hb' : ∀ r ∈ b, r.Writes.length ≤ 1000000000) {g : VG} {F : Fn} {lk : Bool} {e : Env} {dst : Option Nat} {ops : List Ins} {keep : Option (List Nat)} {K : List Fr} : CallC G g F 42 [.one (.d (.sl (a.map eR))), .one (.d (.sl (b.map eR)))] lk e dst ops keep K = ThenL G g F (if lk && !(T.noSl (.bool (decide (a = b)))) then none else e.put g.un dst (.bool (decide (a = b)))) ops keep K := callC_eq (f42 ha hb ha' hb')
attribute [push_cast] f42c

theorem foldB (x p : List UInt8) (a c d : Int) (b : Bool) : x.map oB ++ [[V.d (.sc (.int .u8 (a % 256)))], [V.d (.sc (.int .u8 (c % 256)))], [V.d (.sc (.int .u8 (if b = true then 1 else 0)))], [V.d (.sc (.int .u8 (d % 256)))]] ++ p.map oB = (x ++ [byt a, byt c, if b then 1 else 0, byt d] ++ p).map oB := by
  cases b <;> simp [oB_byt] <;> rfl
theorem foldS1 (l : List (List UInt8)) (x : List UInt8) : l.map oS ++ [[V.d (.sc (.string (bs x)))]] = (l ++ [x]).map oS := by simp [oS]

set_option maxHeartbeats 2000000 in
theorem f77 {n run num' : Int} {l : List Write} (hs : smW l) (hr : okR ⟨n, l⟩ = true) : Fun G 77 [.vs true [.d (.sc (.int .i64 n)), .d (.sl (l.map eW))], .int .i64 run, .int .i64 num'] (.one (.own 9 ((cuts run num' (spelt ⟨n, l⟩)).map oS)), []) := by
  refine Fun.of_run (g := g77) (pf := pf77) rfl rfl rfl rfl ?_
  have h64 : l.length ≤ 64 := by simp [okR] at hr; omega
  simp (disch := first | assumption | ((try simp only [LEN, LEN2]); omega)) only [push_cast, Int.reduceToNat, Int.reduceEq, Int.reduceNe, Int.reduceLT, Int.reduceLE, Int.reduceAdd, Int.reduceSub, Int.reduceMul, Int.reduceNeg, Nat.reduceEqDiff, Nat.reduceBEq, Nat.reduceBNe, Nat.reduceAdd, Nat.reduceLeDiff, Nat.reduceLT, Nat.reduceMul, ↓reduceIte, reduceCtorEq, g77, pf77, b77]
  obtain ⟨s, hsd⟩ : ∃ s, spelt ⟨n, l⟩ = s := ⟨_, rfl⟩
  obtain ⟨hl1, hl2⟩ := okR_len hr
  obtain ⟨hc1, hc2⟩ := cnt_pos hr
  rw [hsd] at hl1 hl2 hc1 hc2 ⊢
  refine run_loop' (fun i : Nat => [(1, T.int .i64 run), (2, T.int .i64 num'), (6, T.one (.own 9 ((cutK run num' s i).map oS))), (7, T.str (bs (s.drop (20 * i)))), (8, T.int .i64 i)]) (fun i => i ≤ cnt s) (fun i => cnt s - i) 0 rfl (Nat.zero_le _) (fun i hi => ?_)
  have hkl : (cutK run num' s i).length = i := by simp [cutK]
  have hf := @f83t [] run (by simp)
  simp only [List.map_nil] at hf
  by_cases h : i < cnt s
  · have hdr : (s.drop (20 * i)).drop (piece s i).length = s.drop (20 * (i + 1)) := by
      rw [List.drop_drop, piece, List.length_take, List.length_drop]
      by_cases h2 : 20 ≤ s.length - 20 * i
      · rw [Nat.min_eq_left h2]; rfl
      · rw [List.drop_of_length_le (by omega), List.drop_of_length_le (by omega)]
    have hb : decide (((piece s i).length : Int) = (s.drop (20 * i)).length) = decide (i + 1 = cnt s) := by
      apply decide_eq_decide.2
      unfold cnt at *
      simp only [piece, List.length_take, List.length_drop]
      omega
    have hm : (if ((s.drop (20 * i)).length : Int) < 20 then ((s.drop (20 * i)).length : Int) else 20) = (piece s i).length := by
      simp only [piece, List.length_take]
      split <;> omega
    have hp := piece_len s i
    have htk : (s.drop (20 * i)).take (piece s i).length = piece s i := by
      simp only [piece, List.length_take]
      by_cases h2 : 20 ≤ (s.drop (20 * i)).length
      · rw [Nat.min_eq_left h2]
      · rw [Nat.min_eq_right (by omega), List.take_of_length_le (Nat.le_refl _), List.take_of_length_le (by omega)]
    have hpd : (piece s i).length ≤ (s.drop (20 * i)).length := by simp only [piece, List.length_take]; omega
    have hdl : (s.drop (20 * i)).length ≤ 3000 := by rw [List.length_drop]; omega
    have hne : s.drop (20 * i) ≠ [] := by
      intro he
      have := congrArg List.length he
      simp [cnt] at this h
      omega
    have hr64 := @f64 (20 - (piece s i).length) (by omega) (by omega)
    have e20 : (20 - ((piece s i).length : Int)).toNat = 20 - (piece s i).length := by omega
    obtain ⟨d, hd⟩ : ∃ d, s.drop (20 * i) = d := ⟨_, rfl⟩
    obtain ⟨p, hpp⟩ : ∃ p, piece s i = p := ⟨_, rfl⟩
    rw [hd, hpp] at hdr hb hm htk hpd
    rw [hd] at hdl hne ⊢
    rw [hpp] at hp hr64 e20
    simp (disch := first | assumption | ((try simp only [LEN, LEN2]); omega)) only [push_cast, Int.reduceToNat, Int.reduceEq, Int.reduceNe, Int.reduceLT, Int.reduceLE, Int.reduceAdd, Int.reduceSub, Int.reduceMul, Int.reduceNeg, Nat.reduceEqDiff, Nat.reduceBEq, Nat.reduceBNe, Nat.reduceAdd, Nat.reduceLeDiff, Nat.reduceLT, Nat.reduceMul, ↓reduceIte, reduceCtorEq, g77, pf77, b77, hne, hf, hm, hb, htk, foldB]
    simp (disch := first | assumption | ((try simp only [LEN, LEN2]); omega)) only [push_cast, Int.reduceToNat, Int.reduceEq, Int.reduceNe, Int.reduceLT, Int.reduceLE, Int.reduceAdd, Int.reduceSub, Int.reduceMul, Int.reduceNeg, Nat.reduceEqDiff, Nat.reduceBEq, Nat.reduceBNe, Nat.reduceAdd, Nat.reduceLeDiff, Nat.reduceLT, Nat.reduceMul, ↓reduceIte, reduceCtorEq, g77, pf77, b77, callC_eq hr64, foldS1, hdr, e20]
    refine ⟨i + 1, ?_, by omega, by omega⟩
    rw [cutK_succ, hpp]
    simp [sec, hdr]
  · obtain rfl : i = cnt s := by omega
    have hz : s.drop (20 * cnt s) = [] := List.drop_of_length_le (by unfold cnt; omega)
    have hz0 : ((cnt s : Int) = 0) = False := by simp; omega
    simp (disch := first | assumption | ((try simp only [LEN, LEN2]); omega)) only [push_cast, Int.reduceToNat, Int.reduceEq, Int.reduceNe, Int.reduceLT, Int.reduceLE, Int.reduceAdd, Int.reduceSub, Int.reduceMul, Int.reduceNeg, Nat.reduceEqDiff, Nat.reduceBEq, Nat.reduceBNe, Nat.reduceAdd, Nat.reduceLeDiff, Nat.reduceLT, Nat.reduceMul, ↓reduceIte, reduceCtorEq, g77, pf77, b77, hz, hz0]
    rfl
theorem f77c {n run num' : Int} {l : List Write} (hs : smW l) (hr : okR ⟨n, l⟩ = true) {g : VG} {F : Fn} {lk : Bool} {e : Env} {dst : Option Nat} {ops : List Ins} {keep : Option (List Nat)} {K : List Fr} : CallC G g F 77 [.vs true [.d (.sc (.int .i64 n)), .d (.sl (l.map eW))], .int .i64 run, .int .i64 num'] lk e dst ops keep K = ThenL G g F (if lk && !(T.noSl (.one (.own 9 ((cuts run num' (spelt ⟨n, l⟩)).map oS)))) then none else e.put g.un dst (.one (.own 9 ((cuts run num' (spelt ⟨n, l⟩)).map oS)))) ops keep K := callC_eq (f77 hs hr)
attribute [push_cast] f77c

end Go.Mir.Try

/- Walks: sectors, read. -/
set_option linter.unusedVariables false
set_option linter.unusedSimpArgs false
set_option maxRecDepth 100000
namespace Go.Mir.Try
open Go.Proofs Go.Mir.Q

def okQ (run n : Int) : Bool := decide (0 ≤ run ∧ run ≤ 1073741824) && decide (0 ≤ n ∧ n ≤ 1073741824)
def okS (r : Record) (run n : Int) : Bool := okR r && okQ run n

set_option maxHeartbeats 2000000 in
theorem f40 {n run nn : Int} {l : List Write} (hs : smW l) : Fun G 40 [.vs true [.d (.sc (.int .i64 n)), .d (.sl (l.map eW))], .int .i64 run, .int .i64 nn] (.tup [(false, [.own 9 ((if okS ⟨n, l⟩ run nn then cuts run nn (spelt ⟨n, l⟩) else []).map oS)]), (false, [.d (.sc (.int .i64 (if okS ⟨n, l⟩ run nn then 0 else 1)))])], []) := by
  refine Fun.of_run (g := g40) (pf := pf40) rfl rfl rfl rfl ?_
  have hl := hs.1
  by_cases hr : okR ⟨n, l⟩ = true
  · by_cases h1 : 0 ≤ run ∧ run ≤ 1073741824
    · by_cases h2 : 0 ≤ nn ∧ nn ≤ 1073741824
      · have e : okS ⟨n, l⟩ run nn = true := by simp [okS, okQ, hr, h1, h2]
        simp (disch := first | assumption | ((try simp only [LEN, LEN2]); omega)) only [push_cast, Int.reduceToNat, Int.reduceEq, Int.reduceNe, Int.reduceLT, Int.reduceLE, Int.reduceAdd, Int.reduceSub, Int.reduceMul, Int.reduceNeg, Nat.reduceEqDiff, Nat.reduceBEq, Nat.reduceBNe, Nat.reduceAdd, Nat.reduceLeDiff, Nat.reduceLT, Nat.reduceMul, ↓reduceIte, reduceCtorEq, g40, pf40, b40, hr, h1, h2, e]
      · have e : okS ⟨n, l⟩ run nn = false := by simp only [okS, okQ, h2]; simp
        simp (disch := first | assumption | ((try simp only [LEN, LEN2]); omega)) only [push_cast, Int.reduceToNat, Int.reduceEq, Int.reduceNe, Int.reduceLT, Int.reduceLE, Int.reduceAdd, Int.reduceSub, Int.reduceMul, Int.reduceNeg, Nat.reduceEqDiff, Nat.reduceBEq, Nat.reduceBNe, Nat.reduceAdd, Nat.reduceLeDiff, Nat.reduceLT, Nat.reduceMul, ↓reduceIte, reduceCtorEq, g40, pf40, b40, hr, h1, h2, e]
    · have e : okS ⟨n, l⟩ run nn = false := by simp only [okS, okQ, h1]; simp
      simp (disch := first | assumption | ((try simp only [LEN, LEN2]); omega)) only [push_cast, Int.reduceToNat, Int.reduceEq, Int.reduceNe, Int.reduceLT, Int.reduceLE, Int.reduceAdd, Int.reduceSub, Int.reduceMul, Int.reduceNeg, Nat.reduceEqDiff, Nat.reduceBEq, Nat.reduceBNe, Nat.reduceAdd, Nat.reduceLeDiff, Nat.reduceLT, Nat.reduceMul, ↓reduceIte, reduceCtorEq, g40, pf40, b40, hr, h1, e]
  · rw [Bool.not_eq_true] at hr
    have e : okS ⟨n, l⟩ run nn = false := by simp [okS, hr]
    simp (disch := first | assumption | ((try simp only [LEN, LEN2]); omega)) only [push_cast, Int.reduceToNat, Int.reduceEq, Int.reduceNe, Int.reduceLT, Int.reduceLE, Int.reduceAdd, Int.reduceSub, Int.reduceMul, Int.reduceNeg, Nat.reduceEqDiff, Nat.reduceBEq, Nat.reduceBNe, Nat.reduceAdd, Nat.reduceLeDiff, Nat.reduceLT, Nat.reduceMul, ↓reduceIte, reduceCtorEq, g40, pf40, b40, hr, e]
theorem f40c {n run nn : Int} {l : List Write} (hs : smW l) {g : VG} {F : Fn} {lk : Bool} {e : Env} {dst : Option Nat} {ops : List Ins} {keep : Option (List Nat)} {K : List Fr} : CallC G g F 40 [.vs true [.d (.sc (.int .i64 n)), .d (.sl (l.map eW))], .int .i64 run, .int .i64 nn] lk e dst ops keep K = ThenL G g F (if lk && !(T.noSl (.tup [(false, [.own 9 ((if okS ⟨n, l⟩ run nn then cuts run nn (spelt ⟨n, l⟩) else []).map oS)]), (false, [.d (.sc (.int .i64 (if okS ⟨n, l⟩ run nn then 0 else 1)))])])) then none else e.put g.un dst (.tup [(false, [.own 9 ((if okS ⟨n, l⟩ run nn then cuts run nn (spelt ⟨n, l⟩) else []).map oS)]), (false, [.d (.sc (.int .i64 (if okS ⟨n, l⟩ run nn then 0 else 1)))])])) ops keep K := callC_eq (f40 hs)
attribute [push_cast] f40c

theorem okR_smW {r : Record} (h : okR r = true) : smW r.Writes := by
  simp only [okR, Bool.and_eq_true, decide_eq_true_eq, List.all_eq_true] at h
  refine ⟨by omega, fun w hw => ?_⟩
  have := h.2 w hw
  simp only [okW, decide_eq_true_eq] at this
  omega
theorem eS_len (L : List (List UInt8)) : (L.map eS).length = L.length := List.length_map ..

set_option maxHeartbeats 2000000 in
theorem f102 {run nn : Int} {L : List (List UInt8)} (hL : L.length ≤ 4000000) : Fun G 102 [.one (.d (.sl (L.map eS))), .int .i64 run, .int .i64 nn] (.tup [(true, [.d (.sc (.int .i64 (whole1 run nn L).1.Commit)), .own 84 ((whole1 run nn L).1.Writes.map oW)]), (false, [.d (.sc (.int .i64 (whole1 run nn L).2))])], []) := by
  refine Fun.of_run (g := g102) (pf := pf102) rfl rfl rfl rfl ?_
  simp (disch := first | assumption | ((try simp only [LEN, LEN2]); omega)) only [push_cast, Int.reduceToNat, Int.reduceEq, Int.reduceNe, Int.reduceLT, Int.reduceLE, Int.reduceAdd, Int.reduceSub, Int.reduceMul, Int.reduceNeg, Nat.reduceEqDiff, Nat.reduceBEq, Nat.reduceBNe, Nat.reduceAdd, Nat.reduceLeDiff, Nat.reduceLT, Nat.reduceMul, ↓reduceIte, reduceCtorEq, g102, pf102, b102]
  obtain ⟨W, hW⟩ : ∃ W, whole1 run nn L = W := ⟨_, rfl⟩
  rw [hW]
  refine run_loop' (fun x : Nat × List UInt8 => [(0, T.one (.d (.sl (L.map eS)))), (1, T.int .i64 run), (2, T.int .i64 nn), (6, T.one (.box [.d (.sc (.int .i64 0)), .own 84 []])), (8, T.str (bs x.2)), (14, T.one (.d (.sl (L.map eS)))), (15, T.int .i64 L.length), (16, T.int .i64 x.1)])
    (fun x => x.1 ≤ L.length ∧ x.2.length ≤ 20 * x.1 ∧ W = whole run nn L (L.drop x.1) x.1 x.2) (fun x => L.length - x.1) (0, []) rfl ⟨Nat.zero_le _, by simp, hW.symm⟩ (fun ⟨i, b⟩ hi => ?_)
  obtain ⟨hi, hb, hw⟩ := hi
  simp only at hi hb hw
  by_cases h : (i : Int) < L.length
  · have hi' : i < L.length := by omega
    rw [List.drop_eq_getElem_cons hi', whole] at hw
    obtain ⟨s, hs⟩ : ∃ s, L[i] = s := ⟨_, rfl⟩
    rw [hs] at hw
    by_cases h32 : s.length = 32
    · rw [if_neg (by omega)] at hw
      obtain ⟨k, hk⟩ : ∃ k, s[11] = k := ⟨_, rfl⟩
      obtain ⟨z, hz⟩ : ∃ z, s[10] = z := ⟨_, rfl⟩
      have hk' : s[11]?.getD 0 = k := by rw [List.getElem?_eq_getElem (by omega), hk]; rfl
      have hz' : s[10]?.getD 0 = z := by rw [List.getElem?_eq_getElem (by omega), hz]; rfl
      rw [hk', hz'] at hw
      by_cases h20 : 20 < k.toNat
      · rw [if_pos h20] at hw
        have hI : ((20 : Int) < k.toNat) = True := by simp; omega
        simp (disch := first | assumption | ((try simp only [LEN, LEN2]); omega)) only [push_cast, Int.reduceToNat, Int.reduceEq, Int.reduceNe, Int.reduceLT, Int.reduceLE, Int.reduceAdd, Int.reduceSub, Int.reduceMul, Int.reduceNeg, Nat.reduceEqDiff, Nat.reduceBEq, Nat.reduceBNe, Nat.reduceAdd, Nat.reduceLeDiff, Nat.reduceLT, Nat.reduceMul, ↓reduceIte, reduceCtorEq, g102, pf102, b102, h, eS, hs, h32, hk, hI, hw]
      · rw [if_neg h20] at hw
        have hI : ((20 : Int) < k.toNat) = False := by simp; omega
        have hk20 : (12 + (k.toNat : Int)).toNat = 12 + k.toNat := by omega
        obtain ⟨p, hp⟩ : ∃ p, (s.drop 12).take k.toNat = p := ⟨_, rfl⟩
        have hpl : p.length ≤ 20 := by rw [← hp, List.length_take]; omega
        rw [hp] at hw
        have hp2 : (s.take (12 + k.toNat)).drop 12 = p := by rw [← hp, List.drop_take]; congr 1; omega
        by_cases h0 : z = 0
        · rw [if_pos h0] at hw
          have hz0 : ((z.toNat : Int) = 0) = True := by subst h0; simp
          simp (disch := first | assumption | ((try simp only [LEN, LEN2]); omega)) only [push_cast, Int.reduceToNat, Int.reduceEq, Int.reduceNe, Int.reduceLT, Int.reduceLE, Int.reduceAdd, Int.reduceSub, Int.reduceMul, Int.reduceNeg, Nat.reduceEqDiff, Nat.reduceBEq, Nat.reduceBNe, Nat.reduceAdd, Nat.reduceLeDiff, Nat.reduceLT, Nat.reduceMul, ↓reduceIte, reduceCtorEq, g102, pf102, b102, h, eS, hs, h32, hk, hI, hz, hz0, hk20, hp2]
          exact ⟨(i + 1, b ++ p), rfl, ⟨by simp only; omega, by simp only [List.length_append]; omega, hw⟩, by simp only; omega⟩
        · have hz0 : ((z.toNat : Int) = 0) = False := by
            simp only [eq_iff_iff, iff_false]
            intro hz0
            exact h0 (UInt8.toNat_inj.1 (by simpa using hz0))
          rw [if_neg h0] at hw
          have hbl : (b ++ p).length ≤ 100000000 := by rw [List.length_append]; omega
          cases ht : take (b ++ p) with
          | none =>
            rw [ht] at hw
            simp (disch := first | assumption | ((try simp only [LEN, LEN2]); omega)) only [push_cast, Int.reduceToNat, Int.reduceEq, Int.reduceNe, Int.reduceLT, Int.reduceLE, Int.reduceAdd, Int.reduceSub, Int.reduceMul, Int.reduceNeg, Nat.reduceEqDiff, Nat.reduceBEq, Nat.reduceBNe, Nat.reduceAdd, Nat.reduceLeDiff, Nat.reduceLT, Nat.reduceMul, ↓reduceIte, reduceCtorEq, g102, pf102, b102, h, eS, hs, h32, hk, hI, hz, hz0, hk20, hp2, ht, hw]
          | some r =>
            rw [ht] at hw
            simp only at hw
            have hr := take_ok ht
            have hws := okR_smW hr
            have hcl : (cuts run nn (spelt r)).length ≤ 1000000000 := by have := (cnt_pos hr).2; rw [cuts_len]; omega
            have htl : (L.take (i + 1)).length ≤ 1000000000 := by rw [List.length_take]; omega
            have ei : ((i : Int) + 1).toNat = i + 1 := by omega
            obtain ⟨c, ws⟩ := r
            simp only at hws
            by_cases hc : cuts run nn (spelt ⟨c, ws⟩) = L.take (i + 1)
            · rw [if_pos hc] at hw
              simp (disch := first | assumption | ((try simp only [LEN, LEN2]); omega)) only [push_cast, Int.reduceToNat, Int.reduceEq, Int.reduceNe, Int.reduceLT, Int.reduceLE, Int.reduceAdd, Int.reduceSub, Int.reduceMul, Int.reduceNeg, Nat.reduceEqDiff, Nat.reduceBEq, Nat.reduceBNe, Nat.reduceAdd, Nat.reduceLeDiff, Nat.reduceLT, Nat.reduceMul, ↓reduceIte, reduceCtorEq, g102, pf102, b102, h, hs, h32, hk, hI, hz, hz0, hk20, hp2, ht, hw, rc, eS, ei, hc]
              done
            · rw [if_neg hc] at hw
              simp (disch := first | assumption | ((try simp only [LEN, LEN2]); omega)) only [push_cast, Int.reduceToNat, Int.reduceEq, Int.reduceNe, Int.reduceLT, Int.reduceLE, Int.reduceAdd, Int.reduceSub, Int.reduceMul, Int.reduceNeg, Nat.reduceEqDiff, Nat.reduceBEq, Nat.reduceBNe, Nat.reduceAdd, Nat.reduceLeDiff, Nat.reduceLT, Nat.reduceMul, ↓reduceIte, reduceCtorEq, g102, pf102, b102, h, hs, h32, hk, hI, hz, hz0, hk20, hp2, ht, hw, rc, eS, ei, hc]
              done
    · rw [if_pos h32] at hw
      have hn : ((s.length : Int) = 32) = False := by simp; omega
      simp (disch := first | assumption | ((try simp only [LEN, LEN2]); omega)) only [push_cast, Int.reduceToNat, Int.reduceEq, Int.reduceNe, Int.reduceLT, Int.reduceLE, Int.reduceAdd, Int.reduceSub, Int.reduceMul, Int.reduceNeg, Nat.reduceEqDiff, Nat.reduceBEq, Nat.reduceBNe, Nat.reduceAdd, Nat.reduceLeDiff, Nat.reduceLT, Nat.reduceMul, ↓reduceIte, reduceCtorEq, g102, pf102, b102, h, eS, hs, hn, hw]
  · obtain rfl : i = L.length := by omega
    rw [List.drop_length, whole] at hw
    simp (disch := first | assumption | ((try simp only [LEN, LEN2]); omega)) only [push_cast, Int.reduceToNat, Int.reduceEq, Int.reduceNe, Int.reduceLT, Int.reduceLE, Int.reduceAdd, Int.reduceSub, Int.reduceMul, Int.reduceNeg, Nat.reduceEqDiff, Nat.reduceBEq, Nat.reduceBNe, Nat.reduceAdd, Nat.reduceLeDiff, Nat.reduceLT, Nat.reduceMul, ↓reduceIte, reduceCtorEq, g102, pf102, b102, h, hw]
theorem f102c {run nn : Int} {L : List (List UInt8)} (hL : L.length ≤ 4000000) {g : VG} {F : Fn} {lk : Bool} {e : Env} {dst : Option Nat} {ops : List Ins} {keep : Option (List Nat)} {K : List Fr} : CallC G g F 102 [.one (.d (.sl (L.map eS))), .int .i64 run, .int .i64 nn] lk e dst ops keep K = ThenL G g F (if lk && !(T.noSl (.tup [(true, [.d (.sc (.int .i64 (whole1 run nn L).1.Commit)), .own 84 ((whole1 run nn L).1.Writes.map oW)]), (false, [.d (.sc (.int .i64 (whole1 run nn L).2))])])) then none else e.put g.un dst (.tup [(true, [.d (.sc (.int .i64 (whole1 run nn L).1.Commit)), .own 84 ((whole1 run nn L).1.Writes.map oW)]), (false, [.d (.sc (.int .i64 (whole1 run nn L).2))])])) ops keep K := callC_eq (f102 hL)
attribute [push_cast] f102c
theorem f102t {run nn : Int} {L : List (List UInt8)} (hL : L.length ≤ 4000000) {g : VG} {F : Fn} {lk : Bool} {ags : List Arg} {e0 e1 : Env} {dst : Option Nat} {ops : List Ins} {keep : Option (List Nat)} {K : List Fr} : CallT G g F 102 [.one (.d (.sl (L.map eS))), .int .i64 run, .int .i64 nn] lk ags e0 e1 dst ops keep K = RetT G g F (.tup [(true, [.d (.sc (.int .i64 (whole1 run nn L).1.Commit)), .own 84 ((whole1 run nn L).1.Writes.map oW)]), (false, [.d (.sc (.int .i64 (whole1 run nn L).2))])]) [] lk ags e0 e1 dst ops keep K := callT_eq (f102 hL)
attribute [push_cast] f102t

end Go.Mir.Try

/- Walks: records, read. -/
set_option linter.unusedVariables false
set_option linter.unusedSimpArgs false
set_option maxRecDepth 100000
namespace Go.Mir.Try
open Go.Proofs Go.Mir.Q

theorem toDs_oR (c : Int) (ws : List Write) : toDs [.d (.sc (.int .i64 c)), .own 84 (ws.map oW)] = some [.sc (.int .i64 c), .sl (ws.map eW)] := by simp [toDs, V.toD, toDss_oW]
def oR (r : Record) : List V := [.d (.sc (.int .i64 r.Commit)), .own 84 (r.Writes.map oW)]

theorem toDss_oR (l : List Record) : toDss (l.map oR) = some (l.map eR) := toDss_map (fun _ => toDs_oR _ _) l
theorem noSlss_oR (l : List Record) : noSlss (l.map oR) = true := noSlss_map (fun x => by simp [oR, noSls, V.noSl, noSlss_oW]) l
attribute [push_cast] toDss_oR noSlss_oR

set_option maxHeartbeats 2000000 in
theorem f78 {run n0 : Int} {L : List (List UInt8)} (hL : L.length ≤ 4000000) (h0 : okN n0) : Fun G 78 [.one (.d (.sl (L.map eS))), .int .i64 run, .int .i64 n0] (.tup [(false, [.own 32 ((rd run n0 L).1.map oR)]), (false, [.d (.sc (.int .i64 (rd run n0 L).2))])], []) := by
  refine Fun.of_run (g := g78) (pf := pf78) rfl rfl rfl rfl ?_
  simp (disch := first | assumption | ((try simp only [LEN, LEN2]); omega)) only [push_cast, Int.reduceToNat, Int.reduceEq, Int.reduceNe, Int.reduceLT, Int.reduceLE, Int.reduceAdd, Int.reduceSub, Int.reduceMul, Int.reduceNeg, Nat.reduceEqDiff, Nat.reduceBEq, Nat.reduceBNe, Nat.reduceAdd, Nat.reduceLeDiff, Nat.reduceLT, Nat.reduceMul, ↓reduceIte, reduceCtorEq, g78, pf78, b78]
  obtain ⟨W, hW⟩ : ∃ W, rd run n0 L = W := ⟨_, rfl⟩
  rw [hW]
  refine run_loop' (fun x : Nat × Int × Nat × List Record => [(0, T.one (.d (.sl (L.map eS)))), (1, T.int .i64 run), (2, T.int .i64 x.2.1), (6, T.one (.own 32 (x.2.2.2.map oR))), (7, T.int .i64 x.2.2.1)])
    (fun x => x.2.2.1 ≤ L.length ∧ L.length - x.2.2.1 < x.1 ∧ x.2.2.2.length ≤ x.2.2.1 ∧ okN x.2.1 ∧ W = (x.2.2.2 ++ (runF run L x.1 x.2.1 x.2.2.1).1, (runF run L x.1 x.2.1 x.2.2.1).2)) (fun x => x.1) (L.length + 1, n0, 0, []) rfl ⟨Nat.zero_le _, by simp only; omega, Nat.zero_le _, h0, hW.symm⟩ (fun ⟨j, n, m, x⟩ hi => ?_)
  obtain ⟨hm, hj, hx, hn, hw⟩ := hi
  simp only at hm hj hx hn hw
  obtain ⟨j, rfl⟩ : ∃ k, j = k + 1 := ⟨j - 1, by omega⟩
  obtain ⟨hn1, hn2⟩ := hn
  rw [runF] at hw
  by_cases h : n ≤ 1073741824
  · rw [if_neg (by omega)] at hw
    have hdl : (L.drop m).length ≤ 4000000 := by rw [List.length_drop]; omega
    have hle := whole1_le run n (L.drop m)
    rw [List.length_drop] at hle
    obtain ⟨⟨⟨c, ws⟩, k⟩, hk⟩ : ∃ x, whole1 run n (L.drop m) = x := ⟨_, rfl⟩
    rw [hk] at hw hle
    simp only at hw hle
    by_cases hk0 : k = 0
    · rw [if_pos hk0] at hw
      subst hk0
      simp (disch := first | assumption | ((try simp only [LEN, LEN2]); omega)) only [push_cast, Int.reduceToNat, Int.reduceEq, Int.reduceNe, Int.reduceLT, Int.reduceLE, Int.reduceAdd, Int.reduceSub, Int.reduceMul, Int.reduceNeg, Nat.reduceEqDiff, Nat.reduceBEq, Nat.reduceBNe, Nat.reduceAdd, Nat.reduceLeDiff, Nat.reduceLT, Nat.reduceMul, ↓reduceIte, reduceCtorEq, g78, pf78, b78, h, hk, hw, List.take_length]
      try rfl
      done
    · rw [if_neg hk0] at hw
      have hk1 : ((k : Int) = 0) = False := by simp; omega
      simp (disch := first | assumption | ((try simp only [LEN, LEN2]); omega)) only [push_cast, Int.reduceToNat, Int.reduceEq, Int.reduceNe, Int.reduceLT, Int.reduceLE, Int.reduceAdd, Int.reduceSub, Int.reduceMul, Int.reduceNeg, Nat.reduceEqDiff, Nat.reduceBEq, Nat.reduceBNe, Nat.reduceAdd, Nat.reduceLeDiff, Nat.reduceLT, Nat.reduceMul, ↓reduceIte, reduceCtorEq, g78, pf78, b78, h, hk, hk1, List.take_length]
      exact ⟨(j, n + 1, m + k, x ++ [⟨c, ws⟩]), by simp [oR], ⟨by simp only; omega, by simp only; omega, by simp only [List.length_append, List.length_singleton]; omega, ⟨by simp only; omega, by simp only; omega⟩, by rw [hw]; simp⟩, by simp only; omega⟩
  · rw [if_pos (by omega)] at hw
    simp (disch := first | assumption | ((try simp only [LEN, LEN2]); omega)) only [push_cast, Int.reduceToNat, Int.reduceEq, Int.reduceNe, Int.reduceLT, Int.reduceLE, Int.reduceAdd, Int.reduceSub, Int.reduceMul, Int.reduceNeg, Nat.reduceEqDiff, Nat.reduceBEq, Nat.reduceBNe, Nat.reduceAdd, Nat.reduceLeDiff, Nat.reduceLT, Nat.reduceMul, ↓reduceIte, reduceCtorEq, g78, pf78, b78, h, hw]
    done
theorem f78c {run n0 : Int} {L : List (List UInt8)} (hL : L.length ≤ 4000000) (h0 : okN n0) {g : VG} {F : Fn} {lk : Bool} {e : Env} {dst : Option Nat} {ops : List Ins} {keep : Option (List Nat)} {K : List Fr} : CallC G g F 78 [.one (.d (.sl (L.map eS))), .int .i64 run, .int .i64 n0] lk e dst ops keep K = ThenL G g F (if lk && !(T.noSl (.tup [(false, [.own 32 ((rd run n0 L).1.map oR)]), (false, [.d (.sc (.int .i64 (rd run n0 L).2))])])) then none else e.put g.un dst (.tup [(false, [.own 32 ((rd run n0 L).1.map oR)]), (false, [.d (.sc (.int .i64 (rd run n0 L).2))])])) ops keep K := callC_eq (f78 hL h0)
attribute [push_cast] f78c

set_option maxHeartbeats 2000000 in
theorem f41 {run n0 : Int} {L : List (List UInt8)} (hL : L.length ≤ 4000000) (h0 : okN n0) : Fun G 41 [.one (.d (.sl (L.map eS))), .int .i64 run, .int .i64 n0] (.tup [(false, [.own 32 ((if okQ run n0 then (rd run n0 L).1 else []).map oR)]), (false, [.d (.sc (.int .i64 (if okQ run n0 then ((rd run n0 L).2 : Int) else 0)))]), (false, [.d (.sc (.int .i64 (if okQ run n0 then 0 else 1)))])], []) := by
  refine Fun.of_run (g := g41) (pf := pf41) rfl rfl rfl rfl ?_
  by_cases h1 : 0 ≤ run ∧ run ≤ 1073741824
  · by_cases h2 : 0 ≤ n0 ∧ n0 ≤ 1073741824
    · have e : okQ run n0 = true := by simp [okQ, h1, h2]
      simp (disch := first | assumption | ((try simp only [LEN, LEN2]); omega)) only [push_cast, Int.reduceToNat, Int.reduceEq, Int.reduceNe, Int.reduceLT, Int.reduceLE, Int.reduceAdd, Int.reduceSub, Int.reduceMul, Int.reduceNeg, Nat.reduceEqDiff, Nat.reduceBEq, Nat.reduceBNe, Nat.reduceAdd, Nat.reduceLeDiff, Nat.reduceLT, Nat.reduceMul, ↓reduceIte, reduceCtorEq, g41, pf41, b41, h1, h2, e]
    · have e : okQ run n0 = false := by simp only [okQ, h2]; simp
      simp (disch := first | assumption | ((try simp only [LEN, LEN2]); omega)) only [push_cast, Int.reduceToNat, Int.reduceEq, Int.reduceNe, Int.reduceLT, Int.reduceLE, Int.reduceAdd, Int.reduceSub, Int.reduceMul, Int.reduceNeg, Nat.reduceEqDiff, Nat.reduceBEq, Nat.reduceBNe, Nat.reduceAdd, Nat.reduceLeDiff, Nat.reduceLT, Nat.reduceMul, ↓reduceIte, reduceCtorEq, g41, pf41, b41, h1, h2, e]
  · have e : okQ run n0 = false := by simp only [okQ, h1]; simp
    simp (disch := first | assumption | ((try simp only [LEN, LEN2]); omega)) only [push_cast, Int.reduceToNat, Int.reduceEq, Int.reduceNe, Int.reduceLT, Int.reduceLE, Int.reduceAdd, Int.reduceSub, Int.reduceMul, Int.reduceNeg, Nat.reduceEqDiff, Nat.reduceBEq, Nat.reduceBNe, Nat.reduceAdd, Nat.reduceLeDiff, Nat.reduceLT, Nat.reduceMul, ↓reduceIte, reduceCtorEq, g41, pf41, b41, h1, e]
theorem f41c {run n0 : Int} {L : List (List UInt8)} (hL : L.length ≤ 4000000) (h0 : okN n0) {g : VG} {F : Fn} {lk : Bool} {e : Env} {dst : Option Nat} {ops : List Ins} {keep : Option (List Nat)} {K : List Fr} : CallC G g F 41 [.one (.d (.sl (L.map eS))), .int .i64 run, .int .i64 n0] lk e dst ops keep K = ThenL G g F (if lk && !(T.noSl (.tup [(false, [.own 32 ((if okQ run n0 then (rd run n0 L).1 else []).map oR)]), (false, [.d (.sc (.int .i64 (if okQ run n0 then ((rd run n0 L).2 : Int) else 0)))]), (false, [.d (.sc (.int .i64 (if okQ run n0 then 0 else 1)))])])) then none else e.put g.un dst (.tup [(false, [.own 32 ((if okQ run n0 then (rd run n0 L).1 else []).map oR)]), (false, [.d (.sc (.int .i64 (if okQ run n0 then ((rd run n0 L).2 : Int) else 0)))]), (false, [.d (.sc (.int .i64 (if okQ run n0 then 0 else 1)))])])) ops keep K := callC_eq (f41 hL h0)
attribute [push_cast] f41c

end Go.Mir.Try

/- Walks: the law CodeRows. -/
set_option linter.unusedVariables false
set_option linter.unusedSimpArgs false
set_option maxRecDepth 100000
namespace Go.Mir.Try
open Go.Proofs Go.Mir.Q

theorem f24 : Fun G 24 [] (.bool true, []) := ⟨30, by kernel_rfl⟩
abbrev askV (R : List Record) (S : List (List UInt8)) (N : List Int) (L : List (List (List UInt8))) : List V := [.d (.sl (R.map eR)), .d (.sl (S.map eS)), .d (.sl (N.map eN)), .d (.sl (L.map fun l => [.sl (l.map eS)]))]
theorem foldSS (l m : List (List UInt8)) : l.map oS ++ m.map oS = (l ++ m).map oS := by simp
theorem noSlss_nil : noSlss [] = true := rfl

/-- Record behind record. -/
def cat (n : Int) : List Record → List (List UInt8)
  | [] => []
  | r :: rs => cuts 2 n (spelt r) ++ cat (n + 1) rs
theorem cat_snoc (r : Record) : ∀ (rs : List Record) (n : Int), cat n (rs ++ [r]) = cat n rs ++ cuts 2 (n + rs.length) (spelt r)
  | [], n => by simp [cat]
  | x :: rs, n => by
    have := cat_snoc r rs (n + 1)
    simp only [List.cons_append, cat, this, List.append_assoc, List.length_cons]
    rw [show n + 1 + (rs.length : Int) = n + ((rs.length + 1 : Nat) : Int) by omega]
theorem cat_len : ∀ (rs : List Record) (n : Int), (∀ r ∈ rs, okR r = true) → rs.length ≤ (cat n rs).length ∧ (cat n rs).length ≤ 151 * rs.length
  | [], n, _ => by simp [cat]
  | r :: rs, n, h => by
    have h1 := cnt_pos (h r (by simp))
    have h2 := cat_len rs (n + 1) fun x hx => h x (List.mem_cons_of_mem _ hx)
    simp only [cat, List.length_append, cuts_len, List.length_cons]; omega
theorem runF_cat {L T : List (List UInt8)} : ∀ (rs : List Record) (n : Int) (m j : Nat), (whole1 2 (n + rs.length) T).2 = 0 → (∀ r ∈ rs, okR r = true) → rs.length < j → n + rs.length ≤ 1073741824 → L.drop m = cat n rs ++ T → runF 2 L j n m = (rs, m + (cat n rs).length)
  | [], n, m, j, hT, _, hj, hn, hL => by
    obtain ⟨k, rfl⟩ : ∃ k, j = k + 1 := ⟨j - 1, by simp at hj; omega⟩
    simp only [List.length_nil] at hT hn
    rw [runF, if_neg (by omega), hL]
    rw [show n + ((0 : Nat) : Int) = n by omega] at hT
    simp only [cat, List.nil_append, hT]
    rfl
  | r :: rs, n, m, j, hT, hok, hj, hn, hL => by
    simp only [List.length_cons] at hj hn hT
    obtain ⟨k, rfl⟩ : ∃ k, j = k + 1 := ⟨j - 1, by omega⟩
    have hr := hok r (by simp)
    have h0 := (cnt_pos hr).1
    rw [cat, List.append_assoc] at hL
    rw [runF, if_neg (by omega), hL]
    simp only [whole1_cut hr]
    rw [if_neg (by omega)]
    have ih := runF_cat (L := L) (T := T) rs (n + 1) (m + cnt (spelt r)) k (by rw [show n + 1 + (rs.length : Int) = n + ((rs.length + 1 : Nat) : Int) by omega]; exact hT) (fun x hx => hok x (List.mem_cons_of_mem _ hx)) (by omega) (by omega) (by
      rw [← List.drop_drop, hL, ← cuts_len 2 n, List.drop_left])
    rw [ih]
    simp only [cat, List.length_append, cuts_len, Nat.add_assoc]
theorem rd_cat {rs : List Record} {T : List (List UInt8)} (hT : (whole1 2 (1 + rs.length) T).2 = 0) (hok : ∀ r ∈ rs, okR r = true) (hn : rs.length ≤ 1000) : rd 2 1 (cat 1 rs ++ T) = (rs, (cat 1 rs).length) := by
  have h1 := cat_len rs 1 hok
  have := runF_cat (L := cat 1 rs ++ T) (T := T) rs 1 0 ((cat 1 rs ++ T).length + 1) hT hok (by rw [List.length_append]; omega) (by omega) rfl
  rw [rd, this]; simp

def dR (r : Record) : List V := [.d (.sc (.int .i64 r.Commit)), .d (.sl (r.Writes.map eW))]
theorem toDss_dR (l : List Record) : toDss (l.map dR) = some (l.map eR) := toDss_map (fun _ => by simp [dR, toDs, V.toD, eR]) l
attribute [push_cast] toDss_dR

set_option maxHeartbeats 2000000 in
theorem f10 {R : List Record} {S : List (List UInt8)} {N : List Int} {L : List (List (List UInt8))} (hR : smR R) (hS : smS S) (hN : N.length ≤ 1048576) (hL : L.length ≤ 1048576 ∧ ∀ l ∈ L, smS l) : Fun G 10 [.vs true (askV R S N L)] (.bool true, []) := by
  refine Fun.of_run (g := g10) (pf := pf10) rfl rfl rfl rfl ?_
  obtain ⟨hv, hhv⟩ := f11 hR hS hN hL
  obtain ⟨hRl, hR⟩ := hR
  simp (disch := first | assumption | ((try simp only [LEN, LEN2]); omega)) only [push_cast, Int.reduceToNat, Int.reduceEq, Int.reduceNe, Int.reduceLT, Int.reduceLE, Int.reduceAdd, Int.reduceSub, Int.reduceMul, Int.reduceNeg, Nat.reduceEqDiff, Nat.reduceBEq, Nat.reduceBNe, Nat.reduceAdd, Nat.reduceLeDiff, Nat.reduceLT, Nat.reduceMul, ↓reduceIte, reduceCtorEq, g10, pf10, b10, callC_eq hhv, callC_eq f24]
  refine If.split (fun h => ?_) (fun h => ?_)
  · simp (disch := first | assumption | ((try simp only [LEN, LEN2]); omega)) only [push_cast, Int.reduceToNat, Int.reduceEq, Int.reduceNe, Int.reduceLT, Int.reduceLE, Int.reduceAdd, Int.reduceSub, Int.reduceMul, Int.reduceNeg, Nat.reduceEqDiff, Nat.reduceBEq, Nat.reduceBNe, Nat.reduceAdd, Nat.reduceLeDiff, Nat.reduceLT, Nat.reduceMul, ↓reduceIte, reduceCtorEq, g10, pf10, b10]
  simp (disch := first | assumption | ((try simp only [LEN, LEN2]); omega)) only [push_cast, Int.reduceToNat, Int.reduceEq, Int.reduceNe, Int.reduceLT, Int.reduceLE, Int.reduceAdd, Int.reduceSub, Int.reduceMul, Int.reduceNeg, Nat.reduceEqDiff, Nat.reduceBEq, Nat.reduceBNe, Nat.reduceAdd, Nat.reduceLeDiff, Nat.reduceLT, Nat.reduceMul, ↓reduceIte, reduceCtorEq, g10, pf10, b10]
  refine run_loop' (fun x : Nat × List Record => [(1, T.one (.box (askV R S N L))), (3, T.one (.own 9 ((cat 1 x.2).map oS))), (4, T.one (.own 32 (x.2.map dR))), (5, T.int .i64 x.1)]) (fun x => x.1 ≤ R.length ∧ x.1 ≤ 6 ∧ x.2.length ≤ x.1 ∧ ∀ r ∈ x.2, okR r = true) (fun x => R.length - x.1) (0, []) rfl ⟨Nat.zero_le _, by simp, by simp, by simp⟩ (fun ⟨i, rs⟩ hi => ?_)
  obtain ⟨hi, hi6, hrl, hrs⟩ := hi
  simp only at hi hi6 hrl hrs
  have hcl := cat_len rs 1 hrs
  have hCm : (cat 1 rs).length ≤ 4000000 := by omega
  have hk1 : okN 1 := ⟨by omega, by omega⟩
  rcases (show ((i : Int) < R.length ∧ (i : Int) < 6) ∨ ((i : Int) < R.length ∧ ¬ (i : Int) < 6) ∨ ¬ (i : Int) < R.length by omega) with ⟨h1, h6⟩ | ⟨h1, h6⟩ | h1
  · have hi' : i < R.length := by omega
    obtain ⟨⟨c, ws⟩, hr⟩ : ∃ r, R[i] = r := ⟨_, rfl⟩
    obtain ⟨hw, hc⟩ := hR R[i] (List.getElem_mem hi')
    rw [hr] at hw hc
    simp only at hw hc
    by_cases hok : okR ⟨c, ws⟩ = true
    · have hokS : okS ⟨c, ws⟩ 2 (1 + rs.length) = true := by
        simp only [okS, hok, okQ, Bool.true_and]
        rw [decide_eq_true (by omega), decide_eq_true (by omega)]; rfl
      have hcu := cnt_pos hok
      have hcul : (cuts 2 (1 + rs.length) (spelt ⟨c, ws⟩)).length ≤ 151 := by rw [cuts_len]; omega
      simp (disch := first | assumption | ((try simp only [LEN, LEN2]); omega)) only [push_cast, Int.reduceToNat, Int.reduceEq, Int.reduceNe, Int.reduceLT, Int.reduceLE, Int.reduceAdd, Int.reduceSub, Int.reduceMul, Int.reduceNeg, Nat.reduceEqDiff, Nat.reduceBEq, Nat.reduceBNe, Nat.reduceAdd, Nat.reduceLeDiff, Nat.reduceLT, Nat.reduceMul, ↓reduceIte, reduceCtorEq, g10, pf10, b10, h1, h6, eR, hr, hokS, foldSS]
      exact ⟨(i + 1, rs ++ [⟨c, ws⟩]), by simp [cat_snoc, dR], ⟨by simp only; omega, by simp only; omega, by simp only [List.length_append, List.length_singleton]; omega, fun r hr => by
        rw [List.mem_append, List.mem_singleton] at hr
        rcases hr with hr | rfl
        · exact hrs r hr
        · exact hok⟩, by simp only; omega⟩
    · rw [Bool.not_eq_true] at hok
      have hokS : okS ⟨c, ws⟩ 2 (1 + rs.length) = false := by simp only [okS, hok, Bool.false_and]
      simp (disch := first | assumption | ((try simp only [LEN, LEN2]); omega)) only [push_cast, Int.reduceToNat, Int.reduceEq, Int.reduceNe, Int.reduceLT, Int.reduceLE, Int.reduceAdd, Int.reduceSub, Int.reduceMul, Int.reduceNeg, Nat.reduceEqDiff, Nat.reduceBEq, Nat.reduceBNe, Nat.reduceAdd, Nat.reduceLeDiff, Nat.reduceLT, Nat.reduceMul, ↓reduceIte, reduceCtorEq, g10, pf10, b10, h1, h6, eR, hr, hokS]
      exact ⟨(i + 1, rs), rfl, ⟨by simp only; omega, by simp only; omega, by simp only; omega, hrs⟩, by simp only; omega⟩
  all_goals
    have hrd : rd 2 1 (cat 1 rs) = (rs, (cat 1 rs).length) := by
      have := rd_cat (rs := rs) (T := []) rfl hrs (by omega)
      rwa [List.append_nil] at this
    have hq : okQ 2 1 = true := by decide
    have ha : rs.length ≤ 1000000000 := by omega
    have ha' : ∀ r ∈ rs, r.Writes.length ≤ 1000000000 := fun r hr => by have := (okR_smW (hrs r hr)).1; omega
  all_goals (first | simp (disch := first | assumption | ((try simp only [LEN, LEN2]); omega)) only [push_cast, Int.reduceToNat, Int.reduceEq, Int.reduceNe, Int.reduceLT, Int.reduceLE, Int.reduceAdd, Int.reduceSub, Int.reduceMul, Int.reduceNeg, Nat.reduceEqDiff, Nat.reduceBEq, Nat.reduceBNe, Nat.reduceAdd, Nat.reduceLeDiff, Nat.reduceLT, Nat.reduceMul, ↓reduceIte, reduceCtorEq, g10, pf10, b10, h1, h6, hrd, hq, noSlss_nil, eq_self, callC_eq f24] | simp (disch := first | assumption | ((try simp only [LEN, LEN2]); omega)) only [push_cast, Int.reduceToNat, Int.reduceEq, Int.reduceNe, Int.reduceLT, Int.reduceLE, Int.reduceAdd, Int.reduceSub, Int.reduceMul, Int.reduceNeg, Nat.reduceEqDiff, Nat.reduceBEq, Nat.reduceBNe, Nat.reduceAdd, Nat.reduceLeDiff, Nat.reduceLT, Nat.reduceMul, ↓reduceIte, reduceCtorEq, g10, pf10, b10, h1, hrd, hq, noSlss_nil, eq_self, callC_eq f24])
  all_goals refine If.dec (fun h0 => ?_) (fun h0 => ?_)
  all_goals try simp (disch := first | assumption | ((try simp only [LEN, LEN2]); omega)) only [push_cast, Int.reduceToNat, Int.reduceEq, Int.reduceNe, Int.reduceLT, Int.reduceLE, Int.reduceAdd, Int.reduceSub, Int.reduceMul, Int.reduceNeg, Nat.reduceEqDiff, Nat.reduceBEq, Nat.reduceBNe, Nat.reduceAdd, Nat.reduceLeDiff, Nat.reduceLT, Nat.reduceMul, ↓reduceIte, reduceCtorEq, g10, pf10, b10, callC_eq f24]
  all_goals
    have h0' : 0 < rs.length := by omega
    obtain ⟨⟨c, ws⟩, hr⟩ : ∃ r, rs[0] = r := ⟨_, rfl⟩
    have hok := hrs rs[0] (List.getElem_mem h0')
    rw [hr] at hok
    have hw := okR_smW hok
    simp only at hw
    have hokS : okS ⟨c, ws⟩ 2 (rs.length + 2) = true := by
      simp only [okS, hok, okQ, Bool.true_and]
      rw [decide_eq_true (by omega), decide_eq_true (by omega)]; rfl
    have hcu := cnt_pos hok
    obtain ⟨D, hD⟩ : ∃ D, cuts 2 (rs.length + 2) (spelt ⟨c, ws⟩) = D := ⟨_, rfl⟩
    have hDl : D.length ≤ 151 := by rw [← hD, cuts_len]; omega
    have hrd2 : rd 2 1 (cat 1 rs ++ D) = (rs, (cat 1 rs).length) := rd_cat (by rw [← hD]; exact none_run (by omega)) hrs (by omega)
    have hCD : (cat 1 rs ++ D).length ≤ 4000000 := by rw [List.length_append]; omega
    have hC1 : (cat 1 rs).length ≤ 1000000000 := by omega
    simp (disch := first | assumption | ((try simp only [LEN, LEN2]); omega)) only [push_cast, Int.reduceToNat, Int.reduceEq, Int.reduceNe, Int.reduceLT, Int.reduceLE, Int.reduceAdd, Int.reduceSub, Int.reduceMul, Int.reduceNeg, Nat.reduceEqDiff, Nat.reduceBEq, Nat.reduceBNe, Nat.reduceAdd, Nat.reduceLeDiff, Nat.reduceLT, Nat.reduceMul, ↓reduceIte, reduceCtorEq, g10, pf10, b10, dR, hr, hokS, hD, foldSS, hrd2, hq, eq_self, callC_eq f24]
    done
theorem f10t {R : List Record} {S : List (List UInt8)} {N : List Int} {L : List (List (List UInt8))} (hR : smR R) (hS : smS S) (hN : N.length ≤ 1048576) (hL : L.length ≤ 1048576 ∧ ∀ l ∈ L, smS l) {g : VG} {F : Fn} {lk : Bool} {ags : List Arg} {e0 e1 : Env} {dst : Option Nat} {ops : List Ins} {keep : Option (List Nat)} {K : List Fr} : CallT G g F 10 [.vs true (askV R S N L)] lk ags e0 e1 dst ops keep K = RetT G g F (.bool true) [] lk ags e0 e1 dst ops keep K := callT_eq (f10 hR hS hN hL)
attribute [push_cast] f10t

end Go.Mir.Try
