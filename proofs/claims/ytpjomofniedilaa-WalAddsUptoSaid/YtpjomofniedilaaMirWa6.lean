/- Record by record, added and synced, all are opened, in order, and the Wal stands behind them; a Save takes them away. Part 6 of its proof. -/
import Derived.Test.YtpjomofniedilaaMirWa5
import Derived.WalkKit
import Derived.ProofKit
import Derived.OpenShut
import Derived.JoinedCond
import Derived.Below
/- Walks: the law WalSaves. -/
set_option linter.unusedVariables false
set_option linter.unusedSimpArgs false
set_option maxRecDepth 100000
namespace Go.Mir.Try
open Go.Proofs Go.Mir.Q

structure SavesP (M : List Map) (x : Nat × Bool × List (List UInt8) × Wal) : Prop where
  i : x.1 ≤ M.length
  i6 : x.1 ≤ 6
  st : x.2.1 = false ∧ x.2.2.1 = [] ∧ x.2.2.2 = ⟨0, 0, 0, 0⟩ ∨ x.2.1 = true ∧ x.2.2.2.Run ≤ x.1 ∧ ∃ m, Laid x.2.2.1 x.2.2.2 m []
theorem _root_.Go.Mir.Q.Laid.zeros {S : List (List UInt8)} {w : Wal} {m : Map} (h : Laid S w m []) : ∀ s ∈ S.drop 255, s = Q.zeros := by
  obtain ⟨T', hT, hz⟩ := h.log
  rw [hT]
  exact hz
set_option maxHeartbeats 4000000 in
theorem f3 {M : List Map} {R : List Record} {S : List (List UInt8)} {N1 : List Int} {L : List (List (List UInt8))} {W : List Wal} {K N : List Int} (h : smAsk M R S N1 L W K N) : Fun G 3 [.vs true (cAsk M R S N1 L W K N)] (.bool true, []) := by
  obtain ⟨b, hh⟩ := f5 h
  have hm := h.m
  have hmm := h.mm
  refine Fun.of_run (g := g3) (pf := pf3) rfl rfl rfl rfl ?_
  cases b with
  | true => simp (maxSteps := 1000000) (disch := first | assumption | ((try simp only [LEN, LEN2]); omega)) only [push_cast, Int.reduceToNat, Int.reduceEq, Int.reduceNe, Int.reduceLT, Int.reduceLE, Int.reduceAdd, Int.reduceSub, Int.reduceMul, Int.reduceNeg, Nat.reduceEqDiff, Nat.reduceBEq, Nat.reduceBNe, Nat.reduceAdd, Nat.reduceLeDiff, Nat.reduceLT, Nat.reduceMul, ↓reduceIte, reduceCtorEq, g3, pf3, b3, callC_eq hh, callT_eq hh]
  | false =>
  have hm00 := f14 (m := []) ⟨by simp, by simp⟩
  simp only [push_cast, Int.reduceToNat, Int.reduceEq, Int.reduceNe, Int.reduceLT, Int.reduceLE, Int.reduceAdd, Int.reduceSub, Int.reduceMul, Int.reduceNeg, Nat.reduceEqDiff, Nat.reduceBEq, Nat.reduceBNe, Nat.reduceAdd, Nat.reduceLeDiff, Nat.reduceLT, Nat.reduceMul, ↓reduceIte, reduceCtorEq, show okM [] = true from rfl] at hm00
  simp (maxSteps := 1000000) (disch := first | assumption | ((try simp only [LEN, LEN2]); omega)) only [push_cast, Int.reduceToNat, Int.reduceEq, Int.reduceNe, Int.reduceLT, Int.reduceLE, Int.reduceAdd, Int.reduceSub, Int.reduceMul, Int.reduceNeg, Nat.reduceEqDiff, Nat.reduceBEq, Nat.reduceBNe, Nat.reduceAdd, Nat.reduceLeDiff, Nat.reduceLT, Nat.reduceMul, ↓reduceIte, reduceCtorEq, g3, pf3, b3, callC_eq hh, callT_eq hh]
  refine run_loop' (fun x : Nat × Bool × List (List UInt8) × Wal => [(1, T.one (.box (cAsk M R S N1 L W K N))), (3, T.one (.box (oT x.2.2.1 []))), (4, T.one (.box (cWal x.2.2.2))), (5, T.bool x.2.1), (6, T.int .i64 x.1)]) (SavesP M) (fun x => M.length - x.1) (0, false, [], ⟨0, 0, 0, 0⟩) (by simp) ⟨by simp, by simp, .inl ⟨rfl, rfl, rfl⟩⟩ (fun ⟨i, bg, S', w⟩ hi => ?_)
  obtain ⟨hi, hi6, hst⟩ := hi
  simp only at hi hi6 hst
  by_cases h1 : (i : Int) < M.length
  · by_cases h2 : (i : Int) < 6
    · have hi' : i < M.length := by omega
      have hsm := hmm M[i] (List.getElem_mem hi')
      obtain ⟨m, hm0⟩ : ∃ m, m = M[i] := ⟨_, rfl⟩
      rw [← hm0] at hsm
      have hsm1 := hsm.1
      by_cases hab : (okM m && decide (1 ≤ m.length ∧ (image m).length ≤ 64)) = true
      · have hab2 := hab
        simp only [Bool.and_eq_true, decide_eq_true_eq] at hab2
        obtain ⟨hok, hl1, h64⟩ := hab2
        have hE := f13 hsm hsm
        rw [decide_eq_true rfl] at hE
        have hdo := fun run slot => (smDo_lay (run := run) (slot := slot) hok h64).1
        rcases hst with ⟨rfl, rfl, rfl⟩ | ⟨rfl, hrun, m', hL⟩
        · have hA := fFormat hok h64
          have hN := fNew0
          have hP := fLay (run := 1) (slot := 0) tape0_len tape0_32 hok h64
          have hLd := Laid.lay (run := 1) (slot := 0) tape0_len tape0_32 (by omega) (by omega) (.inl rfl) hok h64 tape0_z
          have hO := fOpen hl1 hLd
          have hlen := hLd.len
          have hd := hdo 1 0
          obtain ⟨T', hT⟩ : ∃ T, T = layS tape0 1 0 m := ⟨_, rfl⟩
          rw [← hT] at hP hLd hO hlen
          obtain ⟨D', hD⟩ : ∃ D, D = layD 1 0 m := ⟨_, rfl⟩
          rw [← hD] at hA hP hd
          obtain ⟨Z, hZ⟩ : ∃ Z, Z = tape0 := ⟨_, rfl⟩
          have hz := tape0_len
          rw [← hZ] at hz hN hP
          simp only [push_cast, Int.reduceToNat, Int.reduceEq, Int.reduceNe, Int.reduceLT, Int.reduceLE, Int.reduceAdd, Int.reduceSub, Int.reduceMul, Int.reduceNeg, Nat.reduceEqDiff, Nat.reduceBEq, Nat.reduceBNe, Nat.reduceAdd, Nat.reduceLeDiff, Nat.reduceLT, Nat.reduceMul, ↓reduceIte, reduceCtorEq, cT, oT, tErr', layT, openR] at hA hN hP hO
          simp (maxSteps := 1000000) (disch := first | assumption | ((try simp only [LEN, LEN2]); omega)) only [push_cast, Int.reduceToNat, Int.reduceEq, Int.reduceNe, Int.reduceLT, Int.reduceLE, Int.reduceAdd, Int.reduceSub, Int.reduceMul, Int.reduceNeg, Nat.reduceEqDiff, Nat.reduceBEq, Nat.reduceBNe, Nat.reduceAdd, Nat.reduceLeDiff, Nat.reduceLT, Nat.reduceMul, ↓reduceIte, reduceCtorEq, g3, pf3, b3, h1, h2, eMaps, ← hm0, hab, callC_eq hA, callT_eq hA, callC_eq hN, callT_eq hN, callC_eq hP, callT_eq hP, callC_eq hO, callT_eq hO, callC_eq hE, callT_eq hE]
          exact ⟨(i + 1, true, T', ⟨1, 0, 255, 1⟩), by simp, ⟨by simp only; omega, by simp only; omega, .inr ⟨rfl, by simp only; omega, m, hLd⟩⟩, by simp only; omega⟩
        · have hseq := hL.seq
          have hrn := hL.run
          have hslot := hL.slot
          have hz := hL.zeros
          have hA := fSave hL (by omega) (by rw [hseq]; simp) hok h64
          have hP := fLay (run := w.Run + 1) (slot := 1 - w.Slot) hL.len hL.a32 hok h64
          have hLd := Laid.lay (run := w.Run + 1) (slot := 1 - w.Slot) hL.len hL.a32 (by omega) (by omega) (by omega) hok h64 hz
          have hO := fOpen hl1 hLd
          have hlen := hLd.len
          have hlen0 := hL.len
          have hd := hdo (w.Run + 1) (1 - w.Slot)
          obtain ⟨T', hT⟩ : ∃ T, T = layS S' (w.Run + 1) (1 - w.Slot) m := ⟨_, rfl⟩
          rw [← hT] at hP hLd hO hlen
          obtain ⟨D', hD⟩ : ∃ D, D = layD (w.Run + 1) (1 - w.Slot) m := ⟨_, rfl⟩
          rw [← hD] at hA hP hd
          have hne : ¬ 1 - w.Slot = w.Slot := by omega
          obtain ⟨a, b, c, d⟩ := w
          simp only at hne hrun
          simp only [push_cast, Int.reduceToNat, Int.reduceEq, Int.reduceNe, Int.reduceLT, Int.reduceLE, Int.reduceAdd, Int.reduceSub, Int.reduceMul, Int.reduceNeg, Nat.reduceEqDiff, Nat.reduceBEq, Nat.reduceBNe, Nat.reduceAdd, Nat.reduceLeDiff, Nat.reduceLT, Nat.reduceMul, ↓reduceIte, reduceCtorEq, cT, oT, tErr', layT, openR] at hA hP hO
          simp (maxSteps := 1000000) (disch := first | assumption | ((try simp only [LEN, LEN2]); omega)) only [push_cast, Int.reduceToNat, Int.reduceEq, Int.reduceNe, Int.reduceLT, Int.reduceLE, Int.reduceAdd, Int.reduceSub, Int.reduceMul, Int.reduceNeg, Nat.reduceEqDiff, Nat.reduceBEq, Nat.reduceBNe, Nat.reduceAdd, Nat.reduceLeDiff, Nat.reduceLT, Nat.reduceMul, ↓reduceIte, reduceCtorEq, g3, pf3, b3, h1, h2, eMaps, ← hm0, hab, callC_eq hA, callT_eq hA, callC_eq hP, callT_eq hP, callC_eq hO, callT_eq hO, callC_eq hE, callT_eq hE, hne]
          exact ⟨(i + 1, true, T', ⟨a + 1, 1 - b, 255, 1⟩), by simp, ⟨by simp only; omega, by simp only; omega, .inr ⟨rfl, by simp only; omega, m, hLd⟩⟩, by simp only; omega⟩
      · rw [Bool.not_eq_true] at hab
        simp (maxSteps := 1000000) (disch := first | assumption | ((try simp only [LEN, LEN2]); omega)) only [push_cast, Int.reduceToNat, Int.reduceEq, Int.reduceNe, Int.reduceLT, Int.reduceLE, Int.reduceAdd, Int.reduceSub, Int.reduceMul, Int.reduceNeg, Nat.reduceEqDiff, Nat.reduceBEq, Nat.reduceBNe, Nat.reduceAdd, Nat.reduceLeDiff, Nat.reduceLT, Nat.reduceMul, ↓reduceIte, reduceCtorEq, g3, pf3, b3, h1, h2, eMaps, ← hm0, hab]
        refine ⟨(i + 1, bg, S', w), by simp, ⟨by simp only; omega, by simp only; omega, ?_⟩, by simp only; omega⟩
        rcases hst with hst | ⟨a, b, c⟩
        · exact .inl hst
        · exact .inr ⟨a, by simp only; omega, c⟩
    · simp (maxSteps := 1000000) (disch := first | assumption | ((try simp only [LEN, LEN2]); omega)) only [push_cast, Int.reduceToNat, Int.reduceEq, Int.reduceNe, Int.reduceLT, Int.reduceLE, Int.reduceAdd, Int.reduceSub, Int.reduceMul, Int.reduceNeg, Nat.reduceEqDiff, Nat.reduceBEq, Nat.reduceBNe, Nat.reduceAdd, Nat.reduceLeDiff, Nat.reduceLT, Nat.reduceMul, ↓reduceIte, reduceCtorEq, g3, pf3, b3, h1, h2, callC_eq hm00, callT_eq hm00]
      done
  · simp (maxSteps := 1000000) (disch := first | assumption | ((try simp only [LEN, LEN2]); omega)) only [push_cast, Int.reduceToNat, Int.reduceEq, Int.reduceNe, Int.reduceLT, Int.reduceLE, Int.reduceAdd, Int.reduceSub, Int.reduceMul, Int.reduceNeg, Nat.reduceEqDiff, Nat.reduceBEq, Nat.reduceBNe, Nat.reduceAdd, Nat.reduceLeDiff, Nat.reduceLT, Nat.reduceMul, ↓reduceIte, reduceCtorEq, g3, pf3, b3, h1, callC_eq hm00, callT_eq hm00]
    done
end Go.Mir.Try

/- The log laws' ask, told from its value. -/
set_option linter.unusedVariables false
set_option maxRecDepth 100000
namespace Go.Mir.Try
open Go.Proofs Go.Mir.Q

theorem decS {n : Nat} : Dec Try.prog (n + 1) 9 eS (fun _ => True) := dec_str Try.underlying9
theorem decN {n : Nat} : Dec Try.prog (n + 1) 3 eN okN := dec_int Try.underlying3
theorem decRow {n : Nat} : Dec Try.prog (n + 2) 86 eRow (fun _ => True) :=
  dec_struct (fun x => (⟨x.1, x.2.1⟩ : Row)) Try.underlying86 (decFs_cons (dec_str Try.underlying9) (decFs_cons (dec_str Try.underlying9) decFs_nil)) (fun _ => by rfl) (fun _ _ => trivial)
theorem decWrite {n : Nat} : Dec Try.prog (n + 2) 89 eW (fun w => okN w.Table) :=
  dec_struct (fun x => (⟨x.1, x.2.1, x.2.2.1, x.2.2.2.1⟩ : Write)) Try.underlying89 (decFs_cons (dec_int Try.underlying3) (decFs_cons (dec_str Try.underlying9) (decFs_cons (dec_str Try.underlying9) (decFs_cons (dec_bool Try.underlying4) decFs_nil)))) (fun _ => by rfl) (fun _ h => by exact h.1)
theorem decRec {n : Nat} : Dec Try.prog (n + 4) 57 eR (fun r => okN r.Commit ∧ ∀ w ∈ r.Writes, okN w.Table) :=
  dec_struct (fun x => (⟨x.1, x.2.1⟩ : Record)) Try.underlying57 (decFs_cons (dec_int Try.underlying3) (decFs_cons (dec_slice Try.underlying55 decWrite) decFs_nil)) (fun _ => by rfl) (fun _ h => by exact ⟨h.1, h.2.1⟩)
theorem decWal {n : Nat} : Dec Try.prog (n + 2) 37 eWal (fun w => okN w.Run ∧ okN w.Slot ∧ okN w.At ∧ okN w.Seq) :=
  dec_struct (fun x => (⟨x.1, x.2.1, x.2.2.1, x.2.2.2.1⟩ : Wal)) Try.underlying37 (decFs_cons (dec_int Try.underlying3) (decFs_cons (dec_int Try.underlying3) (decFs_cons (dec_int Try.underlying3) (decFs_cons (dec_int Try.underlying3) decFs_nil)))) (fun _ => by rfl) (fun _ h => by exact ⟨h.1, h.2.1, h.2.2.1, h.2.2.2.1⟩)
abbrev A17 := List Record × List (List UInt8) × List Int × List (List (List UInt8))
def e17 (s : A17) : List D := [.sl (s.1.map eR), .sl (s.2.1.map eS), .sl (s.2.2.1.map eN), .sl (s.2.2.2.map fun l => [.sl (l.map eS)])]
theorem dec17 {n : Nat} : Dec Try.prog (n + 6) 28 e17 (fun s => ∀ r ∈ s.1, okN r.Commit ∧ ∀ w ∈ r.Writes, okN w.Table) :=
  dec_struct (fun x => (x.1, x.2.1, x.2.2.1, x.2.2.2.1)) Try.underlying28 (decFs_cons (dec_slice Try.underlying23 decRec) (decFs_cons (dec_slice Try.underlying24 decS) (decFs_cons (dec_slice Try.underlying25 decN) (decFs_cons (dec_slice Try.underlying26 (dec_slice Try.underlying24 decS)) decFs_nil)))) (fun _ => by rfl) (fun _ h => by exact h.1)
abbrev A19 := List Map × A17 × List Wal × List Int × List Int
def eAsk (s : A19) : List D := [.sl (s.1.map eMaps), .sl (s.2.1.1.map eR), .sl (s.2.1.2.1.map eS), .sl (s.2.1.2.2.1.map eN), .sl (s.2.1.2.2.2.map fun l => [.sl (l.map eS)]), .sl (s.2.2.1.map eWal), .sl (s.2.2.2.1.map eN), .sl (s.2.2.2.2.map eN)]
theorem decAsk {n : Nat} : Dec Try.prog (n + 8) 31 eAsk (fun s => (∀ r ∈ s.2.1.1, okN r.Commit ∧ ∀ w ∈ r.Writes, okN w.Table) ∧ (∀ x ∈ s.2.2.2.1, okN x) ∧ ∀ x ∈ s.2.2.2.2, okN x) :=
  dec_struct (fun x => (x.1, x.2.1, x.2.2.1, x.2.2.2.1, x.2.2.2.2.1)) Try.underlying31 (decFs_cons (dec_slice Try.underlying22 (dec_slice Try.underlying39 (dec_slice Try.underlying83 decRow))) (decFs_cons dec17 (decFs_cons (dec_slice Try.underlying29 decWal) (decFs_cons (dec_slice Try.underlying25 decN) (decFs_cons (dec_slice Try.underlying25 decN) decFs_nil))))) (fun _ => by rfl) (fun _ h => by exact ⟨h.2.1, h.2.2.2.1, h.2.2.2.2.1⟩)

theorem wt_S {l : List (List UInt8)} (h : wtss (l.map eS) ≤ 1048576) : smS l :=
  ⟨by have := len_wtss (en := eS) (fun x => by simp [eS, wts, D.wt]) l; omega, fun s hs => by have := wtss_map (en := eS) hs; simp only [eS, wts, D.wt, bs_size] at this; omega⟩
theorem wt_W {l : List Write} (h : wtss (l.map eW) ≤ 1048576) : smW l :=
  ⟨by have := len_wtss (en := eW) (fun x => by simp only [eW, wts, D.wt]; omega) l; omega, fun s hs => by have := wtss_map (en := eW) hs; simp only [eW, wts, D.wt, bs_size] at this; omega⟩
theorem wt_Rows {l : List Row} (h : wtss (l.map eRow) ≤ 1048576) : smRows l :=
  ⟨by have := len_wtss (en := eRow) (fun x => by simp only [eRow, wts, D.wt]; omega) l; omega, fun s hs => by have := wtss_map (en := eRow) hs; simp only [eRow, wts, D.wt, bs_size] at this; omega⟩
theorem wt_M {m : Map} (h : wtss (m.map eMp) ≤ 1048576) : smM m :=
  ⟨by have := len_wtss (en := eMp) (fun x => by simp only [eMp, wts, D.wt]; omega) m; omega, fun l hl => wt_Rows (by have := wtss_map (en := eMp) hl; simp only [eMp, wts, D.wt] at this; omega)⟩
theorem wt_R {l : List Record} (h : wtss (l.map eR) ≤ 1048576) (hc : ∀ r ∈ l, okN r.Commit ∧ ∀ w ∈ r.Writes, okN w.Table) : smR l :=
  ⟨by have := len_wtss (en := eR) (fun x => by simp only [eR, wts, D.wt]; omega) l; omega, fun r hr => by
    have := wtss_map (en := eR) hr
    simp only [eR, wts, D.wt] at this
    exact ⟨wt_W (by omega), (hc r hr).1⟩⟩
theorem lawAsk {f : FuncId} (hf : ∀ {M : List Map} {R : List Record} {S : List (List UInt8)} {N1 : List Int} {L : List (List (List UInt8))} {W : List Wal} {K N : List Int}, smAsk M R S N1 L W K N → Fun G f [.vs true (cAsk M R S N1 L W K N)] (.bool true, [])) {ds : List D} (h : Fits Try.prog 9 31 ds) (hw : wts ds ≤ 1048576) : ∃ k, callK G k f [.vs true (dsV ds)] = some (.bool true, []) := by
  obtain ⟨⟨M, ⟨R, S, N1, L⟩, W, K, N⟩, rfl, hR, hK, hN⟩ := decAsk (n := 1) ds h
  simp only [eAsk, wts, D.wt] at hw hR hK hN
  have h1 := len_wtss (en := eMaps) (fun x => by simp only [eMaps, wts, D.wt]; omega) M
  have h2 := len_wtss (en := eN) (fun x => by simp [eN, wts, D.wt]) N1
  have h3 := len_wtss (en := fun l : List (List UInt8) => [D.sl (l.map eS)]) (fun x => by simp only [wts, D.wt]; omega) L
  have h4 := len_wtss (en := eWal) (fun x => by simp only [eWal, wts, D.wt]; omega) W
  have h5 := len_wtss (en := eN) (fun x => by simp [eN, wts, D.wt]) K
  have h6 := len_wtss (en := eN) (fun x => by simp [eN, wts, D.wt]) N
  exact hf (M := M) (R := R) (S := S) (N1 := N1) (L := L) (W := W) (K := K) (N := N)
    { m := by omega
      mm := fun m hm => wt_M (by have := wtss_map (en := eMaps) hm; simp only [eMaps, wts, D.wt] at this; omega)
      r := wt_R (by omega) hR
      s := wt_S (by omega)
      n1 := by omega
      l := ⟨by omega, fun l hl => wt_S (by have := wtss_map (en := fun l : List (List UInt8) => [D.sl (l.map eS)]) hl; simp only [wts, D.wt] at this; omega)⟩
      w := by omega
      k := ⟨by omega, hK⟩
      n := ⟨by omega, hN⟩ }
end Go.Mir.Try

/- Walks: the law WalAdds. -/
set_option linter.unusedVariables false
set_option linter.unusedSimpArgs false
set_option maxRecDepth 100000
namespace Go.Mir.Try
open Go.Proofs Go.Mir.Q

theorem sm_R {r : List Record} (h : ∀ x ∈ r, okR x = true) : ∀ x ∈ r, x.Writes.length ≤ 1000000000 := fun x hx => by
  have := (okR_smW (h x hx)).1; omega
theorem addR_full {w : Wal} {r : Record} (h1 : okWal w = true) (h2 : okR r = true) (h3 : ¬ 1073741824 ≤ w.Seq + 1) (h : 512 - w.At < (cnt (spelt r) : Nat)) : addR w r = ([], ⟨0, 0, 0, 0⟩, 5) := by
  unfold addR; rw [if_neg (by rw [h1, h2]; simp), if_neg h3, if_pos h]
theorem addR_ok {w : Wal} {r : Record} (h1 : okWal w = true) (h2 : okR r = true) (h3 : ¬ 1073741824 ≤ w.Seq + 1) (h : ¬ 512 - w.At < (cnt (spelt r) : Nat)) : addR w r = (putsD w.At.toNat (cuts w.Run w.Seq (spelt r)), ⟨w.Run, w.Slot, w.At + (cnt (spelt r) : Nat), w.Seq + 1⟩, 0) := by
  unfold addR; rw [if_neg (by rw [h1, h2]; simp), if_neg h3, if_neg h]
theorem _root_.Go.Mir.Q.Laid.okWal {S : List (List UInt8)} {w : Wal} {m : Map} {l : List Record} (h : Laid S w m l) : Q.okWal w = true ∧ w.Seq + 1 < 1073741824 := by
  have h1 := h.run
  have h2 := h.slot
  have h3 := h.at_
  have h4 := h.seq
  have h5 := h.few
  simp only [Q.okWal, Bool.and_eq_true, decide_eq_true_eq]
  omega
theorem smDo_puts {a : Nat} {l : List (List UInt8)} (hl : all32 l) (hk : l.length ≤ 1000) : smDo (putsD a l ++ [syncD]) := by
  refine ⟨?_, fun d hd => ?_⟩
  · simp only [List.length_append, putsD_len, List.length_singleton]; omega
  · simp only [putsD, List.mem_append, List.mem_map, List.mem_singleton] at hd
    rcases hd with ⟨p, hp, rfl⟩ | rfl
    · have := hl _ (putsW_mem hp).2.2; simp only; omega
    · simp [syncD]
theorem layS_len {S : List (List UInt8)} {run slot : Int} {m : Map} (hS : S.length = 512) : (layS S run slot m).length = 512 := by
  simp only [layS, over_length]; exact hS
theorem layS_32 {S : List (List UInt8)} {run slot : Int} {m : Map} (hS : S.length = 512) (h32 : all32 S) (hm : okM m = true) (h64 : (image m).length ≤ 64) : all32 (layS S run slot m) := by
  have hc := okR_cnt (image_okR hm h64)
  have hst := startS_le (slot := slot)
  exact over_32 (by rw [over_length]; simp; omega) (over_32 (by rw [cuts_len]; omega) h32 cuts_32) (fun s hs => by rw [List.mem_singleton.1 hs]; exact super_32 _ _)
structure AddsP (m : Map) (n : Nat) (x : Nat × List (List UInt8) × Wal × List Record) : Prop where
  k : x.1 ≤ n
  k6 : x.1 ≤ 6
  run : x.2.2.1.Run = 1
  laid : Laid x.2.1 x.2.2.1 m x.2.2.2
def oRd (r : Record) : List V := [.d (.sc (.int .i64 r.Commit)), .d (.sl (r.Writes.map eW))]
theorem toDss_oRd (l : List Record) : toDss (l.map oRd) = some (l.map eR) := toDss_map (fun _ => rfl) l
attribute [push_cast] toDss_oRd
theorem snocR (l : List Record) (r : Record) : l.map oRd ++ [[V.d (D.sc (.int .i64 r.Commit)), V.d (.sl (r.Writes.map eW))]] = (l ++ [r]).map oRd := by simp [oRd]
theorem snocD (l : List Do) : l.map oDo ++ [[V.d (D.sc (.bool true)), V.d (D.sc (.int .i64 0)), V.d (D.sc (.string (bs [])))]] = (l ++ [syncD]).map oDo := by simp [oDo, syncD]

set_option maxHeartbeats 4000000 in
theorem f4 {M : List Map} {R : List Record} {S : List (List UInt8)} {N1 : List Int} {L : List (List (List UInt8))} {W : List Wal} {K N : List Int} (h : smAsk M R S N1 L W K N) : Fun G 4 [.vs true (cAsk M R S N1 L W K N)] (.bool true, []) := by
  obtain ⟨b, hh⟩ := f5 h
  have hm := h.m
  have hmm := h.mm
  have hr := h.r
  have hR1 := hr.1
  have hR2 := hr.2
  refine Fun.of_run (g := g4) (pf := pf4) rfl rfl rfl rfl ?_
  cases b with
  | true => simp (maxSteps := 1000000) (disch := first | assumption | ((try simp only [LEN, LEN2]); omega)) only [push_cast, Int.reduceToNat, Int.reduceEq, Int.reduceNe, Int.reduceLT, Int.reduceLE, Int.reduceAdd, Int.reduceSub, Int.reduceMul, Int.reduceNeg, Nat.reduceEqDiff, Nat.reduceBEq, Nat.reduceBNe, Nat.reduceAdd, Nat.reduceLeDiff, Nat.reduceLT, Nat.reduceMul, ↓reduceIte, reduceCtorEq, g4, pf4, b4, callC_eq hh, callT_eq hh]
  | false =>
  simp (maxSteps := 1000000) (disch := first | assumption | ((try simp only [LEN, LEN2]); omega)) only [push_cast, Int.reduceToNat, Int.reduceEq, Int.reduceNe, Int.reduceLT, Int.reduceLE, Int.reduceAdd, Int.reduceSub, Int.reduceMul, Int.reduceNeg, Nat.reduceEqDiff, Nat.reduceBEq, Nat.reduceBNe, Nat.reduceAdd, Nat.reduceLeDiff, Nat.reduceLT, Nat.reduceMul, ↓reduceIte, reduceCtorEq, g4, pf4, b4, callC_eq hh, callT_eq hh]
  refine run_loop' (fun i : Nat => [(1, T.one (.box (cAsk M R S N1 L W K N))), (3, T.int .i64 i)]) (fun i => i ≤ M.length) (fun i => M.length - i) 0 (by simp) (by simp) (fun i hi => ?_)
  by_cases h1 : (i : Int) < M.length
  · by_cases h2 : (i : Int) < 3
    · have hi' : i < M.length := by omega
      have hsm := hmm M[i] (List.getElem_mem hi')
      obtain ⟨m, hm0⟩ : ∃ m, m = M[i] := ⟨_, rfl⟩
      rw [← hm0] at hsm
      have hsm1 := hsm.1
      by_cases hab : (okM m && decide (1 ≤ m.length ∧ (image m).length ≤ 64)) = true
      · have hab2 := hab
        simp only [Bool.and_eq_true, decide_eq_true_eq] at hab2
        obtain ⟨hok, hl1, h64⟩ := hab2
        have hE := f13 hsm hsm
        rw [decide_eq_true rfl] at hE
        have hdo := fun run slot => (smDo_lay (run := run) (slot := slot) hok h64).1
        have hA := fFormat hok h64
        have hN := fNew0
        have hP := fLay (run := 1) (slot := 0) tape0_len tape0_32 hok h64
        have hLd := Laid.lay (run := 1) (slot := 0) tape0_len tape0_32 (by omega) (by omega) (.inl rfl) hok h64 tape0_z
        have hlen := hLd.len
        have hd := hdo 1 0
        obtain ⟨T', hT⟩ : ∃ T, T = layS tape0 1 0 m := ⟨_, rfl⟩
        rw [← hT] at hP hLd hlen
        obtain ⟨D', hD⟩ : ∃ D, D = layD 1 0 m := ⟨_, rfl⟩
        rw [← hD] at hA hP hd
        obtain ⟨Z, hZ⟩ : ∃ Z, Z = tape0 := ⟨_, rfl⟩
        have hz := tape0_len
        rw [← hZ] at hz hN hP
        simp only [push_cast, Int.reduceToNat, Int.reduceEq, Int.reduceNe, Int.reduceLT, Int.reduceLE, Int.reduceAdd, Int.reduceSub, Int.reduceMul, Int.reduceNeg, Nat.reduceEqDiff, Nat.reduceBEq, Nat.reduceBNe, Nat.reduceAdd, Nat.reduceLeDiff, Nat.reduceLT, Nat.reduceMul, ↓reduceIte, reduceCtorEq, cT, oT, tErr', layT, openR] at hA hN hP
        simp (maxSteps := 1000000) (disch := first | assumption | ((try simp only [LEN, LEN2]); omega)) only [push_cast, Int.reduceToNat, Int.reduceEq, Int.reduceNe, Int.reduceLT, Int.reduceLE, Int.reduceAdd, Int.reduceSub, Int.reduceMul, Int.reduceNeg, Nat.reduceEqDiff, Nat.reduceBEq, Nat.reduceBNe, Nat.reduceAdd, Nat.reduceLeDiff, Nat.reduceLT, Nat.reduceMul, ↓reduceIte, reduceCtorEq, g4, pf4, b4, h1, h2, eMaps, ← hm0, hab, callC_eq hA, callT_eq hA, callC_eq hN, callT_eq hN, callC_eq hP, callT_eq hP]
        refine run_loop' (fun x : Nat × List (List UInt8) × Wal × List Record => [(1, T.one (.box (cAsk M R S N1 L W K N))), (3, T.int .i64 i), (5, T.one (.box (cWal x.2.2.1))), (7, T.one (.box (oT x.2.1 []))), (9, T.one (.own 57 (x.2.2.2.map oRd))), (10, T.int .i64 x.1)]) (AddsP m R.length) (fun x => R.length - x.1) (0, T', ⟨1, 0, 255, 1⟩, []) (by simp) ⟨by simp, by simp, rfl, hLd⟩ (fun ⟨k, S', w, all⟩ hk => ?_)
        obtain ⟨hk, hk6, hrun, hL⟩ := hk
        simp only at hk hk6 hrun hL
        have hlen' := hL.len
        have hall := hL.few.2
        have hokr := hL.okr
        by_cases h3 : (k : Int) < R.length ∧ (k : Int) < 6
        · obtain ⟨h3, h4⟩ := h3
          have hk' : k < R.length := by omega
          obtain ⟨⟨hw1, hw2⟩, hw3⟩ := hR2 R[k] (List.getElem_mem hk')
          obtain ⟨⟨c, ws⟩, hr0⟩ : ∃ r, r = R[k] := ⟨_, rfl⟩
          rw [← hr0] at hw1 hw2 hw3
          simp only at hw1 hw2 hw3
          have hcut : (R.take (k + 1)).drop k = [⟨c, ws⟩] := by rw [List.take_succ_eq_append_getElem hk', List.drop_append_of_le_length (by rw [List.length_take]; omega), List.drop_of_length_le (by rw [List.length_take]; omega), ← hr0]; rfl
          have ek : ((k : Int) + 1).toNat = k + 1 := by omega
          have hMay := f16 (m := m) (R := [⟨c, ws⟩]) hsm ⟨by simp, by simp only [List.mem_singleton]; rintro x rfl; exact ⟨⟨hw1, hw2⟩, hw3⟩⟩
          simp only [List.all_cons, List.all_nil, Bool.and_true, hok] at hMay
          cases hmr : mayR m.length ⟨c, ws⟩ with
          | false =>
            rw [hmr] at hMay
            simp only [push_cast, Int.reduceToNat, Int.reduceEq, Int.reduceNe, Int.reduceLT, Int.reduceLE, Int.reduceAdd, Int.reduceSub, Int.reduceMul, Int.reduceNeg, Nat.reduceEqDiff, Nat.reduceBEq, Nat.reduceBNe, Nat.reduceAdd, Nat.reduceLeDiff, Nat.reduceLT, Nat.reduceMul, ↓reduceIte, reduceCtorEq, eR] at hMay
            simp (maxSteps := 1000000) (disch := first | assumption | ((try simp only [LEN, LEN2]); omega)) only [push_cast, Int.reduceToNat, Int.reduceEq, Int.reduceNe, Int.reduceLT, Int.reduceLE, Int.reduceAdd, Int.reduceSub, Int.reduceMul, Int.reduceNeg, Nat.reduceEqDiff, Nat.reduceBEq, Nat.reduceBNe, Nat.reduceAdd, Nat.reduceLeDiff, Nat.reduceLT, Nat.reduceMul, ↓reduceIte, reduceCtorEq, g4, pf4, b4, h3, h4, eMaps, ← hm0, hcut, ek, eR, callC_eq hMay, callT_eq hMay]
            exact ⟨(k + 1, S', w, all), by simp, ⟨by simp only; omega, by simp only; omega, hrun, hL⟩, by simp only; omega⟩
          | true =>
            rw [hmr] at hMay
            have hokr0 : okR ⟨c, ws⟩ = true := by simp only [mayR, Bool.and_eq_true] at hmr; exact hmr.1
            obtain ⟨hw, hsq⟩ := hL.okWal
            have hAdd := f17 (w := w) (n := c) (l := ws) ⟨hw1, hw2⟩
            have hcb := okR_cnt hokr0
            by_cases hfull : 512 - w.At < (cnt (spelt ⟨c, ws⟩) : Nat)
            · rw [addR_full hw hokr0 (by omega) hfull] at hAdd
              obtain ⟨a, b, a', d⟩ := w
              simp only [push_cast, Int.reduceToNat, Int.reduceEq, Int.reduceNe, Int.reduceLT, Int.reduceLE, Int.reduceAdd, Int.reduceSub, Int.reduceMul, Int.reduceNeg, Nat.reduceEqDiff, Nat.reduceBEq, Nat.reduceBNe, Nat.reduceAdd, Nat.reduceLeDiff, Nat.reduceLT, Nat.reduceMul, ↓reduceIte, reduceCtorEq, eR, layT] at hMay hAdd
              simp (maxSteps := 1000000) (disch := first | assumption | ((try simp only [LEN, LEN2]); omega)) only [push_cast, Int.reduceToNat, Int.reduceEq, Int.reduceNe, Int.reduceLT, Int.reduceLE, Int.reduceAdd, Int.reduceSub, Int.reduceMul, Int.reduceNeg, Nat.reduceEqDiff, Nat.reduceBEq, Nat.reduceBNe, Nat.reduceAdd, Nat.reduceLeDiff, Nat.reduceLT, Nat.reduceMul, ↓reduceIte, reduceCtorEq, g4, pf4, b4, h3, h4, eMaps, ← hm0, ← hr0, hcut, ek, eR, callC_eq hMay, callT_eq hMay, callC_eq hAdd, callT_eq hAdd]
              exact ⟨(k + 1, S', ⟨a, b, a', d⟩, all), by simp, ⟨by simp only; omega, by simp only; omega, hrun, hL⟩, by simp only; omega⟩
            · rw [addR_ok hw hokr0 (by omega) hfull] at hAdd
              have hL2 := hL.add hokr0 (by omega)
              have hat := hL.at_
              have hO := fOpen hl1 hL2
              have hpl := putsD_len (cuts w.Run w.Seq (spelt ⟨c, ws⟩)) w.At.toNat
              have hcl := cuts_len w.Run w.Seq (spelt ⟨c, ws⟩)
              have hP := fPlay hL.len hL.a32 (smDo_puts (a := w.At.toNat) (l := cuts w.Run w.Seq (spelt ⟨c, ws⟩)) cuts_32 (by omega)) (play_over (by rw [hL.len]; omega) cuts_32 (by omega))
              have hQ := f18 (a := all ++ [⟨c, ws⟩]) (b := all ++ [⟨c, ws⟩]) (by rw [List.length_append]; simp; omega) (by rw [List.length_append]; simp; omega) (sm_R hL2.okr) (sm_R hL2.okr)
              rw [decide_eq_true rfl] at hQ
              have hlen2 := hL2.len
              obtain ⟨S2, hS2⟩ : ∃ T, T = over S' w.At.toNat (cuts w.Run w.Seq (spelt ⟨c, ws⟩)) := ⟨_, rfl⟩
              rw [← hS2] at hL2 hO hP hlen2
              obtain ⟨D2, hD2⟩ : ∃ D, D = putsD w.At.toNat (cuts w.Run w.Seq (spelt ⟨c, ws⟩)) := ⟨_, rfl⟩
              rw [← hD2] at hAdd hP hpl
              obtain ⟨A2, hA2⟩ : ∃ D, D = all ++ [⟨c, ws⟩] := ⟨_, rfl⟩
              have hAl : A2.length = all.length + 1 := by rw [hA2, List.length_append]; rfl
              have hsn := snocR all ⟨c, ws⟩
              rw [← hA2] at hL2 hO hQ hsn
              have hsd := snocD D2
              obtain ⟨a, b, a', d⟩ := w
              simp only at hrun hsn
              simp only [push_cast, Int.reduceToNat, Int.reduceEq, Int.reduceNe, Int.reduceLT, Int.reduceLE, Int.reduceAdd, Int.reduceSub, Int.reduceMul, Int.reduceNeg, Nat.reduceEqDiff, Nat.reduceBEq, Nat.reduceBNe, Nat.reduceAdd, Nat.reduceLeDiff, Nat.reduceLT, Nat.reduceMul, ↓reduceIte, reduceCtorEq, cT, oT, tErr', eR, layT, openR] at hMay hAdd hP hO hQ
              simp (maxSteps := 1000000) (disch := first | assumption | ((try simp only [LEN, LEN2]); omega)) only [push_cast, Int.reduceToNat, Int.reduceEq, Int.reduceNe, Int.reduceLT, Int.reduceLE, Int.reduceAdd, Int.reduceSub, Int.reduceMul, Int.reduceNeg, Nat.reduceEqDiff, Nat.reduceBEq, Nat.reduceBNe, Nat.reduceAdd, Nat.reduceLeDiff, Nat.reduceLT, Nat.reduceMul, ↓reduceIte, reduceCtorEq, g4, pf4, b4, h3, h4, eMaps, ← hm0, ← hr0, hcut, ek, eR, callC_eq hMay, callT_eq hMay, callC_eq hAdd, callT_eq hAdd, hsd, callC_eq hP, callT_eq hP, hsn, callC_eq hO, callT_eq hO, callC_eq hE, callT_eq hE, callC_eq hQ, callT_eq hQ]
              exact ⟨(k + 1, S2, _, A2), rfl, ⟨by simp only; omega, by simp only; omega, hrun, hL2⟩, by simp only; omega⟩
        · obtain ⟨hw, hsq⟩ := hL.okWal
          have hA := fSave hL (by omega) (by omega) hok h64
          have hP := fLay (run := w.Run + 1) (slot := 1 - w.Slot) hL.len hL.a32 hok h64
          have hlen2 := layS_len (S := S') (run := w.Run + 1) (slot := 1 - w.Slot) (m := m) hL.len
          have hO := fOpenT hlen2 (layS_32 hL.len hL.a32 hok h64) hok hl1 (hL.save (by omega) hok h64)
          have hd := hdo (w.Run + 1) (1 - w.Slot)
          obtain ⟨T2, hT⟩ : ∃ T, T = layS S' (w.Run + 1) (1 - w.Slot) m := ⟨_, rfl⟩
          rw [← hT] at hP hO hlen2
          obtain ⟨D2, hD⟩ : ∃ D, D = layD (w.Run + 1) (1 - w.Slot) m := ⟨_, rfl⟩
          rw [← hD] at hA hP hd
          obtain ⟨a, b, c, d⟩ := w
          simp only [push_cast, Int.reduceToNat, Int.reduceEq, Int.reduceNe, Int.reduceLT, Int.reduceLE, Int.reduceAdd, Int.reduceSub, Int.reduceMul, Int.reduceNeg, Nat.reduceEqDiff, Nat.reduceBEq, Nat.reduceBNe, Nat.reduceAdd, Nat.reduceLeDiff, Nat.reduceLT, Nat.reduceMul, ↓reduceIte, reduceCtorEq, cT, oT, tErr', layT, openR] at hA hP hO
          by_cases h3' : (k : Int) < R.length
          · have h4' : ¬ (k : Int) < 6 := fun h => h3 ⟨h3', h⟩
            simp (maxSteps := 1000000) (disch := first | assumption | ((try simp only [LEN, LEN2]); omega)) only [push_cast, Int.reduceToNat, Int.reduceEq, Int.reduceNe, Int.reduceLT, Int.reduceLE, Int.reduceAdd, Int.reduceSub, Int.reduceMul, Int.reduceNeg, Nat.reduceEqDiff, Nat.reduceBEq, Nat.reduceBNe, Nat.reduceAdd, Nat.reduceLeDiff, Nat.reduceLT, Nat.reduceMul, ↓reduceIte, reduceCtorEq, g4, pf4, b4, h3', h4', eMaps, ← hm0, callC_eq hA, callT_eq hA, callC_eq hP, callT_eq hP, callC_eq hO, callT_eq hO]
            exact ⟨i + 1, by simp, by omega, by omega⟩
          · simp (maxSteps := 1000000) (disch := first | assumption | ((try simp only [LEN, LEN2]); omega)) only [push_cast, Int.reduceToNat, Int.reduceEq, Int.reduceNe, Int.reduceLT, Int.reduceLE, Int.reduceAdd, Int.reduceSub, Int.reduceMul, Int.reduceNeg, Nat.reduceEqDiff, Nat.reduceBEq, Nat.reduceBNe, Nat.reduceAdd, Nat.reduceLeDiff, Nat.reduceLT, Nat.reduceMul, ↓reduceIte, reduceCtorEq, g4, pf4, b4, h3', eMaps, ← hm0, callC_eq hA, callT_eq hA, callC_eq hP, callT_eq hP, callC_eq hO, callT_eq hO]
            exact ⟨i + 1, by simp, by omega, by omega⟩
      · rw [Bool.not_eq_true] at hab
        simp (maxSteps := 1000000) (disch := first | assumption | ((try simp only [LEN, LEN2]); omega)) only [push_cast, Int.reduceToNat, Int.reduceEq, Int.reduceNe, Int.reduceLT, Int.reduceLE, Int.reduceAdd, Int.reduceSub, Int.reduceMul, Int.reduceNeg, Nat.reduceEqDiff, Nat.reduceBEq, Nat.reduceBNe, Nat.reduceAdd, Nat.reduceLeDiff, Nat.reduceLT, Nat.reduceMul, ↓reduceIte, reduceCtorEq, g4, pf4, b4, h1, h2, eMaps, ← hm0, hab]
        exact ⟨i + 1, by simp, by omega, by omega⟩
    · simp (maxSteps := 1000000) (disch := first | assumption | ((try simp only [LEN, LEN2]); omega)) only [push_cast, Int.reduceToNat, Int.reduceEq, Int.reduceNe, Int.reduceLT, Int.reduceLE, Int.reduceAdd, Int.reduceSub, Int.reduceMul, Int.reduceNeg, Nat.reduceEqDiff, Nat.reduceBEq, Nat.reduceBNe, Nat.reduceAdd, Nat.reduceLeDiff, Nat.reduceLT, Nat.reduceMul, ↓reduceIte, reduceCtorEq, g4, pf4, b4, h1, h2]
      done
  · simp (maxSteps := 1000000) (disch := first | assumption | ((try simp only [LEN, LEN2]); omega)) only [push_cast, Int.reduceToNat, Int.reduceEq, Int.reduceNe, Int.reduceLT, Int.reduceLE, Int.reduceAdd, Int.reduceSub, Int.reduceMul, Int.reduceNeg, Nat.reduceEqDiff, Nat.reduceBEq, Nat.reduceBNe, Nat.reduceAdd, Nat.reduceLeDiff, Nat.reduceLT, Nat.reduceMul, ↓reduceIte, reduceCtorEq, g4, pf4, b4, h1]
    done
end Go.Mir.Try
