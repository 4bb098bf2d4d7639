/- Map after map, saved again and again, the last one is opened, by turns in both slots, without records. Part 6 of its proof. -/
import Derived.Test.YtpjomofniedilaaMirWs5
import Derived.WalkKit
import Derived.ProofKit
import Derived.OpenShut
import Derived.JoinedCond
import Derived.Below
/- Walks: the law WalSaves. -/
set_option linter.unusedVariables false
set_option linter.unusedSimpArgs false
set_option maxRecDepth 100000
namespace Go.Mir.Try
open Go.Proofs Go.Mir.Q

structure SavesP (M : List Map) (x : Nat × Bool × List (List UInt8) × Wal) : Prop where
  i : x.1 ≤ M.length
  i6 : x.1 ≤ 6
  st : x.2.1 = false ∧ x.2.2.1 = [] ∧ x.2.2.2 = ⟨0, 0, 0, 0⟩ ∨ x.2.1 = true ∧ x.2.2.2.Run ≤ x.1 ∧ ∃ m, Laid x.2.2.1 x.2.2.2 m []
theorem _root_.Go.Mir.Q.Laid.zeros {S : List (List UInt8)} {w : Wal} {m : Map} (h : Laid S w m []) : ∀ s ∈ S.drop 255, s = Q.zeros := by
  obtain ⟨T', hT, hz⟩ := h.log
  rw [hT]
  exact hz
set_option maxHeartbeats 4000000 in
theorem f3 {M : List Map} {R : List Record} {S : List (List UInt8)} {N1 : List Int} {L : List (List (List UInt8))} {W : List Wal} {K N : List Int} (h : smAsk M R S N1 L W K N) : Fun G 3 [.vs true (cAsk M R S N1 L W K N)] (.bool true, []) := by
  obtain ⟨b, hh⟩ := f5 h
  have hm := h.m
  have hmm := h.mm
  refine Fun.of_run (g := g3) (pf := pf3) rfl rfl rfl rfl ?_
  cases b with
  | true => simp (maxSteps := 1000000) (disch := first | assumption | ((try simp only [LEN, LEN2]); omega)) only [push_cast, Int.reduceToNat, Int.reduceEq, Int.reduceNe, Int.reduceLT, Int.reduceLE, Int.reduceAdd, Int.reduceSub, Int.reduceMul, Int.reduceNeg, Nat.reduceEqDiff, Nat.reduceBEq, Nat.reduceBNe, Nat.reduceAdd, Nat.reduceLeDiff, Nat.reduceLT, Nat.reduceMul, ↓reduceIte, reduceCtorEq, g3, pf3, b3, callC_eq hh, callT_eq hh]
  | false =>
  have hm00 := f14 (m := []) ⟨by simp, by simp⟩
  simp only [push_cast, Int.reduceToNat, Int.reduceEq, Int.reduceNe, Int.reduceLT, Int.reduceLE, Int.reduceAdd, Int.reduceSub, Int.reduceMul, Int.reduceNeg, Nat.reduceEqDiff, Nat.reduceBEq, Nat.reduceBNe, Nat.reduceAdd, Nat.reduceLeDiff, Nat.reduceLT, Nat.reduceMul, ↓reduceIte, reduceCtorEq, show okM [] = true from rfl] at hm00
  simp (maxSteps := 1000000) (disch := first | assumption | ((try simp only [LEN, LEN2]); omega)) only [push_cast, Int.reduceToNat, Int.reduceEq, Int.reduceNe, Int.reduceLT, Int.reduceLE, Int.reduceAdd, Int.reduceSub, Int.reduceMul, Int.reduceNeg, Nat.reduceEqDiff, Nat.reduceBEq, Nat.reduceBNe, Nat.reduceAdd, Nat.reduceLeDiff, Nat.reduceLT, Nat.reduceMul, ↓reduceIte, reduceCtorEq, g3, pf3, b3, callC_eq hh, callT_eq hh]
  refine run_loop' (fun x : Nat × Bool × List (List UInt8) × Wal => [(1, T.one (.box (cAsk M R S N1 L W K N))), (3, T.one (.box (oT x.2.2.1 []))), (4, T.one (.box (cWal x.2.2.2))), (5, T.bool x.2.1), (6, T.int .i64 x.1)]) (SavesP M) (fun x => M.length - x.1) (0, false, [], ⟨0, 0, 0, 0⟩) (by simp) ⟨by simp, by simp, .inl ⟨rfl, rfl, rfl⟩⟩ (fun ⟨i, bg, S', w⟩ hi => ?_)
  obtain ⟨hi, hi6, hst⟩ := hi
  simp only at hi hi6 hst
  by_cases h1 : (i : Int) < M.length
  · by_cases h2 : (i : Int) < 6
    · have hi' : i < M.length := by omega
      have hsm := hmm M[i] (List.getElem_mem hi')
      obtain ⟨m, hm0⟩ : ∃ m, m = M[i] := ⟨_, rfl⟩
      rw [← hm0] at hsm
      have hsm1 := hsm.1
      by_cases hab : (okM m && decide (1 ≤ m.length ∧ (image m).length ≤ 64)) = true
      · have hab2 := hab
        simp only [Bool.and_eq_true, decide_eq_true_eq] at hab2
        obtain ⟨hok, hl1, h64⟩ := hab2
        have hE := f13 hsm hsm
        rw [decide_eq_true rfl] at hE
        have hdo := fun run slot => (smDo_lay (run := run) (slot := slot) hok h64).1
        rcases hst with ⟨rfl, rfl, rfl⟩ | ⟨rfl, hrun, m', hL⟩
        · have hA := fFormat hok h64
          have hN := fNew0
          have hP := fLay (run := 1) (slot := 0) tape0_len tape0_32 hok h64
          have hLd := Laid.lay (run := 1) (slot := 0) tape0_len tape0_32 (by omega) (by omega) (.inl rfl) hok h64 tape0_z
          have hO := fOpen hl1 hLd
          have hlen := hLd.len
          have hd := hdo 1 0
          obtain ⟨T', hT⟩ : ∃ T, T = layS tape0 1 0 m := ⟨_, rfl⟩
          rw [← hT] at hP hLd hO hlen
          obtain ⟨D', hD⟩ : ∃ D, D = layD 1 0 m := ⟨_, rfl⟩
          rw [← hD] at hA hP hd
          obtain ⟨Z, hZ⟩ : ∃ Z, Z = tape0 := ⟨_, rfl⟩
          have hz := tape0_len
          rw [← hZ] at hz hN hP
          simp only [push_cast, Int.reduceToNat, Int.reduceEq, Int.reduceNe, Int.reduceLT, Int.reduceLE, Int.reduceAdd, Int.reduceSub, Int.reduceMul, Int.reduceNeg, Nat.reduceEqDiff, Nat.reduceBEq, Nat.reduceBNe, Nat.reduceAdd, Nat.reduceLeDiff, Nat.reduceLT, Nat.reduceMul, ↓reduceIte, reduceCtorEq, cT, oT, tErr', layT, openR] at hA hN hP hO
          simp (maxSteps := 1000000) (disch := first | assumption | ((try simp only [LEN, LEN2]); omega)) only [push_cast, Int.reduceToNat, Int.reduceEq, Int.reduceNe, Int.reduceLT, Int.reduceLE, Int.reduceAdd, Int.reduceSub, Int.reduceMul, Int.reduceNeg, Nat.reduceEqDiff, Nat.reduceBEq, Nat.reduceBNe, Nat.reduceAdd, Nat.reduceLeDiff, Nat.reduceLT, Nat.reduceMul, ↓reduceIte, reduceCtorEq, g3, pf3, b3, h1, h2, eMaps, ← hm0, hab, callC_eq hA, callT_eq hA, callC_eq hN, callT_eq hN, callC_eq hP, callT_eq hP, callC_eq hO, callT_eq hO, callC_eq hE, callT_eq hE]
          exact ⟨(i + 1, true, T', ⟨1, 0, 255, 1⟩), by simp, ⟨by simp only; omega, by simp only; omega, .inr ⟨rfl, by simp only; omega, m, hLd⟩⟩, by simp only; omega⟩
        · have hseq := hL.seq
          have hrn := hL.run
          have hslot := hL.slot
          have hz := hL.zeros
          have hA := fSave hL (by omega) (by rw [hseq]; simp) hok h64
          have hP := fLay (run := w.Run + 1) (slot := 1 - w.Slot) hL.len hL.a32 hok h64
          have hLd := Laid.lay (run := w.Run + 1) (slot := 1 - w.Slot) hL.len hL.a32 (by omega) (by omega) (by omega) hok h64 hz
          have hO := fOpen hl1 hLd
          have hlen := hLd.len
          have hlen0 := hL.len
          have hd := hdo (w.Run + 1) (1 - w.Slot)
          obtain ⟨T', hT⟩ : ∃ T, T = layS S' (w.Run + 1) (1 - w.Slot) m := ⟨_, rfl⟩
          rw [← hT] at hP hLd hO hlen
          obtain ⟨D', hD⟩ : ∃ D, D = layD (w.Run + 1) (1 - w.Slot) m := ⟨_, rfl⟩
          rw [← hD] at hA hP hd
          have hne : ¬ 1 - w.Slot = w.Slot := by omega
          obtain ⟨a, b, c, d⟩ := w
          simp only at hne hrun
          simp only [push_cast, Int.reduceToNat, Int.reduceEq, Int.reduceNe, Int.reduceLT, Int.reduceLE, Int.reduceAdd, Int.reduceSub, Int.reduceMul, Int.reduceNeg, Nat.reduceEqDiff, Nat.reduceBEq, Nat.reduceBNe, Nat.reduceAdd, Nat.reduceLeDiff, Nat.reduceLT, Nat.reduceMul, ↓reduceIte, reduceCtorEq, cT, oT, tErr', layT, openR] at hA hP hO
          simp (maxSteps := 1000000) (disch := first | assumption | ((try simp only [LEN, LEN2]); omega)) only [push_cast, Int.reduceToNat, Int.reduceEq, Int.reduceNe, Int.reduceLT, Int.reduceLE, Int.reduceAdd, Int.reduceSub, Int.reduceMul, Int.reduceNeg, Nat.reduceEqDiff, Nat.reduceBEq, Nat.reduceBNe, Nat.reduceAdd, Nat.reduceLeDiff, Nat.reduceLT, Nat.reduceMul, ↓reduceIte, reduceCtorEq, g3, pf3, b3, h1, h2, eMaps, ← hm0, hab, callC_eq hA, callT_eq hA, callC_eq hP, callT_eq hP, callC_eq hO, callT_eq hO, callC_eq hE, callT_eq hE, hne]
          exact ⟨(i + 1, true, T', ⟨a + 1, 1 - b, 255, 1⟩), by simp, ⟨by simp only; omega, by simp only; omega, .inr ⟨rfl, by simp only; omega, m, hLd⟩⟩, by simp only; omega⟩
      · rw [Bool.not_eq_true] at hab
        simp (maxSteps := 1000000) (disch := first | assumption | ((try simp only [LEN, LEN2]); omega)) only [push_cast, Int.reduceToNat, Int.reduceEq, Int.reduceNe, Int.reduceLT, Int.reduceLE, Int.reduceAdd, Int.reduceSub, Int.reduceMul, Int.reduceNeg, Nat.reduceEqDiff, Nat.reduceBEq, Nat.reduceBNe, Nat.reduceAdd, Nat.reduceLeDiff, Nat.reduceLT, Nat.reduceMul, ↓reduceIte, reduceCtorEq, g3, pf3, b3, h1, h2, eMaps, ← hm0, hab]
        refine ⟨(i + 1, bg, S', w), by simp, ⟨by simp only; omega, by simp only; omega, ?_⟩, by simp only; omega⟩
        rcases hst with hst | ⟨a, b, c⟩
        · exact .inl hst
        · exact .inr ⟨a, by simp only; omega, c⟩
    · simp (maxSteps := 1000000) (disch := first | assumption | ((try simp only [LEN, LEN2]); omega)) only [push_cast, Int.reduceToNat, Int.reduceEq, Int.reduceNe, Int.reduceLT, Int.reduceLE, Int.reduceAdd, Int.reduceSub, Int.reduceMul, Int.reduceNeg, Nat.reduceEqDiff, Nat.reduceBEq, Nat.reduceBNe, Nat.reduceAdd, Nat.reduceLeDiff, Nat.reduceLT, Nat.reduceMul, ↓reduceIte, reduceCtorEq, g3, pf3, b3, h1, h2, callC_eq hm00, callT_eq hm00]
      done
  · simp (maxSteps := 1000000) (disch := first | assumption | ((try simp only [LEN, LEN2]); omega)) only [push_cast, Int.reduceToNat, Int.reduceEq, Int.reduceNe, Int.reduceLT, Int.reduceLE, Int.reduceAdd, Int.reduceSub, Int.reduceMul, Int.reduceNeg, Nat.reduceEqDiff, Nat.reduceBEq, Nat.reduceBNe, Nat.reduceAdd, Nat.reduceLeDiff, Nat.reduceLT, Nat.reduceMul, ↓reduceIte, reduceCtorEq, g3, pf3, b3, h1, callC_eq hm00, callT_eq hm00]
    done
end Go.Mir.Try

/- The log laws' ask, told from its value. -/
set_option linter.unusedVariables false
set_option maxRecDepth 100000
namespace Go.Mir.Try
open Go.Proofs Go.Mir.Q

theorem decS {n : Nat} : Dec Try.prog (n + 1) 9 eS (fun _ => True) := dec_str Try.underlying9
theorem decN {n : Nat} : Dec Try.prog (n + 1) 3 eN okN := dec_int Try.underlying3
theorem decRow {n : Nat} : Dec Try.prog (n + 2) 86 eRow (fun _ => True) :=
  dec_struct (fun x => (⟨x.1, x.2.1⟩ : Row)) Try.underlying86 (decFs_cons (dec_str Try.underlying9) (decFs_cons (dec_str Try.underlying9) decFs_nil)) (fun _ => by rfl) (fun _ _ => trivial)
theorem decWrite {n : Nat} : Dec Try.prog (n + 2) 89 eW (fun w => okN w.Table) :=
  dec_struct (fun x => (⟨x.1, x.2.1, x.2.2.1, x.2.2.2.1⟩ : Write)) Try.underlying89 (decFs_cons (dec_int Try.underlying3) (decFs_cons (dec_str Try.underlying9) (decFs_cons (dec_str Try.underlying9) (decFs_cons (dec_bool Try.underlying4) decFs_nil)))) (fun _ => by rfl) (fun _ h => by exact h.1)
theorem decRec {n : Nat} : Dec Try.prog (n + 4) 57 eR (fun r => okN r.Commit ∧ ∀ w ∈ r.Writes, okN w.Table) :=
  dec_struct (fun x => (⟨x.1, x.2.1⟩ : Record)) Try.underlying57 (decFs_cons (dec_int Try.underlying3) (decFs_cons (dec_slice Try.underlying55 decWrite) decFs_nil)) (fun _ => by rfl) (fun _ h => by exact ⟨h.1, h.2.1⟩)
theorem decWal {n : Nat} : Dec Try.prog (n + 2) 37 eWal (fun w => okN w.Run ∧ okN w.Slot ∧ okN w.At ∧ okN w.Seq) :=
  dec_struct (fun x => (⟨x.1, x.2.1, x.2.2.1, x.2.2.2.1⟩ : Wal)) Try.underlying37 (decFs_cons (dec_int Try.underlying3) (decFs_cons (dec_int Try.underlying3) (decFs_cons (dec_int Try.underlying3) (decFs_cons (dec_int Try.underlying3) decFs_nil)))) (fun _ => by rfl) (fun _ h => by exact ⟨h.1, h.2.1, h.2.2.1, h.2.2.2.1⟩)
abbrev A17 := List Record × List (List UInt8) × List Int × List (List (List UInt8))
def e17 (s : A17) : List D := [.sl (s.1.map eR), .sl (s.2.1.map eS), .sl (s.2.2.1.map eN), .sl (s.2.2.2.map fun l => [.sl (l.map eS)])]
theorem dec17 {n : Nat} : Dec Try.prog (n + 6) 28 e17 (fun s => ∀ r ∈ s.1, okN r.Commit ∧ ∀ w ∈ r.Writes, okN w.Table) :=
  dec_struct (fun x => (x.1, x.2.1, x.2.2.1, x.2.2.2.1)) Try.underlying28 (decFs_cons (dec_slice Try.underlying23 decRec) (decFs_cons (dec_slice Try.underlying24 decS) (decFs_cons (dec_slice Try.underlying25 decN) (decFs_cons (dec_slice Try.underlying26 (dec_slice Try.underlying24 decS)) decFs_nil)))) (fun _ => by rfl) (fun _ h => by exact h.1)
abbrev A19 := List Map × A17 × List Wal × List Int × List Int
def eAsk (s : A19) : List D := [.sl (s.1.map eMaps), .sl (s.2.1.1.map eR), .sl (s.2.1.2.1.map eS), .sl (s.2.1.2.2.1.map eN), .sl (s.2.1.2.2.2.map fun l => [.sl (l.map eS)]), .sl (s.2.2.1.map eWal), .sl (s.2.2.2.1.map eN), .sl (s.2.2.2.2.map eN)]
theorem decAsk {n : Nat} : Dec Try.prog (n + 8) 31 eAsk (fun s => (∀ r ∈ s.2.1.1, okN r.Commit ∧ ∀ w ∈ r.Writes, okN w.Table) ∧ (∀ x ∈ s.2.2.2.1, okN x) ∧ ∀ x ∈ s.2.2.2.2, okN x) :=
  dec_struct (fun x => (x.1, x.2.1, x.2.2.1, x.2.2.2.1, x.2.2.2.2.1)) Try.underlying31 (decFs_cons (dec_slice Try.underlying22 (dec_slice Try.underlying39 (dec_slice Try.underlying83 decRow))) (decFs_cons dec17 (decFs_cons (dec_slice Try.underlying29 decWal) (decFs_cons (dec_slice Try.underlying25 decN) (decFs_cons (dec_slice Try.underlying25 decN) decFs_nil))))) (fun _ => by rfl) (fun _ h => by exact ⟨h.2.1, h.2.2.2.1, h.2.2.2.2.1⟩)

theorem wt_S {l : List (List UInt8)} (h : wtss (l.map eS) ≤ 1048576) : smS l :=
  ⟨by have := len_wtss (en := eS) (fun x => by simp [eS, wts, D.wt]) l; omega, fun s hs => by have := wtss_map (en := eS) hs; simp only [eS, wts, D.wt, bs_size] at this; omega⟩
theorem wt_W {l : List Write} (h : wtss (l.map eW) ≤ 1048576) : smW l :=
  ⟨by have := len_wtss (en := eW) (fun x => by simp only [eW, wts, D.wt]; omega) l; omega, fun s hs => by have := wtss_map (en := eW) hs; simp only [eW, wts, D.wt, bs_size] at this; omega⟩
theorem wt_Rows {l : List Row} (h : wtss (l.map eRow) ≤ 1048576) : smRows l :=
  ⟨by have := len_wtss (en := eRow) (fun x => by simp only [eRow, wts, D.wt]; omega) l; omega, fun s hs => by have := wtss_map (en := eRow) hs; simp only [eRow, wts, D.wt, bs_size] at this; omega⟩
theorem wt_M {m : Map} (h : wtss (m.map eMp) ≤ 1048576) : smM m :=
  ⟨by have := len_wtss (en := eMp) (fun x => by simp only [eMp, wts, D.wt]; omega) m; omega, fun l hl => wt_Rows (by have := wtss_map (en := eMp) hl; simp only [eMp, wts, D.wt] at this; omega)⟩
theorem wt_R {l : List Record} (h : wtss (l.map eR) ≤ 1048576) (hc : ∀ r ∈ l, okN r.Commit ∧ ∀ w ∈ r.Writes, okN w.Table) : smR l :=
  ⟨by have := len_wtss (en := eR) (fun x => by simp only [eR, wts, D.wt]; omega) l; omega, fun r hr => by
    have := wtss_map (en := eR) hr
    simp only [eR, wts, D.wt] at this
    exact ⟨wt_W (by omega), (hc r hr).1⟩⟩
theorem lawAsk {f : FuncId} (hf : ∀ {M : List Map} {R : List Record} {S : List (List UInt8)} {N1 : List Int} {L : List (List (List UInt8))} {W : List Wal} {K N : List Int}, smAsk M R S N1 L W K N → Fun G f [.vs true (cAsk M R S N1 L W K N)] (.bool true, [])) {ds : List D} (h : Fits Try.prog 9 31 ds) (hw : wts ds ≤ 1048576) : ∃ k, callK G k f [.vs true (dsV ds)] = some (.bool true, []) := by
  obtain ⟨⟨M, ⟨R, S, N1, L⟩, W, K, N⟩, rfl, hR, hK, hN⟩ := decAsk (n := 1) ds h
  simp only [eAsk, wts, D.wt] at hw hR hK hN
  have h1 := len_wtss (en := eMaps) (fun x => by simp only [eMaps, wts, D.wt]; omega) M
  have h2 := len_wtss (en := eN) (fun x => by simp [eN, wts, D.wt]) N1
  have h3 := len_wtss (en := fun l : List (List UInt8) => [D.sl (l.map eS)]) (fun x => by simp only [wts, D.wt]; omega) L
  have h4 := len_wtss (en := eWal) (fun x => by simp only [eWal, wts, D.wt]; omega) W
  have h5 := len_wtss (en := eN) (fun x => by simp [eN, wts, D.wt]) K
  have h6 := len_wtss (en := eN) (fun x => by simp [eN, wts, D.wt]) N
  exact hf (M := M) (R := R) (S := S) (N1 := N1) (L := L) (W := W) (K := K) (N := N)
    { m := by omega
      mm := fun m hm => wt_M (by have := wtss_map (en := eMaps) hm; simp only [eMaps, wts, D.wt] at this; omega)
      r := wt_R (by omega) hR
      s := wt_S (by omega)
      n1 := by omega
      l := ⟨by omega, fun l hl => wt_S (by have := wtss_map (en := fun l : List (List UInt8) => [D.sl (l.map eS)]) hl; simp only [wts, D.wt] at this; omega)⟩
      w := by omega
      k := ⟨by omega, hK⟩
      n := ⟨by omega, hN⟩ }
end Go.Mir.Try
