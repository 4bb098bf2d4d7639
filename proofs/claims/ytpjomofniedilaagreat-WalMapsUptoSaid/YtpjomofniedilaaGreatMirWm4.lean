/- The law WalMaps holds: a map with records one by one is that with all of them, with what was written last, or without what is gone, for inputs up to the stated size. Part 4 of its proof. -/
import Derived.Test.YtpjomofniedilaaGreatMirWm3
import Derived.RangeFuncNested
import Derived.RangeFuncBound
import Derived.RangeFuncCalls
import Derived.RangeFuncLeaves
import Derived.RangeFuncBox
import Derived.Shelf.Abstract
import Derived.Shelf.RegionOpen
import Derived.OwnWalkIn
import Derived.TacticsInMore
import Derived.LoopNIn
import Derived.LoopIn
import Derived.Lib.Hide
import Derived.Test.YtpjomofniedilaaGreatProg
import Derived.KernelRfl
set_option linter.unusedVariables false
set_option linter.unusedSimpArgs false
set_option maxRecDepth 100000
namespace Go.Mir.Q
open Go Go.Mir
theorem lb_at {l : List Row} {k : List UInt8} {i : Nat} (hi : i ≤ l.length) (h1 : ∀ r ∈ l.take i, Op.bytesLess r.Key k = true) (h2 : ∀ r ∈ l.drop i, Op.bytesLess r.Key k = false) : lb k l = i := by
  unfold lb
  have e : l = l.take i ++ l.drop i := (List.take_append_drop i l).symm
  rw [e, List.takeWhile_append_of_pos h1]
  have : (l.drop i).takeWhile (fun r => Op.bytesLess r.Key k) = [] := by
    cases hd : l.drop i with
    | nil => rfl
    | cons r t => rw [hd] at h2; simp [List.takeWhile_cons, h2 r (by simp)]
  rw [this, List.append_nil, List.length_take]; omega
theorem there_at {l : List Row} {k : List UInt8} {i : Nat} (hu : upR l) (hi : i ≤ l.length) (h1 : ∀ r ∈ l.take i, Op.bytesLess r.Key k = true) (h2 : ∀ r ∈ l.drop i, Op.bytesLess r.Key k = false) :
    thereR k l = match l[i]? with | some r => decide (r.Key = k) | none => false := by
  have hn : ∀ r ∈ l.take i, decide (r.Key = k) = false := fun r hr => by
    rw [decide_eq_false_iff_not]; intro e
    have := h1 r hr
    rw [e, less_self] at this; cases this
  unfold thereR
  have e : l = l.take i ++ l.drop i := (List.take_append_drop i l).symm
  rw [show l.any (fun r => decide (r.Key = k)) = (l.take i ++ l.drop i).any (fun r => decide (r.Key = k)) by rw [← e], List.any_append, List.any_eq_false.2 (fun r hr => by rw [hn r hr]; simp), Bool.false_or]
  by_cases hl : i < l.length
  · rw [List.getElem?_eq_getElem hl, List.drop_eq_getElem_cons hl, List.any_cons]
    have hr : (l.drop (i + 1)).any (fun r => decide (r.Key = k)) = false := by
      rw [List.any_eq_false]
      intro r hr
      rw [decide_eq_true_eq]; intro he
      have hlt : Op.bytesLess l[i].Key r.Key = true := by
        have hp : upR (l.drop i) := hu.sublist (List.drop_sublist i l)
        rw [List.drop_eq_getElem_cons hl] at hp
        exact (List.pairwise_cons.1 hp).1 r hr
      have := h2 l[i] (by rw [List.drop_eq_getElem_cons hl]; exact List.mem_cons_self)
      rw [← he, hlt] at this; cases this
    rw [hr, Bool.or_false]
  · rw [List.getElem?_eq_none (by omega), List.drop_eq_nil_of_le (by omega)]; rfl
theorem sh1 (a : Int) : bin none .shr (.int .u64 a) (.int .u64 1) = some (.int .u64 (a / 2)) := by simp [bin, ishift, IntKind.bits, Int.fdiv_eq_ediv_of_nonneg]
theorem bs_lo {l : List Row} (hu : upR l) {k : List UInt8} {m : Nat} (hm : m < l.length) (h : Op.bytesLess l[m].Key k = true) : ∀ r ∈ l.take (m + 1), Op.bytesLess r.Key k = true := fun r hr => by
  rw [List.take_succ_eq_append_getElem hm, List.mem_append, List.mem_singleton] at hr
  rcases hr with hr | rfl
  · obtain ⟨i, hi, rfl⟩ := List.mem_iff_getElem.1 hr
    rw [List.length_take] at hi
    rw [List.getElem_take]
    exact less_trans (List.pairwise_iff_getElem.1 hu i m (by omega) hm (by omega)) h
  · exact h
theorem bs_hi {l : List Row} (hu : upR l) {k : List UInt8} {m : Nat} (hm : m < l.length) (h : Op.bytesLess l[m].Key k = false) : ∀ r ∈ l.drop m, Op.bytesLess r.Key k = false := fun r hr => by
  rw [List.drop_eq_getElem_cons hm] at hr
  rcases List.mem_cons.1 hr with rfl | hr
  · exact h
  · have hp : upR (l.drop m) := hu.sublist (List.drop_sublist m l)
    rw [List.drop_eq_getElem_cons hm] at hp
    have := (List.pairwise_cons.1 hp).1 r hr
    rw [← Bool.not_eq_true]; intro h2
    rw [less_trans this h2] at h; cases h
end Go.Mir.Q
namespace Go.Mir.Tryz
open Go.Proofs Go.Mir.Q
namespace S2
theorem cmpG {x y : List UInt8} : Fun G 136 [.str (bs x), .str (bs y)] (.int .i64 (Lib.compareBytes x y), []) := given' rfl (by simp [cmpGiven, bs])
set_option maxHeartbeats 2000000 in
theorem f135 {r : Row} {k : List UInt8}  : Fun G 135 [.vs true (oRow r), .str (bs k)] (.int .i64 (Lib.compareBytes r.Key k), []) := by
  refine Fun.of_run (g := g135) (pf := pf135) rfl rfl rfl rfl ?_
  have h := cmpG (x := r.Key) (y := k)
  simp (maxSteps := 1000000) (disch := first | assumption | ((try simp only [LEN, LEN2]); omega)) only [push_cast, sevalprocAttr, g135, pf135, b135, oRow, callC_eq h, callT_eq h]
theorem f135c {r : Row} {k : List UInt8}  : type_of% (cE (f135 (r := r) (k := k) )) := cE (f135 (r := r) (k := k) )
attribute [push_cast] f135c
set_option maxHeartbeats 2000000 in
theorem f134 {l : List Row} {k : List UInt8} (hl : l.length ≤ 1000000000) (hu : upR l) : Fun G 134 [.one (.d (.sl (l.map eRow))), .str (bs k), .fn 135 []] (.tup [(false, [.d (.sc (.int .i64 (lb k l)))]), (false, [.d (.sc (.bool (thereR k l)))])], []) := by
  refine Fun.of_run (g := g134) (pf := pf134) rfl rfl rfl rfl ?_
  simp (maxSteps := 1000000) (disch := first | assumption | ((try simp only [LEN, LEN2]); omega)) only [push_cast, sevalprocAttr, g134, pf134, b134]
  refine run_loop' (fun s : Nat × Nat => [(0, T.one (.d (.sl (l.map eRow)))), (1, T.str (bs k)), (2, T.fn 135 []), (8, T.int .i64 l.length), (9, T.int .i64 s.1), (10, T.int .i64 s.2)]) (fun s => s.1 ≤ s.2 ∧ s.2 ≤ l.length ∧ (∀ r ∈ l.take s.1, Op.bytesLess r.Key k = true) ∧ ∀ r ∈ l.drop s.2, Op.bytesLess r.Key k = false) (fun s => s.2 - s.1) (0, l.length) rfl ⟨by simp, by simp, by simp, by simp⟩ (fun s hs => ?_)
  obtain ⟨i, j⟩ := s
  obtain ⟨h1, h2, h3, h4⟩ := hs
  simp only at h1 h2 h3 h4
  by_cases h : (i : Int) < j
  · obtain ⟨m, hm⟩ : ∃ m, m = (i + j) / 2 := ⟨_, rfl⟩
    have hml : m < l.length := by omega
    have hf := f135 (r := l[m]) (k := k)
    simp only [oRow] at hf
    have e1 : ((i : Int) + j) / 2 = m := by omega
    have e2 : IntKind.u64.wrap ((i : Int) + j) = (i : Int) + j := by rw [wrap_u64]; omega
    have hc := cmp_neg l[m].Key k
    cases hb : Op.bytesLess l[m].Key k with
    | true =>
      have hlt : Lib.compareBytes l[m].Key k < 0 := by rw [hb] at hc; simpa using hc
      simp (maxSteps := 1000000) (disch := first | assumption | ((try simp only [LEN, LEN2]); omega)) only [push_cast, sevalprocAttr, g134, pf134, b134, h, eRow, callC_eq hf, callT_eq hf, hlt, sh1, e2, e1]
      exact ⟨(m + 1, j), by simp, ⟨by simp only; omega, h2, bs_lo hu hml hb, h4⟩, by simp only; omega⟩
    | false =>
      have hlt : ¬ Lib.compareBytes l[m].Key k < 0 := by rw [hb] at hc; simpa using hc
      simp (maxSteps := 1000000) (disch := first | assumption | ((try simp only [LEN, LEN2]); omega)) only [push_cast, sevalprocAttr, g134, pf134, b134, h, eRow, callC_eq hf, callT_eq hf, hlt, sh1, e2, e1]
      exact ⟨(i, m), rfl, ⟨by simp only; omega, by simp only; omega, h3, bs_hi hu hml hb⟩, by simp only; omega⟩
  · obtain rfl : i = j := by omega
    have hlb := lb_at h2 h3 h4
    have hth := there_at hu h2 h3 h4
    by_cases hi : (i : Int) < l.length
    · have hi' : i < l.length := by omega
      have hf := f135 (r := l[i]) (k := k)
      simp only [oRow] at hf
      have hz := cmp_zero l[i].Key k
      rw [List.getElem?_eq_getElem hi'] at hth
      simp only [← hz] at hth
      simp (maxSteps := 1000000) (disch := first | assumption | ((try simp only [LEN, LEN2]); omega)) only [push_cast, sevalprocAttr, g134, pf134, b134, h, hi, eRow, callC_eq hf, callT_eq hf, hlb, hth]
    · rw [List.getElem?_eq_none (by omega)] at hth
      simp (maxSteps := 1000000) (disch := first | assumption | ((try simp only [LEN, LEN2]); omega)) only [push_cast, sevalprocAttr, g134, pf134, b134, h, hi, hlb, hth]
theorem f134c {l : List Row} {k : List UInt8} (hl : l.length ≤ 1000000000) (hu : upR l) : type_of% (cE (f134 (l := l) (k := k) hl hu)) := cE (f134 (l := l) (k := k) hl hu)
attribute [push_cast] f134c
theorem cloRF {S : List Row} (h : S.length ≤ 1000000000) : Fun G 126 [.one (.d (.sl (S.map eRow)))] (.one (.own 81 (S.map oRow)), []) := by
  refine given' rfl ?_
  simp only [cloneGiven]
  rw [if_pos ⟨by rw [show Tryz.prog.cellsOf 81 = 2 by decide +kernel]; simp [eRow], by rw [show Tryz.prog.bytesOf 81 = 32 by decide +kernel]; simp; omega, by simp; omega⟩]
  simp [eRow, oRow]
theorem delRF {S : List Row} {i : Nat} (h : i < S.length) : Fun G 137 [.one (.own 81 (S.map oRow)), .int .i64 i, .int .i64 ((i : Int) + 1)] (.one (.own 81 ((S.take i ++ S.drop (i + 1)).map oRow)), []) := by
  refine given' rfl ?_
  simp only [delGiven]
  rw [if_pos ⟨trivial, by omega, by omega, by rw [List.length_map]; omega, by rw [show Tryz.prog.cellsOf 81 = 2 by decide +kernel]; simp [oRow]⟩]
  have e : ((i : Int) + 1).toNat = i + 1 := by omega
  simp [List.map_take, List.map_drop, e]
theorem insRF {S : List Row} {xs : List (List V)} {i : Nat} {x : Row} (he : xs = S.map oRow) (h : i ≤ S.length) (hl : S.length ≤ 1000000000) : Fun G 138 [.one (.own 81 xs), .int .i64 i, .one (.own 81 [oRow x])] (.one (.own 81 ((S.take i ++ x :: S.drop i).map oRow)), []) := by
  subst he
  refine given' rfl ?_
  simp only [insGiven]
  rw [if_pos ⟨trivial, trivial, by omega, by rw [List.length_map]; omega, by rw [show Tryz.prog.cellsOf 81 = 2 by decide +kernel]; rfl, by rw [show Tryz.prog.cellsOf 81 = 2 by decide +kernel]; simp [oRow], by rw [show Tryz.prog.bytesOf 81 = 32 by decide +kernel]; simp; omega, by simp; omega⟩]
  simp [List.map_take, List.map_drop]
theorem cpR_len : ∀ l : List Write, (cpR l).length ≤ l.length
  | [] => Nat.le_refl _
  | [x] => Nat.le_refl _
  | x :: y :: r => by
    have := cpR_len (y :: r)
    simp only [cpR]
    split
    · rw [List.length_cons]; omega
    · simp only [List.length_cons] at this ⊢; omega
theorem allW_len (l : List Write) : (allW l).length ≤ l.length := by
  have := cpR_len (isortR l.reverse)
  rw [isortR_len, List.length_reverse] at this
  simpa [allW] using this
theorem lb_le (k : List UInt8) (l : List Row) : lb k l ≤ l.length := (List.takeWhile_sublist _).length_le
theorem lb_lt {k : List UInt8} {l : List Row} (hu : upR l) (h : thereR k l = true) : lb k l < l.length := by
  obtain ⟨A, B, e, e2, e3, e4⟩ := cut_at k hu
  rcases e4 with ⟨e4, _⟩ | ⟨_, v, C, e5, _⟩
  · rw [h] at e4; cases e4
  · rw [← e2, e, e5]; simp
theorem putR_len (l : List Row) (w : Write) : (putR l w).length ≤ l.length + 1 := by
  simp only [putR]
  split <;> split <;> simp <;> omega
theorem mergeF_len (t : Int) : ∀ (l : List Write) (rows : List Row), (mergeF t rows l).length ≤ rows.length + l.length
  | [], rows => by simp [mergeF]
  | w :: l, rows => by
    have e : mergeF t rows (w :: l) = mergeF t (if w.Table = t then putR rows w else rows) l := rfl
    rw [e]
    have h1 := mergeF_len t l (if w.Table = t then putR rows w else rows)
    have h2 := putR_len rows w
    split at h1 <;> (rw [List.length_cons]; split <;> simp_all <;> omega)
set_option maxHeartbeats 4000000 in
set_option maxHeartbeats 2000000 in
theorem f124 {rows : List Row} {l : List Write} {kk : List Int} {t : Int} (hr : rows.length ≤ 200000000) (hu : upR rows) (hl : l.length ≤ 19) (ho : ∀ w ∈ l, okT3 w) : Fun G 124 [.one (.d (.sl (rows.map eRow))), .vs true [.d (.sl (l.map eW)), .d (.sl (kk.map eN))], .int .i64 t] (.one (.own 81 ((mergeR t rows l).map oRow)), []) := by
  refine Fun.of_run (g := g124) (pf := pf124) rfl rfl rfl rfl ?_
  have hc := cloRF (S := rows) (by omega)
  have hA := f133 (l := l) (k := kk) hl
  have hlA : (allW l).length ≤ 19 := by have := allW_len l; omega
  obtain ⟨A, hAe⟩ : ∃ A, A = allW l := ⟨_, rfl⟩
  unfold mergeR
  rw [← hAe] at hA hlA ⊢
  simp (maxSteps := 1000000) (disch := first | assumption | ((try simp only [LEN, LEN2]); omega)) only [push_cast, sevalprocAttr, g124, pf124, b124, callC_eq hc, callT_eq hc, callC_eq hA, callT_eq hA]
  refine run_loop' (fun i : Nat => [(0, T.one (.own 81 ((mergeF t rows (A.take i)).map oRow))), (2, T.int .i64 t), (14, T.one (.own 78 (A.map oW))), (15, T.int .i64 A.length), (16, T.int .i64 i)]) (fun i => i ≤ A.length) (fun i => A.length - i) 0 rfl (Nat.zero_le _) (fun i hi => ?_)
  by_cases h : (i : Int) < A.length
  · have hi' : i < A.length := by omega
    obtain ⟨D, hD⟩ : ∃ D, D = mergeF t rows (A.take i) := ⟨_, rfl⟩
    have hDu : upR D := by rw [hD]; exact mergeF_up t _ hu
    have hDl : D.length ≤ 200000019 := by
      have := mergeF_len t (A.take i) rows
      rw [← hD, List.length_take] at this; omega
    have hn : mergeF t rows (A.take (i + 1)) = if A[i].Table = t then putR D A[i] else D := by
      rw [List.take_succ_eq_append_getElem hi']; simp [mergeF, hD, -List.take_append_getElem]
    rw [← hD]
    by_cases ht : A[i].Table = t
    · rw [if_pos ht] at hn
      have hb := f134 (l := D) (k := A[i].Key) (by omega) hDu
      have hle := lb_le A[i].Key D
      cases hth : thereR A[i].Key D with
      | true =>
        rw [hth] at hb
        have hlt := lb_lt hDu hth
        have hdel := delRF hlt
        cases hg : A[i].Gone with
        | true =>
          simp (maxSteps := 1000000) (disch := first | assumption | ((try simp only [LEN, LEN2]); omega)) only [push_cast, sevalprocAttr, g124, pf124, b124, h, ht, oW, callC_eq hb, callT_eq hb, callT_eq hdel, hg]
          exact ⟨i + 1, by simp [hn, putR, hth, hg], by omega, by omega⟩
        | false =>
          have hins := insRF (S := D.take (lb A[i].Key D) ++ D.drop (lb A[i].Key D + 1)) (i := lb A[i].Key D) (x := ⟨A[i].Key, A[i].Value⟩) rfl (by simp; omega) (by simp; omega)
          simp only [oRow] at hins
          simp (maxSteps := 1000000) (disch := first | assumption | ((try simp only [LEN, LEN2]); omega)) only [push_cast, sevalprocAttr, g124, pf124, b124, h, ht, oW, callC_eq hb, callT_eq hb, callT_eq hdel, hg, callT_eq hins]
          exact ⟨i + 1, by simp [hn, putR, hth, hg], by omega, by omega⟩
      | false =>
        rw [hth] at hb
        cases hg : A[i].Gone with
        | true =>
          simp (maxSteps := 1000000) (disch := first | assumption | ((try simp only [LEN, LEN2]); omega)) only [push_cast, sevalprocAttr, g124, pf124, b124, h, ht, oW, callC_eq hb, callT_eq hb, hg]
          exact ⟨i + 1, by simp [hn, putR, hth, hg], by omega, by omega⟩
        | false =>
          have hins := insRF (S := D) (i := lb A[i].Key D) (x := ⟨A[i].Key, A[i].Value⟩) rfl hle (by omega)
          simp only [oRow] at hins
          simp (maxSteps := 1000000) (disch := first | assumption | ((try simp only [LEN, LEN2]); omega)) only [push_cast, sevalprocAttr, g124, pf124, b124, h, ht, oW, callC_eq hb, callT_eq hb, hg, callT_eq hins]
          exact ⟨i + 1, by simp [hn, putR, hth, hg], by omega, by omega⟩
    · rw [if_neg ht] at hn
      simp (maxSteps := 1000000) (disch := first | assumption | ((try simp only [LEN, LEN2]); omega)) only [push_cast, sevalprocAttr, g124, pf124, b124, h, ht, oW]
      exact ⟨i + 1, by simp [hn], by omega, by omega⟩
  · obtain rfl : i = A.length := by omega
    simp (maxSteps := 1000000) (disch := first | assumption | ((try simp only [LEN, LEN2]); omega)) only [push_cast, sevalprocAttr, g124, pf124, b124, h]
    rw [List.take_length]
theorem f124c {rows : List Row} {l : List Write} {kk : List Int} {t : Int} (hr : rows.length ≤ 200000000) (hu : upR rows) (hl : l.length ≤ 19) (ho : ∀ w ∈ l, okT3 w) : type_of% (cE (f124 (rows := rows) (l := l) (kk := kk) (t := t) hr hu hl ho)) := cE (f124 (rows := rows) (l := l) (kk := kk) (t := t) hr hu hl ho)
attribute [push_cast] f124c
end S2
end Go.Mir.Tryz

set_option linter.unusedVariables false
set_option linter.unusedSimpArgs false
set_option maxRecDepth 100000
namespace Go.Mir.Tryz
open Go.Proofs Go.Mir.Q
namespace S2
def oM (l : List Row) : List V := [.own 81 (l.map oRow)]
def dM (l : List Row) : List V := [.d (.sl (l.map eRow))]
theorem cloRsF {S : Map} (h : S.length ≤ 1000000000) : Fun G 125 [.one (.d (.sl (S.map eMp)))] (.one (.own 79 (S.map dM)), []) := by
  refine given' rfl ?_
  simp only [cloneGiven]
  rw [if_pos ⟨by rw [show Tryz.prog.cellsOf 79 = 1 by decide +kernel]; simp [eMp], by rw [show Tryz.prog.bytesOf 79 = 24 by decide +kernel]; simp; omega, by simp; omega⟩]
  simp [eMp, dM]
theorem mid_get {α : Type} {l : List α} {f g : α → List V} {i : Nat} (h : i < l.length) : ((l.take i).map f ++ (l.drop i).map g)[i]? = some (g l[i]) := by
  rw [List.getElem?_append_right (by simp; omega)]
  simp [List.length_take, Nat.min_eq_left (by omega : i ≤ l.length), List.getElem?_drop, List.getElem?_eq_getElem h]
theorem mid_set {α : Type} {l : List α} {f g : α → List V} {i : Nat} (h : i < l.length) (x : List V) : ((l.take i).map f ++ (l.drop i).map g).set i x = (l.take i).map f ++ x :: (l.drop (i + 1)).map g := by
  rw [List.set_append_right _ _ (by simp; omega)]
  simp only [List.length_map, List.length_take, Nat.min_eq_left (by omega : i ≤ l.length), Nat.sub_self]
  rw [List.drop_eq_getElem_cons h]; rfl
theorem mid_len {α : Type} {l : List α} {f g : α → List V} {i : Nat} : ((l.take i).map f ++ (l.drop i).map g).length = l.length := by simp; omega
set_option maxHeartbeats 2000000 in
theorem f105 {m : Map} (hm : m.length ≤ 1000000000 ∧ ∀ l ∈ m, l.length ≤ 1000000000) : Fun G 105 [.one (.d (.sl (m.map eMp)))] (.one (.own 79 (m.map oM)), []) := by
  refine Fun.of_run (g := g105) (pf := pf105) rfl rfl rfl rfl ?_
  obtain ⟨hm1, hm2⟩ := hm
  have hc := cloRsF (S := m) (by omega)
  simp (maxSteps := 1000000) (disch := first | assumption | ((try simp only [LEN, LEN2]); omega)) only [push_cast, sevalprocAttr, g105, pf105, b105, callC_eq hc, callT_eq hc]
  refine run_loop' (fun i : Nat => [(0, T.one (.own 79 ((m.take i).map oM ++ (m.drop i).map dM))), (7, T.int .i64 m.length), (8, T.int .i64 i)]) (fun i => i ≤ m.length) (fun i => m.length - i) 0 (by simp) (Nat.zero_le _) (fun i hi => ?_)
  by_cases h : (i : Int) < m.length
  · have hi' : i < m.length := by omega
    have hr := cloRF (S := m[i]) (hm2 m[i] (List.getElem_mem hi'))
    obtain ⟨X, hX⟩ : ∃ X, X = (m.take i).map oM ++ (m.drop i).map dM := ⟨_, rfl⟩
    have hXl : X.length = m.length := by rw [hX, mid_len]
    have hXg : X[i]? = some [V.d (.sl (m[i].map eRow))] := by rw [hX, mid_get hi']; rfl
    have hXs : X.set i [V.own 81 (m[i].map oRow)] = (m.take (i + 1)).map oM ++ (m.drop (i + 1)).map dM := by
      rw [hX, mid_set hi', List.take_succ_eq_append_getElem hi']; simp only [List.map_append, List.map_cons, List.map_nil, List.append_assoc]; rfl
    rw [← hX]
    simp (maxSteps := 1000000) (disch := first | assumption | ((try simp only [LEN, LEN2]); omega)) only [push_cast, sevalprocAttr, g105, pf105, b105, h, hXl, hXg, callC_eq hr, callT_eq hr, hXs]
    exact ⟨i + 1, rfl, by omega, by omega⟩
  · obtain rfl : i = m.length := by omega
    simp (maxSteps := 1000000) (disch := first | assumption | ((try simp only [LEN, LEN2]); omega)) only [push_cast, sevalprocAttr, g105, pf105, b105, h]
    simp
theorem f105c {m : Map} (hm : m.length ≤ 1000000000 ∧ ∀ l ∈ m, l.length ≤ 1000000000) : type_of% (cE (f105 (m := m) hm)) := cE (f105 (m := m) hm)
attribute [push_cast] f105c
theorem toDss_oM (l : Map) : toDss (l.map oM) = some (l.map eMp) := toDss_map (fun x => by simp [oM, eMp, toDs, V.toD, toDss_oRow]) l
theorem noSlss_oM (l : Map) : noSlss (l.map oM) = true := noSlss_map (fun x => by simp [oM, noSls, V.noSl, noSlss_oRow]) l
attribute [push_cast] toDss_oM noSlss_oM
def smL (m : Map) (n : Nat) : Prop := m.length ≤ 3 ∧ ∀ rows ∈ m, rows.length ≤ n ∧ upR rows
set_option maxHeartbeats 2000000 in
theorem f104 {m : Map} {l : List Write} {kk : List Int} (hm : smL m 200000000) (hl : l.length ≤ 19) (ho : ∀ w ∈ l, okT3 w) : Fun G 104 [.one (.d (.sl (m.map eMp))), .vs true [.d (.sl (l.map eW)), .d (.sl (kk.map eN))]] (.one (.own 79 ((laidP m l).map oM)), []) := by
  refine Fun.of_run (g := g104) (pf := pf104) rfl rfl rfl rfl ?_
  obtain ⟨hm1, hm2⟩ := hm
  have hc := f105 (m := m) ⟨by omega, fun l hl => by have := (hm2 l hl).1; omega⟩
  have hPl : (laidP m l).length = m.length := laidP_len m l
  simp (maxSteps := 1000000) (disch := first | assumption | ((try simp only [LEN, LEN2]); omega)) only [push_cast, sevalprocAttr, g104, pf104, b104, callC_eq hc, callT_eq hc]
  refine run_loop' (fun i : Nat => [(3, T.one (.box [.d (.sl (l.map eW)), .d (.sl (kk.map eN))])), (5, T.one (.own 79 (((laidP m l).take i).map oM ++ (m.drop i).map oM))), (10, T.int .i64 m.length), (11, T.int .i64 i)]) (fun i => i ≤ m.length) (fun i => m.length - i) 0 (by simp) (Nat.zero_le _) (fun i hi => ?_)
  by_cases h : (i : Int) < m.length
  · have hi' : i < m.length := by omega
    have hr := f124 (rows := m[i]) (l := l) (kk := kk) (t := i) (hm2 m[i] (List.getElem_mem hi')).1 (hm2 m[i] (List.getElem_mem hi')).2 hl ho
    obtain ⟨X, hX⟩ : ∃ X, X = ((laidP m l).take i).map oM ++ (m.drop i).map oM := ⟨_, rfl⟩
    have hXl : X.length = m.length := by rw [hX]; simp; omega
    have hXg : X[i]? = some [V.own 81 (m[i].map oRow)] := by
      rw [hX, List.getElem?_append_right (by simp; omega)]
      simp [Nat.min_eq_left (by omega : i ≤ (laidP m l).length), List.getElem?_drop, List.getElem?_eq_getElem hi', oM]
    have hPi : (laidP m l)[i]'(by omega) = mergeR (i : Int) m[i] l := by simp [laidP]
    have hXs : X.set i [V.own 81 ((mergeR (i : Int) m[i] l).map oRow)] = ((laidP m l).take (i + 1)).map oM ++ (m.drop (i + 1)).map oM := by
      rw [hX, List.set_append_right _ _ (by simp; omega), List.take_succ_eq_append_getElem (by omega : i < (laidP m l).length), hPi]
      simp only [List.length_map, List.length_take, Nat.min_eq_left (by omega : i ≤ (laidP m l).length), Nat.sub_self]
      rw [List.drop_eq_getElem_cons hi']
      simp only [List.map_append, List.map_cons, List.map_nil, List.append_assoc]; rfl
    rw [← hX]
    simp (maxSteps := 1000000) (disch := first | assumption | ((try simp only [LEN, LEN2]); omega)) only [push_cast, sevalprocAttr, g104, pf104, b104, h, hXl, hXg, callC_eq hr, callT_eq hr, hXs]
    exact ⟨i + 1, rfl, by omega, by omega⟩
  · obtain rfl : i = m.length := by omega
    simp (maxSteps := 1000000) (disch := first | assumption | ((try simp only [LEN, LEN2]); omega)) only [push_cast, sevalprocAttr, g104, pf104, b104, h]
    simp [← hPl]
theorem f104c {m : Map} {l : List Write} {kk : List Int} (hm : smL m 200000000) (hl : l.length ≤ 19) (ho : ∀ w ∈ l, okT3 w) : type_of% (cE (f104 (m := m) (l := l) (kk := kk) hm hl ho)) := cE (f104 (m := m) (l := l) (kk := kk) hm hl ho)
attribute [push_cast] f104c
end S2
end Go.Mir.Tryz

set_option linter.unusedVariables false
set_option linter.unusedSimpArgs false
namespace Go.Mir.Tryz
open Go Go.Proofs Go.Shelf Go.RowKit
attribute [local go_sem] Oper.semAt_some
abbrev nCh (len : Nat) : Nat := (len + 11) / 12
def bupto (N k : Nat) : List (_root_.Fin N) := (List.finRange N).take k
theorem bupto_succ {N k : Nat} (h : k < N) : bupto N (k + 1) = bupto N k ++ [⟨k, h⟩] := by
  unfold bupto
  rw [List.take_succ_eq_append_getElem (by simpa using h)]; simp
theorem bupto_length {N k : Nat} (h : k ≤ N) : (bupto N k).length = k := by simp [bupto]; omega
structure Kx (Z n : Nat) (A B : World) : Prop where
  size : A.heap.size ≤ B.heap.size
  block : ∀ b, b < n → b ≠ Z → B.heap[b]? = A.heap[b]?
theorem Kx.refl (Z n : Nat) (A : World) : Kx Z n A A := ⟨Nat.le_refl _, fun _ _ _ => rfl⟩
theorem Kx.trans {Z n : Nat} {A B C : World} (h : Kx Z n A B) (h' : Kx Z n B C) : Kx Z n A C := ⟨Nat.le_trans h.size h'.size, fun b h1 h2 => (h'.block b h1 h2).trans (h.block b h1 h2)⟩
theorem Kx.cell {Z n : Nat} {A B : World} (h : Kx Z n A B) {b o : Nat} (h1 : b < n) (h2 : b ≠ Z) : B.cell? ⟨b, o, none⟩ = A.cell? ⟨b, o, none⟩ := World.cell?_of_block (w := A) (h.block b h1 h2)
theorem Kx.of {Z n : Nat} {A B : World} (h : Below n A B) : Kx Z n A B := ⟨h.size, fun b h1 _ => h.block b h1⟩
theorem Kx.less {Z n m : Nat} {A B : World} (h : Kx Z n A B) (hm : m ≤ n) : Kx Z m A B := ⟨h.size, fun b h1 h2 => h.block b (by omega) h2⟩
abbrev chV (b off len k : Nat) : Value := .slice (some ⟨b, off + 12 * k * 4, none⟩) (min 12 (len - 12 * k)) (min 12 (len - 12 * k))
set_option maxHeartbeats 1000000 in
theorem chunk_in (n : Nat) (a : Option Addr) (len cap : Nat) (w : World) :
    CallsIn Fence.wide n Tryz.prog 103 #[.slice a len cap, .int .i64 12] w fun e w' => e = .returned (.func (.func 123) #[] #[.pointer (some ⟨w.heap.size, 0, none⟩), .pointer (some ⟨w.heap.size + 1, 0, none⟩)]) ∧ w' = (w.alloc (.cells #[.slice a len cap] 68)).alloc (.cells #[.int .i64 12] 3) := by
  refine callsIn_of_wp Tryz.func103 rfl trivial ?_ rfl
  simp only [Tryz.ntmps103, List.size_toArray, List.length_cons, List.length_nil, Nat.reduceAdd, Nat.reduceSub, Array.replicate_succ, Array.replicate_zero, List.push_toArray, List.append_toArray, List.nil_append, List.cons_append]
  gi_wp2
  go_ret
  exact ⟨rfl, rfl⟩
set_option maxRecDepth 100000 in
set_option maxHeartbeats 4000000 in
theorem chunk1_in (n : Nat) (hn : 1 ≤ n) (l Bs Bn n₀ b off len cap : Nat) (hreach : len ≤ 140737488355328) (hcap : len ≤ cap) (Z : Nat) (hZs : Bs ≠ Z) (hZn : Bn ≠ Z) (hBs : Bs < n₀) (hBn : Bn < n₀) (J Jx : List (_root_.Fin (nCh len)) → World → Prop)
    (hY : ∀ pre x W, J pre W → pre.length < nCh len → YieldAt Fence.wide (n - 1) Tryz.prog l #[chV b off len x.val] W fun e W' =>
      (e = .returned (.bool true) ∧ J (pre ++ [x]) W' ∧ Kx Z n₀ W W') ∨ (e = .returned (.bool false) ∧ Jx (pre ++ [x]) W'))
    (hJd : ∀ s W nq, J s W → J s (W.drewN nq)) (W : World) (hcs : W.cell? ⟨Bs, 0, none⟩ = some (.slice (some ⟨b, off, none⟩) len cap)) (hcn : W.cell? ⟨Bn, 0, none⟩ = some (.int .i64 12)) (h0 : J [] W) :
    CallsIn Fence.wide n Tryz.prog 123 #[.func (.yield l) #[] #[], .pointer (some ⟨Bs, 0, none⟩), .pointer (some ⟨Bn, 0, none⟩)] W fun e W' => (∃ v, e = .returned v) ∧
      ((∃ ys, ys = bupto (nCh len) (nCh len) ∧ J ys W') ∨ (∃ pre, (∃ k, k ≤ nCh len ∧ pre = bupto (nCh len) k) ∧ Jx pre W')) := by
  refine callsIn_of_wp Tryz.func123 rfl trivial ?_ rfl
  simp only [Tryz.ntmps123, List.size_toArray, List.length_cons, List.length_nil, Nat.reduceAdd, Nat.reduceSub, Array.replicate_succ, Array.replicate_zero, List.push_toArray, List.append_toArray, List.nil_append, List.cons_append]
  gi_wp2
  gi_loopw [4] (fun i wr => ∃ k : Nat, k ≤ nCh len ∧ i = .int .i64 ((12 * k : Nat) : Int) ∧ J (bupto (nCh len) k) wr ∧ Kx Z n₀ W wr)
    (fun i _ => (len + 12 - (RowKit.intOf i).toNat))
  case atStart => exact ⟨0, Nat.zero_le _, rfl, h0, Kx.refl _ _ _⟩
  case round =>
    obtain ⟨k, hk, rfl, hJs, hnx⟩ := hrel
    have hc1 : wr.cell? ⟨Bs, 0, none⟩ = some (.slice (some ⟨b, off, none⟩) len cap) := (hnx.cell hBs hZs).trans hcs
    have hc2 : wr.cell? ⟨Bn, 0, none⟩ = some (.int .i64 12) := (hnx.cell hBn hZn).trans hcn
    by_cases hlt : 12 * k < len
    · obtain ⟨i, hi⟩ : ∃ i, i = 12 * k := ⟨_, rfl⟩
      rw [← hi] at hlt ⊢
      have hM := Lib.hid hi
      have hKk := Lib.hid hk
      clear hk
      have e1 : IntKind.i64.wrap ((i : Int) + (min 12 (len - i) : Nat)) = ((i + min 12 (len - i) : Nat) : Int) := by rw [IntKind.wrap_i64] <;> omega
      have e0 : (min 12 ((len - i : Nat) : Int)) = ((min 12 (len - i) : Nat) : Int) := by omega
      have e2 : IntKind.i64.wrap ((i : Int) + 12) = ((i + 12 : Nat) : Int) := by rw [IntKind.wrap_i64] <;> omega
      obtain ⟨q, hq⟩ : ∃ q, q = min 12 (len - i) := ⟨_, rfl⟩
      have hqp : i + q ≤ len := by omega
      rw [← hq] at e0 e1
      have hyq : ∀ W1 : World, J (bupto (nCh len) k) W1 → YieldAt Fence.wide (n - 1) Tryz.prog l #[.slice (some ⟨b, off + i * 4, none⟩) q q] W1 fun e W' =>
          (e = .returned (.bool true) ∧ J (bupto (nCh len) (k + 1)) W' ∧ Kx Z n₀ W1 W') ∨ (e = .returned (.bool false) ∧ Jx (bupto (nCh len) (k + 1)) W') := fun W1 hJ1 => by
        have hkN : k < nCh len := by unfold nCh; omega
        have := hY _ ⟨k, hkN⟩ W1 hJ1 (by rw [bupto_length (by omega)]; exact hkN)
        rw [bupto_succ hkN]
        simp only [chV] at this
        rw [← hi, ← hq] at this
        exact this
      have HQ := Lib.hid hyq
      have Hq := Lib.hid hq
      clear hi hY hyq hq
      gi_wp2
      gi_quiet (fail)
      have hc1' : (wr.drewN nq).cell? ⟨Bs, 0, none⟩ = some (.slice (some ⟨b, off, none⟩) len cap) := hc1
      have hc2' : (wr.drewN nq).cell? ⟨Bn, 0, none⟩ = some (.int .i64 12) := hc2
      have hnx' : Kx Z n₀ W (wr.drewN nq) := ⟨hnx.size, hnx.block⟩
      obtain ⟨fn, tmps, assign, body, hy, hR⟩ := HQ.out _ (hJd _ _ nq hJs)
      clear hc1 hc2 hnx hJs
      generalize wr.drewN nq = W1 at *
      gi_wp2
      refine hR.mono ?_
      rintro e W3 (⟨rfl, hJ3, hk3⟩ | ⟨rfl, hJx3⟩)
      · have hc2'' : W3.cell? ⟨Bn, 0, none⟩ = some (.int .i64 12) := (hk3.cell hBn hZn).trans hc2'
        gi_wp2
        go_roundw
        case rel =>
          have hm := hM.out
          exact ⟨k + 1, by unfold nCh; omega, by congr 1; omega, hJ3, hnx'.trans hk3⟩
        case measure => simp [RowKit.intOf]; omega
      · gi_wp2
        refine bodyPost_ret (results_none rfl _ _ _) rfl ?_
        have hm := hM.out
        exact ⟨⟨_, rfl⟩, .inr ⟨_, ⟨k + 1, by unfold nCh; omega, rfl⟩, hJx3⟩⟩
    · gi_wp2
      go_end0
      obtain rfl : k = nCh len := by unfold nCh at hk ⊢; omega
      exact ⟨⟨_, rfl⟩, .inl ⟨_, rfl, hJs⟩⟩
set_option maxRecDepth 100000 in
set_option maxHeartbeats 1000000 in
theorem chunk1_nil_in (n : Nat) (l Bs Bn : Nat) (a : Option Addr) (cap : Nat) (J : List (_root_.Fin (nCh 0)) → World → Prop) (W : World) (hcs : W.cell? ⟨Bs, 0, none⟩ = some (.slice a 0 cap)) (hcn : W.cell? ⟨Bn, 0, none⟩ = some (.int .i64 12)) (h0 : J [] W) :
    CallsIn Fence.wide n Tryz.prog 123 #[.func (.yield l) #[] #[], .pointer (some ⟨Bs, 0, none⟩), .pointer (some ⟨Bn, 0, none⟩)] W fun e W' => (∃ v, e = .returned v) ∧ J [] W' := by
  refine callsIn_of_wp Tryz.func123 rfl trivial ?_ rfl
  simp only [Tryz.ntmps123, List.size_toArray, List.length_cons, List.length_nil, Nat.reduceAdd, Nat.reduceSub, Array.replicate_succ, Array.replicate_zero, List.push_toArray, List.append_toArray, List.nil_append, List.cons_append]
  gi_wp2
  gi_loopw [4] (fun i wr => i = .int .i64 0 ∧ J [] wr ∧ wr.cell? ⟨Bs, 0, none⟩ = some (.slice a 0 cap)) (fun _ _ => 0)
  case atStart => exact ⟨rfl, h0, hcs⟩
  case round =>
    obtain ⟨rfl, hJs, hc1⟩ := hrel
    gi_wp2
    go_end0
    exact ⟨⟨_, rfl⟩, hJs⟩
theorem chunk_stops (n : Nat) (hn : 1 ≤ n) (Bs Bn n₀ b off len : Nat) (sv : Value) (hreach : len ≤ 140737488355328) (w : World) (Z : Nat) (hZs : Bs ≠ Z) (hZn : Bn ≠ Z) (hBs : Bs < n₀) (hBn : Bn < n₀) (hn₀ : n₀ ≤ w.heap.size)
    (hcs : w.cell? ⟨Bs, 0, none⟩ = some sv) (hcn : w.cell? ⟨Bn, 0, none⟩ = some (.int .i64 12)) (hI : (len = 0 ∧ ∃ a cap, sv = .slice a 0 cap) ∨ ∃ cap, len ≤ cap ∧ sv = .slice (some ⟨b, off, none⟩) len cap) :
    SeqStopsK Fence.wide n Tryz.prog 123 #[.pointer (some ⟨Bs, 0, none⟩), .pointer (some ⟨Bn, 0, none⟩)] (fun x : _root_.Fin (nCh len) => #[chV b off len x.val]) (Kx Z n₀) (fun ys => ys = bupto (nCh len) (nCh len))
      (fun pre => ∃ k, k ≤ nCh len ∧ pre = bupto (nCh len) k) (nCh len) w := fun l J Jx W hW hJ _ hY h0 => by
  have hc' := (hW.cell (p := ⟨Bs, 0, none⟩) (by have : Bs < w.heap.size := by omega
                                                exact this)).trans hcs
  have hc2 := (hW.cell (p := ⟨Bn, 0, none⟩) (by have : Bn < w.heap.size := by omega
                                                exact this)).trans hcn
  rcases hI with ⟨rfl, a, cap, rfl⟩ | ⟨cap, hcap, rfl⟩
  · exact (chunk1_nil_in n l Bs Bn a cap J W hc' hc2 h0).mono fun e W' ⟨he, hj⟩ => ⟨he, .inl ⟨_, rfl, hj⟩⟩
  · exact chunk1_in n hn l Bs Bn n₀ b off len cap hreach hcap Z hZs hZn hBs hBn J Jx hY (fun s A nq hs => hJ s A _ none hs ⟨rfl, rfl, rfl, Nat.le_refl _, fun _ _ _ => rfl⟩ (fun r e => by cases e)) W hc' hc2 h0
end Go.Mir.Tryz

set_option linter.unusedVariables false
set_option linter.unusedSimpArgs false
namespace Go.Mir.Tryz
open Go Go.Proofs Go.Shelf Go.RowKit Go.Mir.Q
attribute [local go_sem] Oper.semAt_some
def okB (X : Nat → Prop) (Z : Nat) (W : World) (b : Nat) : Prop := ¬ X b ∧ b ≠ Z ∧ ∃ cs t fz, W.heap[b]? = some (Obj.cells cs t fz)
abbrev ROb (X : Nat → Prop) (Z : Nat) (W : World) (x : Mir.D) (u : Value) : Prop := RO W (okB X Z W) x u
theorem ROb.of {X : Nat → Prop} {Z : Nat} {W : World} {x : Mir.D} {u : Value} (h : RO W (fun b => ¬ X b ∧ b ≠ Z) x u) : ROb X Z W x u := by
  induction h with
  | sc h => exact .sc h
  | nil => exact .nil
  | @sl xs b o c sz us h0 hz hsz hc hok hl hu hr ih =>
    refine .sl us h0 hz hsz hc ⟨hok.1, hok.2, ?_⟩ hl hu ih
    have : 0 < us.length := by rw [hl]; exact Nat.mul_pos (List.length_pos_iff.2 h0) hz
    have h1 := hu 0 _ (List.getElem?_eq_getElem this)
    cases hb : W.heap[b]? with
    | none => simp [World.cell?, hb] at h1
    | some ob =>
      cases ob with
      | cells cs t fz => exact ⟨cs, t, fz, rfl⟩
      | _ => simp [World.cell?, hb] at h1
theorem ROb.keep {X : Nat → Prop} {Z : Nat} {W W' : World} {x : Mir.D} {u : Value} (h : ROb X Z W x u) (hk : ∀ b cs t fz, ¬ X b → b ≠ Z → W.heap[b]? = some (Obj.cells cs t fz) → W'.heap[b]? = some (.cells cs t fz)) : ROb X Z W' x u :=
  RO.mono h fun b ⟨h1, h2, cs, t, fz, h3⟩ _ => ⟨⟨h1, h2, cs, t, fz, hk b cs t fz h1 h2 h3⟩, by rw [hk b cs t fz h1 h2 h3, h3]⟩
theorem ROb.below {X : Nat → Prop} {Z : Nat} {W W' : World} {x : Mir.D} {u : Value} (h : ROb X Z W x u) (hb : Below W.heap.size W W') : ROb X Z W' x u :=
  h.keep fun b cs t fz _ _ h3 => (hb.block b (Array.getElem?_eq_some_iff.1 h3).1).trans h3
set_option maxHeartbeats 1000000 in
theorem laid_call {X : Nat → Prop} {Z : Nat} {W : World} {m : Map} {l : List Write} {v vl : Value} (hX : ∀ b, X b → b < W.heap.size) (hZ : Z < W.heap.size) (h1 : ROb X Z W (.sl (m.map eMp)) v) (h2 : ROb X Z W (.sl (l.map eW)) vl)
    (hm : S2.smL m 200000000) (hl : l.length ≤ 19) (ho : ∀ w ∈ l, okT3 w) :
    Calls Tryz.prog 104 #[v, .agg #[vl, .slice none 0 0]] W fun e W' => ∃ v', e = .returned v' ∧ Below W.heap.size W W' ∧ ROb X Z W' (.sl ((laidP m l).map eMp)) v' := by
  obtain ⟨k, hk⟩ := S2.f104 (m := m) (l := l) (kk := []) hm hl ho
  refine ((call_ok S2.soundG hk).2.2 (fun b => X b ∨ b = Z) W [v, .agg #[vl, .slice none 0 0]] (fun _ => No) (fun b hb => hb.elim (hX b) (fun e => e ▸ hZ)) rfl (fun j t u ht hu => ?_) (fun _ _ _ _ _ _ h => h.elim) (fun _ _ _ h => h.elim)).mono
    fun en W' ⟨v', he, hg, Fr, Fo, g1, _, _, g4⟩ => ⟨v', he, ⟨hg.os, hg.tape, hg.output, hg.size, fun k hk => hg.block k hk (fun ⟨_, _, h⟩ => h)⟩, ?_⟩
  · have hk' : ∀ b, okB X Z W b → (¬ (X b ∨ b = Z) ∧ ∀ j, j < 2 → ¬ (No b)) := fun b ⟨a1, a2, _⟩ => ⟨fun h => h.elim a1 a2, fun _ _ h => h⟩
    match j with
    | 0 => simp at ht hu; subst ht; subst hu; exact VS.ofOne (.d (fun _ h => h) (RO.mono h1 fun b hb _ => ⟨hk' b hb, rfl⟩))
    | 1 =>
      simp at ht hu; subst ht; subst hu
      refine ⟨fun _ => ⟨_, rfl⟩, OwnL.ofData rfl fun j v u hv hu => ?_⟩
      match j with
      | 0 => simp [cellsOf] at hv hu; subst hv; subst hu; exact .d (fun _ h => h) (RO.mono h2 fun b hb _ => ⟨hk' b hb, rfl⟩)
      | 1 => simp [cellsOf] at hv hu; subst hv; subst hu; exact .d (fun _ h => h) .nil
      | j + 2 => simp at hv
    | j + 2 => simp at ht
  · refine ROb.of (RO.mono (Own.freeze (VS.toOne g1) (x := .sl ((laidP m l).map eMp)) (by simp [V.toD, S2.toDss_oM])) fun b hb _ => ⟨?_, rfl⟩)
    rcases hb with ⟨hb, _⟩ | hb
    · exact ⟨fun h => hb (.inl h), fun h => hb (.inr h)⟩
    · have := g4 b (.inl hb)
      exact ⟨fun h => this.1 (.inl h), fun h => this.1 (.inr h)⟩
theorem own_call {X : Nat → Prop} {Z : Nat} {W : World} {m : Map} {v : Value} (h1 : ROb X Z W (.sl (m.map eMp)) v) (hm : m.length ≤ 1000000000 ∧ ∀ l ∈ m, l.length ≤ 1000000000) :
    Calls Tryz.prog 105 #[v] W fun e W' => ∃ v', e = .returned v' ∧ Below W.heap.size W W' ∧ ∃ Fr : Nat → Prop, (∀ b, Fr b → W.heap.size ≤ b) ∧ ∀ ok, TRe Tryz.prog W' ok (.one (.own 79 (m.map S2.oM))) v' Fr := by
  obtain ⟨k, hk⟩ := S2.f105 (m := m) hm
  refine ((call_ok S2.soundG hk).2.2 No W [v] (fun _ => No) (fun b hb => hb.elim) rfl (fun j t u ht hu => ?_) (fun _ _ _ _ _ _ h => h.elim) (fun _ _ _ h => h.elim)).mono
    fun en W' ⟨v', he, hg, Fr, Fo, g1, _, _, g4⟩ => ⟨v', he, ⟨hg.os, hg.tape, hg.output, hg.size, fun k hk => hg.block k hk (fun ⟨_, _, h⟩ => h)⟩, Fr, fun b hb => ?_, fun ok => TRe.any g1 ?_⟩
  · match j with
    | 0 => simp at ht hu; subst ht; subst hu; exact VS.ofOne (.d (fun _ h => h) (RO.mono h1 fun b hb _ => ⟨⟨fun h => h, fun _ _ h => h⟩, rfl⟩))
    | j + 1 => simp at ht
  · rcases (g4 b (.inl hb)).2 with ⟨_, _, h⟩ | h
    · exact h.elim
    · exact h
  · simp [T.noSl, noSls, V.noSl, S2.noSlss_oM]
theorem roRecap {w : World} {ok : Nat → Prop} {xs : List (List Mir.D)} {A : Option Addr} {n c c' : Nat} (h : RO w ok (.sl xs) (.slice A n c)) (hc : n ≤ c') : RO w ok (.sl xs) (.slice A n c') := by
  cases h with
  | nil => exact .nil
  | sl us h0 hz hsz hc0 hok hl hu hr => exact .sl us h0 hz hsz hc hok hl hu hr
theorem chunk_view {w : World} {ok : Nat → Prop} {ws : List Write} {b off cap i q : Nat} (h : RO w ok (.sl (ws.map eW)) (.slice (some ⟨b, off, none⟩) ws.length cap)) (hcap : ws.length ≤ cap) (hq : i + q ≤ ws.length) (h0 : 0 < q) :
    RO w ok (.sl (((ws.drop i).take q).map eW)) (.slice (some ⟨b, off + i * 4, none⟩) q q) := by
  have := RO.cut (sz := 4) (l := i) (h := i + q) h (by omega) (by simpa using hq) (.inr fun d hd => by obtain ⟨y, _, rfl⟩ := List.mem_map.1 hd; rfl)
  have e : ((ws.map eW).take (i + q)).drop i = ((ws.drop i).take q).map eW := by
    rw [List.drop_take, Nat.add_sub_cancel_left, List.map_take, List.map_drop]
  rw [e] at this
  unfold sliced at this
  rw [if_neg (by omega), Nat.add_sub_cancel_left] at this
  simp only [Option.map_some, add_none] at this
  exact roRecap this (Nat.le_refl _)
theorem cut12_get : ∀ (n : Nat) (l : List Write) (k : Nat), l.length ≤ n → (cut12 n l)[k]? = if 12 * k < l.length then some ((l.drop (12 * k)).take 12) else none
  | 0, l, k, h => by simp [cut12]; omega
  | n + 1, l, k, h => by
    simp only [cut12]
    split
    · rename_i e; subst e; simp
    · rename_i e
      have hl : 0 < l.length := List.length_pos_iff.2 e
      cases k with
      | zero => simp [hl]
      | succ k =>
        rw [List.getElem?_cons_succ, cut12_get n (l.drop 12) k (by rw [List.length_drop]; omega), List.length_drop, List.drop_drop]
        have e1 : 12 + 12 * k = 12 * (k + 1) := by omega
        rw [e1]
        by_cases hk : 12 * (k + 1) < l.length
        · rw [if_pos (by omega), if_pos hk]
        · rw [if_neg (by omega), if_neg hk]
def chW (l : List Write) (k : Nat) : List Write := (l.drop (12 * k)).take (min 12 (l.length - 12 * k))
theorem cut12_eq (l : List Write) : (bupto (nCh l.length) (nCh l.length)).map (fun x => chW l x.val) = cut12 l.length l := by
  refine List.ext_getElem? fun k => ?_
  rw [cut12_get _ _ _ (Nat.le_refl _)]
  by_cases hk : 12 * k < l.length
  · rw [if_pos hk]
    have : k < nCh l.length := by unfold nCh; omega
    simp only [bupto, List.getElem?_map]
    rw [List.getElem?_take_of_lt this, List.getElem?_eq_getElem (by simpa using this)]
    simp only [List.getElem_finRange, Option.map_some, chW]
    congr 1
    show (l.drop (12 * k)).take (min 12 (l.length - 12 * k)) = _
    rw [List.take_eq_take_iff, List.length_drop]
    omega
  · rw [if_neg hk, List.getElem?_eq_none (by simp [bupto, nCh]; omega)]
theorem cells_own {X Y : World} {row : Option Nat} {B : Nat} {cs : Array Value} {t : Nat} {fz : Nat × Nat} (h : X.heap[B]? = some (.cells cs t fz)) (hg : X.grownBy Y row) (hr : ∀ r, row = some r → ∃ o : Obj, X.heap[r]? = some o ∧ o.isCells = false) : Y.heap[B]? = some (.cells cs t fz) := by
  refine (hg.block B (Array.getElem?_eq_some_iff.1 h).1 (fun e => ?_)).trans h
  obtain ⟨o, ho, hc⟩ := hr B e.symm
  rw [h] at ho; cases ho; cases hc
theorem chW_len (l : List Write) (k : Nat) : (chW l k).length = min 12 (l.length - 12 * k) := by simp [chW]
def Marks (n : Nat) (W : World) (ds : List Deferred) : Prop := ∃ Ds : List Nat, ds = Ds.map (fun D => { target := .collected D, args := #[] }) ∧ Ds.Nodup ∧ ∀ D ∈ Ds, n < D ∧ W.heap[D]? = some (.deferred (some []))
theorem roIsSl {w : World} {ok : Nat → Prop} {xs : List (List Mir.D)} {u : Value} (h : RO w ok (.sl xs) u) : ∃ A c, u = .slice A xs.length c := by
  cases h with
  | nil => exact ⟨_, _, rfl⟩
  | sl us h0 hz hsz hc hok hl hu hr => exact ⟨_, _, rfl⟩
theorem roIsCh {w : World} {ok : Nat → Prop} {xs : List (List Mir.D)} {A : Option Addr} {c : Nat} (h : RO w ok (.sl xs) (.slice A xs.length c)) : xs = [] ∨ ∃ b off, A = some ⟨b, off, none⟩ ∧ xs.length ≤ c := by
  cases h with
  | nil => exact .inl rfl
  | sl us h0 hz hsz hc hok hl hu hr => exact .inr ⟨_, _, rfl, hc⟩
structure LSt (X : Nat → Prop) (w : World) (m : Map) (W : World) (ds : List Deferred) : Prop where
  below : Below w.heap.size w W
  lt : w.heap.size < W.heap.size
  box : ∃ A n c, Boxed W w.heap.size 39 (.slice A n c) ∧ ROb X w.heap.size W (.sl (m.map eMp)) (.slice A n c)
  marks : Marks w.heap.size W ds
theorem smL_laidP {m : Map} {n : Nat} {l : List Write} (h : S2.smL m n) : S2.smL (laidP m l) (n + l.length) := by
  obtain ⟨h1, h2⟩ := h
  refine ⟨by rw [laidP_len]; exact h1, fun rows hr => ?_⟩
  obtain ⟨i, hi, rfl⟩ := List.mem_iff_getElem.1 hr
  simp only [laidP, List.getElem_mapIdx]
  have hm := h2 (m[i]'(by rwa [laidP_len] at hi)) (List.getElem_mem _)
  refine ⟨?_, mergeF_up _ _ hm.2⟩
  have a := S2.mergeF_len (i : Int) (allW l) (m[i]'(by rwa [laidP_len] at hi))
  have b := S2.allW_len l
  unfold mergeR
  omega
theorem smL_up {m : Map} {n n' : Nat} (h : S2.smL m n) (hn : n ≤ n') : S2.smL m n' := ⟨h.1, fun rows hr => ⟨Nat.le_trans (h.2 rows hr).1 hn, (h.2 rows hr).2⟩⟩
theorem smL_laidC : ∀ (cs : List (List Write)) {m : Map} {n : Nat}, S2.smL m n → (∀ c ∈ cs, c.length ≤ 12) → S2.smL (laidC m cs) (n + 12 * cs.length)
  | [], m, n, h, _ => h
  | c :: cs, m, n, h, hc => by
    have h1 := smL_up (smL_laidP (l := c) h) (n' := n + 12) (by have := hc c (by simp); omega)
    have := smL_laidC cs h1 (fun x hx => hc x (by simp [hx]))
    exact smL_up this (by simp; omega)
theorem cut12_mem {l c : List Write} (h : c ∈ cut12 l.length l) : c.length ≤ 12 := by
  rw [← cut12_eq] at h
  obtain ⟨x, _, rfl⟩ := List.mem_map.1 h
  rw [chW_len]; omega
theorem cut12_len (l : List Write) : (cut12 l.length l).length = nCh l.length := by rw [← cut12_eq, List.length_map, bupto_length (Nat.le_refl _)]
theorem smL_laidRs : ∀ (R : List Record) {m : Map} {n : Nat}, S2.smL m n → (∀ r ∈ R, r.Writes.length ≤ 64) → S2.smL (laidRs m R) (n + 72 * R.length)
  | [], m, n, h, _ => h
  | r :: R, m, n, h, hr => by
    have h0 := hr r (by simp)
    have h1 := smL_laidC (cut12 r.Writes.length r.Writes) h (fun c hc => cut12_mem hc)
    rw [cut12_len] at h1
    have h2 : S2.smL (laidR m r) (n + 72) := smL_up h1 (by unfold nCh; omega)
    have := smL_laidRs R h2 (fun x hx => hr x (by simp [hx]))
    exact smL_up this (by simp; omega)
theorem leaves_marks {F : Fence} {n : Nat} {P : Program} {fn : Func} {tmps : Array Value} {R : Ending → World → Prop} {v : Value} (hres : ∀ W, (results fn tmps).run P W = .ok v W) : ∀ (Ds : List Nat) (W : World), Ds.Nodup → (∀ D ∈ Ds, W.heap[D]? = some (.deferred (some []))) →
    (∀ W', W'.os = W.os → W'.tape = W.tape → W'.output = W.output → W'.heap.size = W.heap.size → (∀ b, b ∉ Ds → W'.heap[b]? = W.heap[b]?) → R (.returned v) W') → LeavesInM F n P fn tmps R (Ds.map (fun D => { target := .collected D, args := #[] })) .returning W
  | [], W, _, _, h => ⟨v, hres W, h W rfl rfl rfl rfl (fun _ _ => rfl)⟩
  | D :: Ds, W, hn, hd, h => by
    obtain ⟨h1, h2⟩ := List.nodup_cons.1 hn
    refine ⟨by simp, .inl ⟨D, _, rfl, run_takeDeferred (hd D (by simp)), ?_⟩⟩
    refine leaves_marks hres Ds _ h2 (fun D' h' => ?_) (fun W' a1 a2 a3 a4 a5 => h W' (a1.trans rfl) (a2.trans rfl) (a3.trans rfl) (a4.trans (by simp)) fun b hb => ?_)
    · rw [World.putObj_heap_other (fun e => h1 (by rw [← e]; exact h') )]
      exact hd D' (by simp [h'])
    · rw [a5 b (fun h => hb (by simp [h])), World.putObj_heap_other (fun e => hb (by simp [e]))]
set_option maxRecDepth 100000 in
set_option maxHeartbeats 4000000 in
theorem laid_walk {X : Nat → Prop} {w : World} {m : Map} {R : List Record} {A0 : Option Addr} {n0 c0 : Nat} {A : Option Addr} {cap rb ro : Nat} (hX : ∀ b, X b → b < w.heap.size)
    (h1 : RO w (fun b => ¬ X b) (.sl (m.map eMp)) (.slice A0 n0 c0)) (hA : 0 < R.length → A = some ⟨rb, ro, none⟩) (hrb : ∀ k, k < R.length → rb < w.heap.size)
    (hrec : ∀ k (hk : k < R.length), ∃ sv, w.cell? ⟨rb, ro + k * 2, none⟩ = some (.int .i64 R[k].Commit) ∧ w.cell? ⟨rb, ro + k * 2 + 1, none⟩ = some sv ∧ RO w (fun b => ¬ X b) (.sl (R[k].Writes.map eW)) sv)
    (hm : S2.smL m 100000000) (hR : R.length ≤ 1048576) (hW : ∀ r ∈ R, r.Writes.length ≤ 64 ∧ ∀ w ∈ r.Writes, okT3 w) :
    Calls Tryz.prog 71 #[.slice A0 n0 c0, .slice A R.length cap] w fun e w' => ∃ v', e = .returned v' ∧ Below w.heap.size w w' ∧ ∃ Fr : Nat → Prop, (∀ b, Fr b → w.heap.size ≤ b) ∧ ∀ ok, TRe Tryz.prog w' ok (.one (.own 79 ((laidRs m R).map S2.oM))) v' Fr := by
  refine (callsIn_wide (n := 6)).1 ?_
  refine callsIn_of_wp_marks Tryz.func71 rfl trivial ?_ rfl
  simp only [Tryz.ntmps71, List.size_toArray, List.length_cons, List.length_nil, Nat.reduceAdd, Nat.reduceSub, Array.replicate_succ, Array.replicate_zero, List.push_toArray, List.append_toArray, List.nil_append, List.cons_append]
  gi_wp2
  refine wpIn_loop (fun a W => ∃ (k : Nat) (u6 u11 u12 u13 u14 u15 u16 u22 : Value) (ds : List Deferred), k ≤ R.length ∧ a = { tmps := #[.slice A0 n0 c0, .slice A R.length cap, .pointer (some ⟨w.heap.size, 0, none⟩), undef, .slice none 0 0, undef, u6, undef, .slice A R.length cap, .int .i64 R.length, .int .i64 k, u11, u12, u13, u14, u15, u16, undef, undef, undef, undef, undef, u22, undef, undef], defers := ds } ∧ LSt X w (laidRs m (R.take k)) W ds)
    (fun a _ => R.length - (RowKit.intOf (a.tmps.getD 10 undef)).toNat) ⟨0, undef, undef, undef, undef, undef, undef, undef, undef, [], Nat.zero_le _, rfl, ?_⟩ (fun a W hI => ?_)
  · refine ⟨(Below.refl _ _).alloc (Nat.le_refl _) _, by simp, ⟨A0, n0, c0, Boxed.new w _ _, ?_⟩, [], rfl, List.nodup_nil, fun D h => by cases h⟩
    refine ROb.of (RO.mono h1 fun b hb hl => ⟨⟨hb, by omega⟩, Below.heap_alloc w _ _ hl⟩)
  obtain ⟨k, u6, u11, u12, u13, u14, u15, u16, u22, ds, hk, rfl, hS⟩ := hI
  by_cases hlt : k < R.length
  · obtain rfl := hA (by omega)
    obtain ⟨sv, hs1, hs2, hs3⟩ := hrec k hlt
    obtain ⟨As, cs, rfl⟩ := roIsSl hs3
    rw [List.length_map] at hs2 hs3
    have hrb' := hrb k hlt
    have hc0 : W.cell? ⟨rb, ro + k * 2, none⟩ = some (.int .i64 R[k].Commit) := (hS.below.cell (p := ⟨rb, _, none⟩) hrb').trans hs1
    have hc1 : W.cell? ⟨rb, ro + k * 2 + 1, none⟩ = some (.slice As R[k].Writes.length cs) := (hS.below.cell (p := ⟨rb, _, none⟩) hrb').trans hs2
    have HS := Lib.hid hS
    have H3 := Lib.hid hs3
    clear hS hs3 hs1 hs2
    gi_wp2_with fail
    refine ⟨trivial, (chunk_in 5 _ _ _ _).mono ?_⟩
    rintro e W1 ⟨rfl, rfl⟩
    have hS := HS.out
    obtain ⟨Av, nv, cv, hbx, hro⟩ := hS.box
    have hlt' := hS.lt
    have hBW : Below W.heap.size W (((W.alloc (Obj.cells #[Value.int IntKind.i64 R[k].Commit, Value.slice As R[k].Writes.length cs] 70)).alloc (.cells #[.slice As R[k].Writes.length cs] 68)).alloc (.cells #[.int .i64 12] 3)) :=
      (((Below.refl _ _).alloc (Nat.le_refl _) _).alloc (by simp) _).alloc (by simp; omega) _
    have hcs : (((W.alloc (Obj.cells #[Value.int IntKind.i64 R[k].Commit, Value.slice As R[k].Writes.length cs] 70)).alloc (.cells #[.slice As R[k].Writes.length cs] 68)).alloc (.cells #[.int .i64 12] 3)).cell? ⟨W.heap.size + 1, 0, none⟩ = some (.slice As R[k].Writes.length cs) := by
      have := ((Boxed.new (W.alloc (Obj.cells #[Value.int IntKind.i64 R[k].Commit, Value.slice As R[k].Writes.length cs] 70)) 68 (.slice As R[k].Writes.length cs)).alloc (.cells #[.int .i64 12] 3)).cell
      rwa [World.size_alloc] at this
    have hcn : (((W.alloc (Obj.cells #[Value.int IntKind.i64 R[k].Commit, Value.slice As R[k].Writes.length cs] 70)).alloc (.cells #[.slice As R[k].Writes.length cs] 68)).alloc (.cells #[.int .i64 12] 3)).cell? ⟨W.heap.size + 1 + 1, 0, none⟩ = some (.int .i64 12) := by
      have := (Boxed.new ((W.alloc (Obj.cells #[Value.int IntKind.i64 R[k].Commit, Value.slice As R[k].Writes.length cs] 70)).alloc (.cells #[.slice As R[k].Writes.length cs] 68)) 3 (.int .i64 12)).cell
      rwa [World.size_alloc, World.size_alloc] at this
    have hsz : (((W.alloc (Obj.cells #[Value.int IntKind.i64 R[k].Commit, Value.slice As R[k].Writes.length cs] 70)).alloc (.cells #[.slice As R[k].Writes.length cs] 68)).alloc (.cells #[.int .i64 12] 3)).heap.size = W.heap.size + 3 := by simp
    rw [World.size_alloc]
    generalize (((W.alloc (Obj.cells #[Value.int IntKind.i64 R[k].Commit, Value.slice As R[k].Writes.length cs] 70)).alloc (.cells #[.slice As R[k].Writes.length cs] 68)).alloc (.cells #[.int .i64 12] 3)) = W0 at *
    have hB0 : Below w.heap.size w W0 := hS.below.trans (hBW.mono hS.below.size)
    have hbx0 : Boxed W0 w.heap.size 39 (.slice Av nv cv) := (hBW.block _ hlt').trans hbx
    have hro0 := hro.below hBW
    have hmk : Marks w.heap.size W0 ds := by
      obtain ⟨Ds, e1, e2, e3⟩ := hS.marks
      exact ⟨Ds, e1, e2, fun D hD => ⟨(e3 D hD).1, (hBW.block D (Array.getElem?_eq_some_iff.1 (e3 D hD).2).1).trans (e3 D hD).2⟩⟩
    have hwl := (hW R[k] (List.getElem_mem hlt)).1
    have hoT := (hW R[k] (List.getElem_mem hlt)).2
    obtain ⟨ws, hws⟩ : ∃ ws, ws = R[k].Writes := ⟨_, rfl⟩
    rw [← hws] at hcs hwl hoT
    have H3' := H3.out
    rw [← hws] at H3'
    obtain ⟨b, off, hch⟩ : ∃ b off, (ws.length = 0 ∧ ∃ a cap, (Value.slice As ws.length cs) = .slice a 0 cap) ∨ ∃ cap, ws.length ≤ cap ∧ As = some ⟨b, off, none⟩ ∧ cs = cap := by
      have h0 := H3'
      rw [show ws.length = (ws.map eW).length by simp] at h0
      rcases roIsCh h0 with h | ⟨b, off, rfl, h⟩
      · have : ws = [] := by simpa using h
        subst this
        exact ⟨0, 0, .inl ⟨rfl, _, _, rfl⟩⟩
      · exact ⟨b, off, .inr ⟨cs, by simpa using h, rfl, rfl⟩⟩
    obtain ⟨mk, hmk0⟩ : ∃ mk, mk = laidRs m (R.take k) := ⟨_, rfl⟩
    have hsm : S2.smL mk 180000000 := by
      rw [hmk0]
      refine smL_up (smL_laidRs (R.take k) hm (fun r hr => (hW r (List.mem_of_mem_take hr)).1)) ?_
      rw [List.length_take]; omega
    rw [← hmk0] at hro0
    have HK := Lib.hid hmk
    have HM := Lib.hid hmk0
    have HW := Lib.hid hws
    have H0 := Lib.hid hB0
    clear hbx hro hBW hS HS hmk hmk0 hc0 hc1 hrec h1 hW hm hws
    have HC : Hid _ := Lib.hid hch
    gi_wp2
    refine wpIn_rangeFunc_ownH (F := Fence.wide) rfl (by omega) (gf := 123) (lb := #[.pointer (some ⟨W.heap.size + 1, 0, none⟩), .pointer (some ⟨W.heap.size + 1 + 1, 0, none⟩)]) rfl trivial (enters_of Tryz.func123 (by kernel_rfl) rfl)
      (chunk_stops 5 (by omega) (W.heap.size + 1) (W.heap.size + 1 + 1) W0.heap.size b off ws.length (.slice As ws.length cs) (by omega) W0 w.heap.size (by omega) (by omega) (by omega) (by omega) (Nat.le_refl _) hcs hcn (hch.imp id fun ⟨cap, h1, h2, h3⟩ => ⟨cap, h1, by rw [h2, h3]⟩))
      (fun h k => h.trans k) (fun A l o o' h1 h2 h3 h4 => Kx.of (belowK_b (Nat.le_refl _) A l o o' h1 h2 h3 h4)) (Below.refl _ _) (fun _ => rfl)
      (fun pre W' => (∃ Av nv cv, Boxed W' w.heap.size 39 (.slice Av nv cv) ∧ ROb X w.heap.size W' (.sl ((laidC mk (pre.map fun x => chW ws x.val)).map eMp)) (.slice Av nv cv)) ∧ (Below w.heap.size w W' ∧ Kx w.heap.size W0.heap.size W0 W'))
      (fun _ _ _ => False)
      (OwnFrom.and (Own.from (fun s A B row hs hg hr => by obtain ⟨Av, nv, cv, h1, h2⟩ := hs; exact ⟨Av, nv, cv, boxed_own _ _ (fun _ => _) s A B row h1 hg hr, h2.keep fun b cs t fz _ _ h3 => cells_own h3 hg hr⟩) _) (OwnFrom.and (ownFrom_below (Nat.le_refl _) (by omega)) (fun s A B row hs hg hr => ⟨Nat.le_trans hs.size hg.size, fun b h1 h2 => (hg.block b (by have := hs.size; omega) (fun e => by have := (hr b e.symm).1; omega)).trans (hs.block b h1 h2)⟩)))
      (fun c s A B row hs hg hr => hs)
      ⟨⟨Av, nv, cv, hbx0, hro0⟩, hB0, Kx.refl _ _ _⟩
      (fun x a' _ => a' = { tmps := #[.slice A0 n0 c0, .slice (some ⟨rb, ro, none⟩) R.length cap, .pointer (some ⟨w.heap.size, 0, none⟩), undef, .slice none 0 0, undef, .pointer (some ⟨W.heap.size, 0, none⟩), chV b off ws.length x.val, .slice (some ⟨rb, ro, none⟩) R.length cap, .int .i64 R.length, .int .i64 k, .bool true, .pointer (some ⟨rb, ro + k * 2, none⟩), .agg #[.int .i64 R[k].Commit, .slice As R[k].Writes.length cs], .pointer (some ⟨W.heap.size, 1, none⟩), .slice As R[k].Writes.length cs, .func (.func 123) #[] #[.pointer (some ⟨W.heap.size + 1, 0, none⟩), .pointer (some ⟨W.heap.size + 1 + 1, 0, none⟩)], chV b off ws.length x.val, undef, undef, undef, undef, u22, undef, undef], defers := [] })
      (fun x a' _ _ _ _ hs _ _ => hs) ?assign ?body ?done ?stop
    case assign =>
      rintro l pre x W' K hIW hK
      gi_wp2
      exact hK _ _ (KeepsFrom.refl _ _) (Kx.refl _ _ _) hIW rfl
    case body =>
      rintro l pre x a' W' hl ⟨r, hr⟩ ⟨⟨Av', nv', cv', hbx', hro'⟩, hB', hK'⟩ rfl hlt'
      have g1 := hbx'.cell
      have g2 := hbx'.frozen
      have hZ : w.heap.size < W'.heap.size := hbx'.lt
      have hx : 12 * x.val < ws.length := by have := x.isLt; unfold nCh at this; omega
      have hvch : ROb X w.heap.size W' (.sl ((chW ws x.val).map eW)) (chV b off ws.length x.val) := by
        rcases HC.out with ⟨h0, _⟩ | ⟨cap, h1, h2, h3⟩
        · omega
        · have h4 := H3'
          rw [h2, h3] at h4
          have := chunk_view h4 h1 (i := 12 * x.val) (q := min 12 (ws.length - 12 * x.val)) (by omega) (by omega)
          exact ROb.of (RO.mono this fun b hb hl => ⟨⟨hb, by omega⟩, hB'.block b hl⟩)
      obtain ⟨mp, hmp⟩ : ∃ mp, mp = laidC mk (pre.map fun x => chW ws x.val) := ⟨_, rfl⟩
      rw [← hmp] at hro'
      have hsmp : S2.smL mp 200000000 := by
        rw [hmp]
        refine smL_up (smL_laidC _ hsm (fun c hc => by obtain ⟨y, _, rfl⟩ := List.mem_map.1 hc; rw [chW_len]; omega)) ?_
        rw [List.length_map]
        unfold nCh at hlt'
        omega
      have hcall := laid_call (X := X) (Z := w.heap.size) (fun b hb => Nat.lt_trans (hX b hb) hZ) hZ hro' hvch hsmp (by rw [chW_len]; omega) (fun y hy => hoT y (List.mem_of_mem_drop (List.mem_of_mem_take hy)))
      have HP := Lib.hid hmp
      have HC2 := Lib.hid hcall
      clear hcall hmp
      gi_wp2_with fail
      refine ⟨trivial, (CallsIn.inRound l (callsIn_wide.2 HC2.out)).mono ?_⟩
      rintro e W2 ⟨v', rfl, hb2, hro2⟩
      obtain ⟨A', c', rfl⟩ := roIsSl hro2
      have hbx2 : Boxed W2 w.heap.size 39 (.slice Av' nv' cv') := (hb2.block _ hZ).trans hbx'
      have g3 := hbx2.cell
      have g4 := hbx2.frozen
      clear g1 g2
      gi_wp2
      have hg2 := grownBy_setCell' W2 w.heap.size (.slice A' (List.length ((laidP mp (chW ws x.val)).map eMp)) c')
      rw [List.length_map] at hg2 hro2
      refine ⟨(KeepsFrom.of_grownBy (row := none) ⟨hb2.os, hb2.tape, hb2.output, hb2.size, fun k hk _ => hb2.block k hk⟩ (fun j e => by cases e)).trans ((KeepsOthers.setCell _ _ _).from _),
        (Kx.of hb2).less hK'.size |>.trans ⟨hg2.size, fun b h1 h2 => hg2.block b (by have := hK'.size; have := hb2.size; omega) (fun e => h2 (by cases e; rfl))⟩, ⟨A', _, c', hbx2.set _, ?_⟩, ((hB'.trans (hb2.mono hB'.size)).setCell (p := ⟨w.heap.size, 0, none⟩) (Nat.le_refl _) _),
        hK'.trans ((Kx.of hb2).less hK'.size |>.trans ⟨hg2.size, fun b h1 h2 => hg2.block b (by have := hK'.size; have := hb2.size; omega) (fun e => h2 (by cases e; rfl))⟩)⟩
      have e : laidC mk ((pre ++ [x]).map fun x => chW ws x.val) = laidP mp (chW ws x.val) := by
        rw [HP.out]; simp [laidC]
      rw [e]
      exact hro2.keep fun b cs t fz _ h2 h3 => (hg2.block b (Array.getElem?_eq_some_iff.1 h3).1 (fun e => h2 (by cases e; rfl))).trans h3
    case done =>
      rintro D ys W' hD rfl ⟨⟨Av', nv', cv', hbx', hro'⟩, hB', hK'⟩ hKD
      have e2 : IntKind.i64.wrap ((k : Int) + 1) = ((k + 1 : Nat) : Int) := by rw [IntKind.wrap_i64] <;> omega
      gi_wp2
      have hks : bupto (nCh ws.length) (nCh ws.length) = bupto (nCh ws.length) (nCh ws.length) := rfl
      refine ⟨⟨k + 1, _, _, _, _, _, _, _, _, _ :: ds, by omega, rfl, hB', hbx'.lt, ⟨Av', nv', cv', hbx', ?_⟩, ?_⟩, ?_⟩
      · have e : laidRs m (R.take (k + 1)) = laidC mk ((bupto (nCh ws.length) (nCh ws.length)).map fun x => chW ws x.val) := by
          rw [cut12_eq, List.take_succ_eq_append_getElem hlt, HM.out, HW.out]
          simp [laidRs, laidR, -List.take_append_getElem]
        rw [e]; exact hro'
      · obtain ⟨Ds, e1, e2, e3⟩ := HK.out
        refine ⟨D :: Ds, by rw [e1]; rfl, List.nodup_cons.2 ⟨fun h => ?_, e2⟩, fun D' h => ?_⟩
        · have := (Array.getElem?_eq_some_iff.1 (e3 D h).2).1; omega
        · rcases List.mem_cons.1 h with rfl | h
          · exact ⟨by omega, hKD⟩
          · obtain ⟨f1, f2⟩ := e3 D' h
            exact ⟨f1, (hK'.block D' (Array.getElem?_eq_some_iff.1 f2).1 (by omega)).trans f2⟩
      · simp [RowKit.intOf]; omega
    case stop => exact fun _ _ _ _ _ _ h _ => h.elim
  · obtain rfl : k = R.length := by omega
    rw [List.take_length] at hS
    obtain ⟨Av, nv, cv, hbx, hro⟩ := hS.box
    have g1 := hbx.cell
    have hsm : S2.smL (laidRs m R) 180000000 := by
      refine smL_up (smL_laidRs R hm (fun r hr => (hW r hr).1)) ?_
      omega
    have hcall := Lib.hid (own_call hro ⟨by have := hsm.1; omega, fun l hl => by have := (hsm.2 l hl).1; omega⟩)
    have HS := Lib.hid hS
    clear hS hro hrec h1 hW hm
    gi_wp2_with fail
    refine ⟨trivial, (callsIn_wide.2 hcall.out).mono ?_⟩
    rintro e W2 ⟨v', rfl, hb2, Fr, hFr, htr⟩
    have hval : ∃ A' n' c', v' = .slice A' n' c' := by
      have h0 := VS.toOne (htr No)
      generalize List.map S2.oM (laidRs m R) = xs at h0
      cases h0 with
      | nil hF => exact ⟨_, _, _, rfl⟩
      | blk Fs hh hg hc hd' hb hF =>
        simp only [Shape] at hh
        obtain ⟨_, _, _, _, _, cap', rfl, _⟩ := hh
        exact ⟨_, _, _, rfl⟩
    obtain ⟨A', n', c', rfl⟩ := hval
    gi_wp2
    have hS := HS.out
    have hBf := hS.below.trans (hb2.mono hS.below.size)
    have hsS := hS.below.size
    obtain ⟨Ds, rfl, hnd, hmk⟩ := hS.marks
    refine leaves_marks (v := .slice A' n' c') (fun W => by simp [results, Tryz.f71, go_sem]) Ds W2 hnd (fun D hD => (hb2.block D (Array.getElem?_eq_some_iff.1 (hmk D hD).2).1).trans (hmk D hD).2)
      (fun W' a1 a2 a3 a4 a5 => ⟨_, rfl, ⟨a1.trans hBf.os, a2.trans hBf.tape, a3.trans hBf.output, by rw [a4]; exact hBf.size, fun b hb => (a5 b (fun h => by have := (hmk b h).1; omega)).trans (hBf.block b hb)⟩, Fr, fun b hb => Nat.le_trans hsS (hFr b hb), fun ok => ?_⟩)
    exact VS.frame (htr No) (fun b hb => a5 b (fun h => by have := (Array.getElem?_eq_some_iff.1 (hmk b h).2).1; have := hFr b hb; omega)) (fun b hb _ => hb.elim)
end Go.Mir.Tryz

set_option linter.unusedVariables false
set_option linter.unusedSimpArgs false
namespace Go.Mir.Tryz
open Go Go.Proofs Go.Shelf Go.RowKit Go.Mir.Q
theorem eRow_inj {a b : List Row} (h : a.map eRow = b.map eRow) : a = b :=
  (List.map_inj_right (f := eRow) fun x y h => by
    obtain ⟨x1, x2⟩ := x; obtain ⟨y1, y2⟩ := y
    simpa [eRow, bs_inj] using h).1 h
theorem eMp_inj {a b : Map} (h : a.map eMp = b.map eMp) : a = b :=
  (List.map_inj_right (f := eMp) fun x y h => by
    simp only [eMp, List.cons.injEq, Mir.D.sl.injEq, and_true] at h
    exact eRow_inj h).1 h
theorem eW_inj {a b : List Write} (h : a.map eW = b.map eW) : a = b :=
  (List.map_inj_right (f := eW) fun x y h => by
    obtain ⟨x1, x2, x3, x4⟩ := x; obtain ⟨y1, y2, y3, y4⟩ := y
    simpa [eW, bs_inj] using h).1 h
theorem eR_inj {a b : List Record} (h : a.map eR = b.map eR) : a = b :=
  (List.map_inj_right (f := eR) fun x y h => by
    obtain ⟨x1, x2⟩ := x; obtain ⟨y1, y2⟩ := y
    simp only [eR, List.cons.injEq, Mir.D.sc.injEq, Value.int.injEq, Mir.D.sl.injEq, and_true, true_and] at h
    rw [h.1, eW_inj h.2]).1 h
abbrev LaidOk (m : Map) (R : List Record) : Prop := S2.smL m 100000000 ∧ R.length ≤ 1048576 ∧ ∀ r ∈ R, r.Writes.length ≤ 64 ∧ ∀ w ∈ r.Writes, okT3 w
abbrev laidA (m : Map) (R : List Record) : List T := [.one (.d (.sl (m.map eMp))), .one (.d (.sl (R.map eR)))]
open Classical in
noncomputable def laidGiven : List PM × (List T → Option Res) := ([.ro, .ro], fun args =>
  if h : ∃ x : Map × List Record, args = laidA x.1 x.2 ∧ LaidOk x.1 x.2 then some (.one (.own 79 ((laidRs h.choose.1 h.choose.2).map S2.oM)), []) else none)
theorem laidGiven_eq {m : Map} {R : List Record} (hl : LaidOk m R) : laidGiven.2 (laidA m R) = some (.one (.own 79 ((laidRs m R).map S2.oM)), []) := by
  have h : ∃ x : Map × List Record, laidA m R = laidA x.1 x.2 ∧ LaidOk x.1 x.2 := ⟨(m, R), rfl, hl⟩
  simp only [laidGiven]
  rw [dif_pos h]
  have h2 := h.choose_spec.1
  generalize h.choose = y at h2 ⊢
  simp only [laidA, T.one, List.cons.injEq, T.vs.injEq, V.d.injEq, Mir.D.sl.injEq, true_and, and_true] at h2
  rw [eMp_inj h2.1, eR_inj h2.2]
theorem laid_ok {pm : FuncId → List PM} (hpm : pm 71 = [.ro, .ro]) {args : List T} {r : Res} (h : laidGiven.2 args = some r) : CallR Tryz.prog pm 71 args r := by
  have h' := h
  simp only [laidGiven] at h'
  split at h'
  case isFalse => cases h'
  rename_i hx
  obtain ⟨⟨m, R⟩, rfl, hl⟩ := hx
  clear h'
  simp only at h hl
  rw [laidGiven_eq hl] at h
  cases h
  show CallR Tryz.prog pm 71 (laidA m R) _
  have hfn : ∃ fn, Tryz.prog.funcs[71]? = some fn ∧ (fn.name == "runtime.NumGoroutine") = false ∧ fn.body.isNone = false := ⟨_, Tryz.func71, by kernel_rfl, by kernel_rfl⟩
  obtain ⟨hl1, hl2, hl3⟩ := hl
  refine ⟨hfn, rfl, fun X w us Fa hX hl ha hd hx => ?_⟩
  match us, hl with
  | [u0, u1], _ =>
    have hk : ∀ b, (¬ X b ∧ ∀ j, j < 2 → ¬ Fa j b) → b < w.heap.size → (¬ X b) ∧ w.heap[b]? = w.heap[b]? := fun b hb _ => ⟨hb.1, rfl⟩
    have h0 := RO.mono (VS.toOne (ha 0 _ u0 rfl rfl)).dRO hk
    have h1 := RO.mono (VS.toOne (ha 1 _ u1 rfl rfl)).dRO hk
    obtain ⟨A0, c0, rfl⟩ := roIsSl h0
    obtain ⟨A, cap, rfl, us, _, hel⟩ := RO.elems (P := Tryz.prog) h1
    have hrest : ∃ rb ro, (0 < R.length → A = some ⟨rb, ro, none⟩) ∧ (∀ k, k < R.length → rb < w.heap.size) ∧ ∀ k (hk : k < R.length), ∃ sv, w.cell? ⟨rb, ro + k * 2, none⟩ = some (.int .i64 R[k].Commit) ∧ w.cell? ⟨rb, ro + k * 2 + 1, none⟩ = some sv ∧ RO w (fun b => ¬ X b) (.sl (R[k].Writes.map eW)) sv := by
      rcases hel with h0 | ⟨b, o, sz, hz, rfl, hsz, hok, hul, hc, hu, hr⟩
      · have : R = [] := by simpa using h0
        subst this
        exact ⟨0, 0, by simp, by simp, by simp⟩
      · by_cases hR0 : R = []
        · subst hR0; exact ⟨0, 0, by simp, by simp, by simp⟩
        have hsz2 : sz = 2 := by
          obtain ⟨p, r, rfl⟩ := List.exists_cons_of_ne_nil hR0
          have := hsz (eR p) (by simp)
          simpa [eR] using this.symm
        subst hsz2
        rw [List.length_map] at hul
        refine ⟨b, o, fun _ => rfl, fun k hk => ?_, fun k hk => ?_⟩
        · exact World.block_lt_of_cell? w _ (hu 0 _ (List.getElem?_eq_getElem (by omega)))
        · have hfl : ∀ i d, (eR R[k])[i]? = some d → (R.map eR).flatten[k * 2 + i]? = some d := fun i d hi => flat_get (sz := 2) hsz (i := k) (c := eR R[k]) (by simp [hk]) hi
          have v0 := hr _ _ us[k * 2 + 0] (hfl 0 _ rfl) (List.getElem?_eq_getElem (by omega))
          have v1 := hr _ _ us[k * 2 + 1] (hfl 1 _ rfl) (List.getElem?_eq_getElem (by omega))
          have c0 := hu _ us[k * 2 + 0] (List.getElem?_eq_getElem (by omega))
          have c1 := hu _ us[k * 2 + 1] (List.getElem?_eq_getElem (by omega))
          have e0 : us[k * 2 + 0] = .int .i64 R[k].Commit := by
            generalize us[k * 2 + 0] = x at v0
            cases v0; rfl
          rw [e0] at c0
          exact ⟨_, by simpa using c0, by simpa [Nat.add_assoc] using c1, v1⟩
    obtain ⟨rb, ro, hA, hrb, hrec⟩ := hrest
    have e2 : (R.map eR).length = R.length := List.length_map _
    rw [e2]
    refine (laid_walk hX h0 hA hrb hrec hl1 hl2 hl3).mono fun en w' ⟨v', he, hb, Fr, hFr, htr⟩ => ⟨v', he, ⟨hb.os, hb.tape, hb.output, hb.size, fun k hk _ => hb.block k hk⟩, Fr, No, htr _, ?_, fun _ _ h => h, fun b h => ?_⟩
    · rw [hpm]; exact own_none
    · rcases h with h | h
      · exact ⟨fun hXb => by have := hX b hXb; have := hFr b h; omega, .inr (hFr b h)⟩
      · exact h.elim
end Go.Mir.Tryz

set_option maxRecDepth 100000
namespace Go.Mir.Tryz
open Go.Proofs
def g5 : VG := [(1,[6,16,19,20,29,30,32,33,34,35,36,40,41,43,44,45,46,47,51,52,54,55,57,58,59,65,66,67,68,70,71,82,83,85,86,92,93,94,96,97,98,103,104,105,107,108,109,111,112,116,117,118,120,121,122,129,130,131,133,134,135,137,138,144,145,146,148,149,150,152,153,215]),(4,[214]),(5,[210]),(6,[65,215]),(8,[6,65,80,90,161,164,165,172,175,176,178,179,188,191,192,194,195,215]),(9,[76]),(11,[140,155,162,173,181,185,189,197,206])]
def a5 : FAnn := { pm := [.ro],rt := g5.un,regs := [(0,{ keep := some [1] }),(1,{ md := [(1,.cp)],keep := some [1,17] }),(2,{ keep := some [2] }),(3,{ keep := some [1,3] }),(4,{ keep := some [1,3,26] }),(6,{ md := [(8,.cp)],keep := some [1,3,38],dr := [(false,[1]),(false,[1,29]),(false,[3]),(false,[1,30,31]),(false,[1,32]),(false,[1]),(false,[1,34]),(false,[1,35]),(false,[1,33,36]),(false,[37])],cl := [[],[0],[],[0,1,2],[0,1,2,3],[],[5],[5,6],[0,1,2,3,4,5,6,7],[0,1,2,3,4,5,6,7,8]] }),(7,{ md := [(8,.cp),(9,.tk)],keep := some [1,3,4,5],dr := [(false,[1]),(false,[1,40]),(false,[3]),(false,[1,41,42]),(false,[1,43]),(false,[1]),(false,[1,45]),(false,[1,46]),(false,[1,44,47]),(true,[39,48]),(true,[39,49]),(true,[39,50]),(true,[4,49,214]),(true,[5,50,210])],cl := [[],[0],[],[0,1,2],[0,1,2,3],[],[5],[5,6],[0,1,2,3,4,5,6,7],[0,1,2,3,4,5,6,7,8],[0,1,2,3,4,5,6,7,8,9],[0,1,2,3,4,5,6,7,8,9],[0,1,2,3,4,5,6,7,8,9,10],[0,1,2,3,4,5,6,7,8,9,10,11,12]] }),(8,{ keep := some [1,3,4,5,6,8] }),(9,{ keep := some [1,3,4,5,6,7,8] }),(10,{ keep := some [1,3,4,5,6,7,8,61] }),(12,{ md := [(8,.cp),(9,.tk),(12,.fz)],keep := some [1,3,4,5,7,8,9] }),(13,{ md := [(1,.cp)],keep := some [1,3,4,5,7,8,89] }),(14,{ keep := some [2] }),(15,{ keep := some [1,3,4,5,6,7,8] }),(16,{ keep := some [1,3,4,5,6,7,8,10] }),(17,{ keep := some [1,3,4,5,6,7,8,10,100] }),(19,{ keep := some [1,3,4,5,6,7,8,10,11] }),(20,{ keep := some [1,3,4,5,6,7,8,10,11,12] }),(21,{ keep := some [1,3,4,5,6,7,8,10,11,12,13] }),(22,{ keep := some [1,3,4,5,6,7,8,10,11,12,13,124] }),(24,{ keep := some [1,3,4,5,6,7,8,10,11,12,13],dr := [(false,[12]),(false,[127]),(false,[1,128]),(false,[1,128,129]),(false,[1,128,130]),(false,[7,128]),(false,[1,128,131,132]),(false,[1,128,133]),(false,[1,128,134]),(false,[13,128]),(false,[1,128,135,136]),(false,[1,128,137]),(false,[1,128,138]),(false,[11,128]),(false,[11,128,140]),(false,[128,139,141]),(false,[128,142]),(false,[1,143]),(false,[1,143,144]),(false,[1,143,145]),(false,[7,143]),(false,[1,143,146,147]),(false,[1,143,148]),(false,[1,143,149]),(false,[13,143]),(false,[1,143,150,151]),(false,[1,143,152]),(false,[1,143,153]),(false,[11,143]),(false,[11,143,155]),(false,[143,154,156]),(false,[128,143,157]),(false,[128,158]),(true,[12,159])],cl := [[],[0],[0,1],[0,1,2],[0,1,2,3],[0,1],[0,1,2,3,4,5],[0,1,2,3,4,5,6],[0,1,2,3,4,5,6,7],[0,1],[0,1,2,3,4,5,6,7,8,9],[0,1,2,3,4,5,6,7,8,9,10],[0,1,2,3,4,5,6,7,8,9,10,11],[0,1],[0,1,13],[0,1,2,3,4,5,6,7,8,9,10,11,12,13,14],[0,1,2,3,4,5,6,7,8,9,10,11,12,13,14,15],[0,1,2,3,4,5,6,7,8,9,10,11,12,13,14,15,16],[0,1,2,3,4,5,6,7,8,9,10,11,12,13,14,15,16,17],[0,1,2,3,4,5,6,7,8,9,10,11,12,13,14,15,16,17,18],[0,1,2,3,4,5,6,7,8,9,10,11,12,13,14,15,16],[0,1,2,3,4,5,6,7,8,9,10,11,12,13,14,15,16,17,18,19,20],[0,1,2,3,4,5,6,7,8,9,10,11,12,13,14,15,16,17,18,19,20,21],[0,1,2,3,4,5,6,7,8,9,10,11,12,13,14,15,16,17,18,19,20,21,22],[0,1,2,3,4,5,6,7,8,9,10,11,12,13,14,15,16],[0,1,2,3,4,5,6,7,8,9,10,11,12,13,14,15,16,17,18,19,20,21,22,23,24],[0,1,2,3,4,5,6,7,8,9,10,11,12,13,14,15,16,17,18,19,20,21,22,23,24,25],[0,1,2,3,4,5,6,7,8,9,10,11,12,13,14,15,16,17,18,19,20,21,22,23,24,25,26],[0,1,2,3,4,5,6,7,8,9,10,11,12,13,14,15,16],[0,1,2,3,4,5,6,7,8,9,10,11,12,13,14,15,16,28],[0,1,2,3,4,5,6,7,8,9,10,11,12,13,14,15,16,17,18,19,20,21,22,23,24,25,26,27,28,29],[0,1,2,3,4,5,6,7,8,9,10,11,12,13,14,15,16,17,18,19,20,21,22,23,24,25,26,27,28,29,30],[0,1,2,3,4,5,6,7,8,9,10,11,12,13,14,15,16,17,18,19,20,21,22,23,24,25,26,27,28,29,30,31],[0,1,2,3,4,5,6,7,8,9,10,11,12,13,14,15,16,17,18,19,20,21,22,23,24,25,26,27,28,29,30,31,32]] }),(23,{ keep := some [1,3,4,5,6,7,8,10,11,12,13] }),(25,{ keep := some [1,3,4,5,6,7,8,10,11,12,14] }),(26,{ keep := some [1,3,4,5,6,7,8,10,11,12,14,15] }),(27,{ keep := some [1,3,4,5,6,7,8,10,11,12,14,15,167] }),(29,{ keep := some [1,3,4,5,6,7,8,10,11,12,14,15],dr := [(false,[14]),(false,[170]),(false,[8,171]),(false,[11,171]),(false,[11,171,173]),(false,[8,171,172,174]),(false,[8,171,175]),(false,[15,171]),(false,[8,171,176,177]),(false,[8,171,178]),(false,[8,171,179]),(false,[11,171]),(false,[11,171,181]),(false,[171,180,182]),(false,[171,183]),(false,[11,184]),(false,[11,184,185]),(false,[184,186]),(false,[8,187]),(false,[11,187]),(false,[11,187,189]),(false,[8,187,188,190]),(false,[8,187,191]),(false,[15,187]),(false,[8,187,192,193]),(false,[8,187,194]),(false,[8,187,195]),(false,[11,187]),(false,[11,187,197]),(false,[187,196,198]),(false,[184,187,199]),(false,[171,184,200]),(false,[171,201]),(true,[14,202])],cl := [[],[0],[0,1],[0,1],[0,1,3],[0,1,2,3,4],[0,1,2,3,4,5],[0,1],[0,1,2,3,4,5,6,7],[0,1,2,3,4,5,6,7,8],[0,1,2,3,4,5,6,7,8,9],[0,1],[0,1,11],[0,1,2,3,4,5,6,7,8,9,10,11,12],[0,1,2,3,4,5,6,7,8,9,10,11,12,13],[0,1,2,3,4,5,6,7,8,9,10,11,12,13,14],[0,1,2,3,4,5,6,7,8,9,10,11,12,13,14,15],[0,1,2,3,4,5,6,7,8,9,10,11,12,13,14,15,16],[0,1,2,3,4,5,6,7,8,9,10,11,12,13,14,15,16,17],[0,1,2,3,4,5,6,7,8,9,10,11,12,13,14,15,16,17],[0,1,2,3,4,5,6,7,8,9,10,11,12,13,14,15,16,17,19],[0,1,2,3,4,5,6,7,8,9,10,11,12,13,14,15,16,17,18,19,20],[0,1,2,3,4,5,6,7,8,9,10,11,12,13,14,15,16,17,18,19,20,21],[0,1,2,3,4,5,6,7,8,9,10,11,12,13,14,15,16,17],[0,1,2,3,4,5,6,7,8,9,10,11,12,13,14,15,16,17,18,19,20,21,22,23],[0,1,2,3,4,5,6,7,8,9,10,11,12,13,14,15,16,17,18,19,20,21,22,23,24],[0,1,2,3,4,5,6,7,8,9,10,11,12,13,14,15,16,17,18,19,20,21,22,23,24,25],[0,1,2,3,4,5,6,7,8,9,10,11,12,13,14,15,16,17],[0,1,2,3,4,5,6,7,8,9,10,11,12,13,14,15,16,17,27],[0,1,2,3,4,5,6,7,8,9,10,11,12,13,14,15,16,17,18,19,20,21,22,23,24,25,26,27,28],[0,1,2,3,4,5,6,7,8,9,10,11,12,13,14,15,16,17,18,19,20,21,22,23,24,25,26,27,28,29],[0,1,2,3,4,5,6,7,8,9,10,11,12,13,14,15,16,17,18,19,20,21,22,23,24,25,26,27,28,29,30],[0,1,2,3,4,5,6,7,8,9,10,11,12,13,14,15,16,17,18,19,20,21,22,23,24,25,26,27,28,29,30,31],[0,1,2,3,4,5,6,7,8,9,10,11,12,13,14,15,16,17,18,19,20,21,22,23,24,25,26,27,28,29,30,31,32]] }),(28,{ keep := some [1,3,4,5,6,7,8,10,11,12,14,15] }),(30,{ keep := some [1,3,4,5,6,7,8,10,209] }),(31,{ keep := some [2] }),(18,{ keep := some [1,3,4,5,6,7,8,10] }),(11,{ keep := some [1,3,4,5,6,7,8] }),(32,{ md := [(1,.cp),(6,.cp)],keep := some [1,3,218] }),(33,{ keep := some [2] }),(5,{ keep := some [1,3] }),(34,{ md := [(0,.cp)],keep := some [2] })] }
def g6 : VG := [(1,[5,6,8,9,12,13,16,17,21,22,32,33,35,36,42,43])]
def a6 : FAnn := { pm := [.ro],rt := g6.un,regs := [(0,{ keep := some [1] }),(1,{ keep := some [1,3] }),(2,{ keep := some [1,3,4] }),(3,{ keep := some [1,3,4,28] }),(5,{ md := [(6,.cp)],keep := some [1,3,4] }),(4,{ keep := some [1,3,4] }),(6,{ md := [(5,.cp)],keep := some [2] })] }
def g16 : VG := []
def a16 : FAnn := { pm := [.ro],rt := g16.un,regs := [(0,{ keep := some [0] }),(1,{ keep := some [2] })] }
def g17 : VG := []
def a17 : FAnn := { pm := [.ro,.ro],rt := g17.un,regs := [(0,{ keep := some [0,1] }),(1,{ keep := some [0,1,10] }),(2,{ keep := some [4] }),(3,{ keep := some [0,1,5] }),(4,{ keep := some [0,1,5,14] }),(6,{ md := [(8,.cp)],keep := some [0,1,5,26],dr := [(false,[0]),(false,[5]),(false,[17,18]),(false,[19]),(false,[1]),(false,[5]),(false,[21,22]),(false,[23]),(false,[20,24]),(false,[25])],cl := [[],[],[0,1],[0,1,2],[],[],[4,5],[4,5,6],[0,1,2,3,4,5,6,7],[0,1,2,3,4,5,6,7,8]] }),(7,{ keep := some [4] }),(5,{ keep := some [0,1,5] }),(8,{ keep := some [4] })] }
def g20 : VG := [(1,[15,48]),(2,[22]),(4,[33]),(5,[27]),(6,[37]),(7,[47]),(10,[42])]
def a20 : FAnn := { pm := [],rt := g20.un,regs := [(0,{ keep := some [] }),(1,{ keep := some [1] }),(2,{ md := [(1,.cp),(2,.tk)],keep := some [1,2,4] }),(3,{ md := [(0,.cp),(3,.tk)],keep := some [1,4,5,6] }),(4,{ md := [(1,.cp),(2,.tk)],keep := some [1,4,6,7,10] }),(5,{ md := [(1,.cp),(5,.cp),(10,.cp),(16,.cp)],keep := some [0] })] }
def g25 : VG := []
def a25 : FAnn := { pm := [.ro,.ro],rt := g25.un,regs := [(0,{ keep := some [0,1] }),(1,{ keep := some [0,1,5] }),(2,{ keep := some [0,1,5,10] }),(4,{ md := [(4,.cp)],keep := some [0,1,5,18] }),(5,{ keep := some [4] }),(6,{ keep := some [0,1,5,6] }),(7,{ keep := some [0,1,5,6,26] }),(9,{ keep := some [0,1,5,6,40] }),(10,{ keep := some [4] }),(8,{ keep := some [0,1,5,6] }),(3,{ keep := some [0,1,5] }),(11,{ md := [(1,.cp)],keep := some [4] })] }
def g27 : VG := [(2,[6,7,8,13,16]),(6,[13])]
def a27 : FAnn := { pm := [.ro,.ro],rt := g27.un,regs := [(0,{ keep := some [1,2] }),(1,{ keep := some [1,2,6] }),(2,{ md := [(1,.cp),(6,.cp)],keep := some [1,2,15] }),(3,{ keep := some [4,5] }),(4,{ md := [(2,.cp)],keep := some [4,5] })] }
def g28 : VG := []
def a28 : FAnn := { pm := [.ro],rt := g28.un,regs := [(0,{ keep := some [0] }),(1,{ keep := some [0,3] }),(2,{ keep := some [0,3,4] }),(3,{ keep := some [0,3,4,15] }),(5,{ keep := some [0,3,4] }),(6,{ keep := some [0,3,4,5] }),(7,{ keep := some [0,3,4,5,35] }),(9,{ keep := some [0,3,4,5],dr := [(false,[3]),(false,[0]),(false,[4]),(false,[39,40]),(false,[41]),(false,[5]),(false,[42,43]),(false,[44]),(false,[45]),(false,[46]),(false,[0]),(false,[4]),(false,[48,49]),(false,[50]),(false,[5]),(false,[51,52]),(false,[53]),(false,[54]),(false,[55]),(false,[47,56]),(false,[57]),(false,[38,58]),(true,[3,59])],cl := [[],[],[],[1,2],[1,2,3],[],[1,2,3,4,5],[1,2,3,4,5,6],[1,2,3,4,5,6,7],[1,2,3,4,5,6,7,8],[],[],[10,11],[10,11,12],[],[10,11,12,13,14],[10,11,12,13,14,15],[10,11,12,13,14,15,16],[10,11,12,13,14,15,16,17],[1,2,3,4,5,6,7,8,9,10,11,12,13,14,15,16,17,18],[1,2,3,4,5,6,7,8,9,10,11,12,13,14,15,16,17,18,19],[0,1,2,3,4,5,6,7,8,9,10,11,12,13,14,15,16,17,18,19,20],[0,1,2,3,4,5,6,7,8,9,10,11,12,13,14,15,16,17,18,19,20,21]] }),(8,{ keep := some [0,3,4,5] }),(4,{ keep := some [0,3,4] }),(10,{ keep := some [2] })] }
def g29 : VG := [(1,[5,6,9,10,13,14,17,18,22,23,33,34,36,37])]
def a29 : FAnn := { pm := [.ro],rt := g29.un,regs := [(0,{ keep := some [1] }),(1,{ md := [(2,.cp),(6,.cp)],keep := some [1,3],dr := [(false,[1]),(false,[1,5]),(false,[1,6]),(false,[7]),(false,[1]),(false,[1,9]),(false,[1,10]),(false,[8,11]),(false,[1]),(false,[1,13]),(false,[1,14]),(false,[12,15]),(false,[1]),(false,[1,17]),(false,[1,18]),(false,[16,19]),(true,[3,20])],cl := [[],[0],[0,1],[0,1,2],[],[4],[0,1,2,4,5],[0,1,2,3,4,5,6],[],[8],[8,9],[0,1,2,3,4,5,6,7,8,9,10],[],[12],[12,13],[0,1,2,3,4,5,6,7,8,9,10,11,12,13,14],[0,1,2,3,4,5,6,7,8,9,10,11,12,13,14,15]] }),(2,{ keep := some [1,3,4] }),(3,{ keep := some [1,3,4,29] }),(5,{ md := [(6,.cp)],keep := some [1,3,4] }),(4,{ keep := some [1,3,4] }),(6,{ keep := some [2] })] }
def g52 : VG := []
def a52 : FAnn := { pm := [.ro,.ro],rt := g52.un,regs := [(0,{ keep := some [0,1] }),(1,{ keep := some [0,1,10] }),(2,{ keep := some [4] }),(3,{ keep := some [0,1,5] }),(4,{ keep := some [0,1,5,14] }),(6,{ keep := some [0,1,5,25],dr := [(false,[0]),(false,[5]),(false,[17,18]),(false,[19]),(false,[1]),(false,[5]),(false,[21,22]),(false,[23]),(false,[20,24])],cl := [[],[],[0,1],[0,1,2],[],[],[4,5],[4,5,6],[0,1,2,3,4,5,6,7]] }),(7,{ keep := some [4] }),(5,{ keep := some [0,1,5] }),(8,{ keep := some [4] })] }
def g7 : VG := [(3,[10,11,15,16])]
def a7 : FAnn := { pm := [.ro],rt := g7.un,regs := [(0,{ keep := some [0,2] }),(1,{ keep := some [0,2,3] }),(2,{ keep := some [0,2,3,4] }),(3,{ keep := some [0,2,3,4,7] }),(5,{ md := [(2,.cp)],keep := some [0,2,3,4],dr := [(false,[3]),(false,[3,10]),(false,[]),(true,[12,13]),(true,[3,10,11,13,14,15,16]),(false,[3]),(true,[3,10,11,14,15,16])],cl := [[],[0],[],[2],[0,1,2,3],[0,1,2,3,4],[0,1,2,3,4,5]] }),(4,{ keep := some [0,2,3,4] }),(6,{ keep := some [2] })] }
def g12 : VG := [(2,[12,16,17,22,23,37,38,39,51,52,76,77]),(4,[91]),(5,[86,92]),(6,[35,47,57,79,89,90,93]),(10,[63])]
def a12 : FAnn := { pm := [.ro,.ro],rt := g12.un,regs := [(0,{ keep := some [1,2,6] }),(1,{ md := [(1,.cp)],keep := some [1,2,6,34] }),(2,{ keep := some [4,5,6,7],dr := [(false,[6]),(true,[4,91]),(true,[5,86,92]),(true,[6,35,47,57,79,89,90,93]),(true,[7])],cl := [[],[],[1],[0,1,2],[0,1,2,3]] }),(3,{ md := [(4,.cp),(5,.tk)],keep := some [1,2,6,8] }),(4,{ keep := some [1,2,6,45] }),(5,{ keep := some [4,5,6,7] }),(6,{ md := [(2,.cp)],keep := some [1,2,6,9] }),(7,{ md := [(5,.cp),(8,.cp),(9,.tk)],keep := some [1,2,6,10,11],dr := [(false,[2]),(false,[2,51]),(false,[9]),(false,[9]),(false,[54]),(false,[2,52,53,55]),(false,[6]),(false,[6,57]),(false,[56,58]),(true,[50,59]),(true,[50,60]),(true,[50,61]),(false,[]),(true,[10,60,63]),(true,[11,61])],cl := [[],[0],[],[],[3],[0,1,2,3,4],[],[6],[0,1,2,3,4,5,6,7],[0,1,2,3,4,5,6,7,8],[0,1,2,3,4,5,6,7,8,9],[0,1,2,3,4,5,6,7,8,9],[],[0,1,2,3,4,5,6,7,8,9,10,12],[0,1,2,3,4,5,6,7,8,9,10,11,12,13]] }),(8,{ md := [(2,.cp),(3,.tk)],keep := some [2,4,6,8,11] }),(9,{ keep := some [2,4,6,73] }),(10,{ keep := some [4,5,6,7] }),(11,{ md := [(2,.cp),(5,.cp),(6,.tk)],keep := some [4,5,6,11],dr := [(false,[2]),(false,[2,76]),(false,[2,77]),(false,[6]),(false,[6,79]),(false,[78,80]),(true,[75,81]),(true,[75,82]),(true,[75,83]),(true,[5,82,86,92]),(true,[11,83])],cl := [[],[0],[0,1],[],[3],[0,1,2,3,4],[0,1,2,3,4,5],[0,1,2,3,4,5,6],[0,1,2,3,4,5,6],[0,1,2,3,4,5,6,7],[0,1,2,3,4,5,6,7,8,9]] }),(12,{ keep := some [4,5,6] }),(13,{ keep := some [4,5,6,7],dr := [(false,[4]),(false,[5]),(false,[6]),(true,[4,91]),(true,[5,86,92]),(true,[6,35,47,57,79,89,90,93]),(true,[7])],cl := [[],[],[],[0],[0,1,3],[0,1,2,3,4],[0,1,2,3,4,5]] })] }
def g22 : VG := [(3,[11,19,38]),(9,[31]),(10,[7,33,36])]
def a22 : FAnn := { pm := [.ro,.ro,.ro],rt := g22.un,regs := [(0,{ keep := some [1,2,3,6] }),(1,{ md := [(1,.cp)],keep := some [1,2,3,6,17] }),(2,{ keep := some [6,7,10] }),(3,{ md := [(1,.cp)],keep := some [1,2,3,6] }),(4,{ keep := some [1,3,6,21,22,23] }),(5,{ keep := some [1,3,6,21,22,23,24] }),(6,{ keep := some [1,3,6,8,9,21,22,23] }),(7,{ keep := some [1,3,6,9,21,22,23,30] }),(8,{ keep := some [1,3,6,10,21,22,23] }),(9,{ keep := some [1,3,6,10,21,22,23,34] }),(10,{ keep := some [6,7,10] }),(11,{ keep := some [1,3,6,21,22,23] }),(12,{ keep := some [6,7,10] })] }
def g56 : VG := []
def a56 : FAnn := { pm := [.ro],rt := g56.un,regs := [(0,{ keep := some [0,3] }),(1,{ md := [(1,.cp)],keep := some [2,3,4] })] }
def g31 : VG := []
def a31 : FAnn := { pm := [.ro],rt := g31.un,regs := [(0,{ keep := some [0] }),(1,{ keep := some [0,3] }),(2,{ keep := some [0,3,12] }),(4,{ keep := some [0,3,4] }),(5,{ keep := some [0,3,4,21] }),(7,{ md := [(8,.cp),(19,.cp)],keep := some [0,3,4,69],dr := [(false,[0]),(false,[3]),(false,[24,25]),(false,[26]),(false,[4]),(false,[27,28]),(false,[29]),(false,[30]),(false,[31]),(false,[32]),(false,[33]),(false,[0,34]),(false,[3,34]),(false,[34,35,36]),(false,[34,37]),(false,[4,34]),(false,[34,38,39]),(false,[34,40]),(false,[34,41]),(false,[34,42]),(false,[34,43]),(false,[34,44]),(false,[45]),(false,[4,46]),(false,[46,47]),(false,[46,48]),(false,[0,49]),(false,[3,49]),(false,[49,50,51]),(false,[49,52]),(false,[4,49]),(false,[49,54]),(false,[49,53,55]),(false,[49,56]),(false,[49,57]),(false,[0,49]),(false,[3,49]),(false,[49,59,60]),(false,[49,61]),(false,[4,49]),(false,[49,62,63]),(false,[49,64]),(false,[49,65]),(false,[49,58,66]),(false,[46,49,67]),(false,[46,68])],cl := [[],[],[0,1],[0,1,2],[],[0,1,2,3,4],[0,1,2,3,4,5],[0,1,2,3,4,5,6],[0,1,2,3,4,5,6,7],[0,1,2,3,4,5,6,7,8],[0,1,2,3,4,5,6,7,8,9],[0,1,2,3,4,5,6,7,8,9,10],[0,1,2,3,4,5,6,7,8,9,10],[0,1,2,3,4,5,6,7,8,9,10,11,12],[0,1,2,3,4,5,6,7,8,9,10,11,12,13],[0,1,2,3,4,5,6,7,8,9,10],[0,1,2,3,4,5,6,7,8,9,10,11,12,13,14,15],[0,1,2,3,4,5,6,7,8,9,10,11,12,13,14,15,16],[0,1,2,3,4,5,6,7,8,9,10,11,12,13,14,15,16,17],[0,1,2,3,4,5,6,7,8,9,10,11,12,13,14,15,16,17,18],[0,1,2,3,4,5,6,7,8,9,10,11,12,13,14,15,16,17,18,19],[0,1,2,3,4,5,6,7,8,9,10,11,12,13,14,15,16,17,18,19,20],[0,1,2,3,4,5,6,7,8,9,10,11,12,13,14,15,16,17,18,19,20,21],[0,1,2,3,4,5,6,7,8,9,10,11,12,13,14,15,16,17,18,19,20,21,22],[0,1,2,3,4,5,6,7,8,9,10,11,12,13,14,15,16,17,18,19,20,21,22,23],[0,1,2,3,4,5,6,7,8,9,10,11,12,13,14,15,16,17,18,19,20,21,22,23,24],[0,1,2,3,4,5,6,7,8,9,10,11,12,13,14,15,16,17,18,19,20,21,22,23,24,25],[0,1,2,3,4,5,6,7,8,9,10,11,12,13,14,15,16,17,18,19,20,21,22,23,24,25],[0,1,2,3,4,5,6,7,8,9,10,11,12,13,14,15,16,17,18,19,20,21,22,23,24,25,26,27],[0,1,2,3,4,5,6,7,8,9,10,11,12,13,14,15,16,17,18,19,20,21,22,23,24,25,26,27,28],[0,1,2,3,4,5,6,7,8,9,10,11,12,13,14,15,16,17,18,19,20,21,22,23,24,25],[0,1,2,3,4,5,6,7,8,9,10,11,12,13,14,15,16,17,18,19,20,21,22,23,24,25,30],[0,1,2,3,4,5,6,7,8,9,10,11,12,13,14,15,16,17,18,19,20,21,22,23,24,25,26,27,28,29,30,31],[0,1,2,3,4,5,6,7,8,9,10,11,12,13,14,15,16,17,18,19,20,21,22,23,24,25,26,27,28,29,30,31,32],[0,1,2,3,4,5,6,7,8,9,10,11,12,13,14,15,16,17,18,19,20,21,22,23,24,25,26,27,28,29,30,31,32,33],[0,1,2,3,4,5,6,7,8,9,10,11,12,13,14,15,16,17,18,19,20,21,22,23,24,25],[0,1,2,3,4,5,6,7,8,9,10,11,12,13,14,15,16,17,18,19,20,21,22,23,24,25],[0,1,2,3,4,5,6,7,8,9,10,11,12,13,14,15,16,17,18,19,20,21,22,23,24,25,35,36],[0,1,2,3,4,5,6,7,8,9,10,11,12,13,14,15,16,17,18,19,20,21,22,23,24,25,35,36,37],[0,1,2,3,4,5,6,7,8,9,10,11,12,13,14,15,16,17,18,19,20,21,22,23,24,25],[0,1,2,3,4,5,6,7,8,9,10,11,12,13,14,15,16,17,18,19,20,21,22,23,24,25,35,36,37,38,39],[0,1,2,3,4,5,6,7,8,9,10,11,12,13,14,15,16,17,18,19,20,21,22,23,24,25,35,36,37,38,39,40],[0,1,2,3,4,5,6,7,8,9,10,11,12,13,14,15,16,17,18,19,20,21,22,23,24,25,35,36,37,38,39,40,41],[0,1,2,3,4,5,6,7,8,9,10,11,12,13,14,15,16,17,18,19,20,21,22,23,24,25,26,27,28,29,30,31,32,33,34,35,36,37,38,39,40,41,42],[0,1,2,3,4,5,6,7,8,9,10,11,12,13,14,15,16,17,18,19,20,21,22,23,24,25,26,27,28,29,30,31,32,33,34,35,36,37,38,39,40,41,42,43],[0,1,2,3,4,5,6,7,8,9,10,11,12,13,14,15,16,17,18,19,20,21,22,23,24,25,26,27,28,29,30,31,32,33,34,35,36,37,38,39,40,41,42,43,44]] }),(8,{ keep := some [2] }),(6,{ keep := some [0,3,4] }),(3,{ keep := some [0,3] }),(9,{ keep := some [2] })] }
def g62 : VG := [(1,[4,9,10,15,16,21,22,24,25])]
def a62 : FAnn := { pm := [.ro],rt := g62.un,regs := [(0,{ keep := some [1] }),(1,{ md := [(2,.cp)],keep := some [1,13] }),(2,{ keep := some [2] }),(3,{ keep := some [1,3] }),(4,{ keep := some [1,3,18] }),(6,{ md := [(5,.cp)],keep := some [1,3,27] }),(7,{ keep := some [2] }),(5,{ keep := some [1,3] }),(8,{ keep := some [2] })] }
def g66 : VG := [(2,[4,8,9])]
def a66 : FAnn := { pm := [.ro,.ro],rt := g66.un,regs := [(0,{ keep := some [1,2] }),(1,{ md := [(1,.cp),(7,.cp)],keep := some [3] })] }
def g69 : VG := []
def a69 : FAnn := { pm := [.ro],rt := g69.un,regs := [(0,{ keep := some [0] }),(1,{ md := [(5,.cp)],keep := some [2] })] }
def g70 : VG := []
def a70 : FAnn := { pm := [.ro,.ro],rt := g70.un,regs := [(0,{ keep := some [0,1] }),(1,{ md := [(2,.cp)],keep := some [4] })] }
def g72 : VG := []
def a72 : FAnn := { pm := [.ro],rt := g72.un,regs := [(0,{ keep := some [0] }),(1,{ keep := some [0,3] }),(2,{ keep := some [0,3,4] }),(3,{ keep := some [0,3,4,14] }),(5,{ md := [(6,.cp)],keep := some [0,3,4] }),(4,{ keep := some [0,3,4] }),(6,{ keep := some [2] })] }
def g73 : VG := []
def a73 : FAnn := { pm := [.ro],rt := g73.un,regs := [(0,{ keep := some [0] }),(1,{ keep := some [0,3] }),(2,{ keep := some [0,3,4] }),(3,{ keep := some [0,3,4,14] }),(5,{ keep := some [0,3,4] }),(4,{ keep := some [0,3,4] }),(6,{ keep := some [2] })] }
def g30 : VG := []
def a30 : FAnn := { pm := [.ro],rt := g30.un,regs := [(0,{ keep := some [0] }),(1,{ keep := some [2] })] }
def g39 : VG := [(1,[3,4,8,9,14,15,19,20,24,25,26])]
def a39 : FAnn := { pm := [.ro],rt := g39.un,regs := [(0,{ keep := some [1] }),(1,{ keep := some [1,18] }),(2,{ keep := some [2] }),(3,{ md := [(2,.cp),(8,.cp)],keep := some [2] })] }
def g40 : VG := [(2,[10,19,21,25,29,33,41,42,52,56]),(5,[38,46,47])]
def a40 : FAnn := { pm := [.ro],rt := g40.un,regs := [(0,{ keep := some [0,2] }),(1,{ keep := some [0,2,7] }),(2,{ keep := some [0,2,7,8] }),(3,{ keep := some [0,2,4,7] }),(4,{ keep := some [0,2,7],dr := [(false,[2]),(false,[2,10]),(false,[11]),(false,[0]),(false,[4]),(false,[14]),(false,[13,15]),(false,[16]),(false,[12,17]),(false,[2]),(true,[2,10,18,19,21,25,29,33,41,42,52,56])],cl := [[],[0],[0,1],[],[],[4],[3,4,5],[3,4,5,6],[0,1,2,3,4,5,6,7],[0,1,2,3,4,5,6,7,8],[0,1,2,3,4,5,6,7,8,9]] }),(5,{ keep := some [0,2,7] }),(6,{ keep := some [0,2,28] }),(7,{ keep := some [2,3] }),(8,{ md := [(4,.cp),(5,.tk)],keep := some [2,5,6] }),(9,{ keep := some [2,5,6] }),(10,{ keep := some [2,3] })] }
def g41 : VG := []
def a41 : FAnn := { pm := [.ro],rt := g41.un,regs := [(0,{ keep := some [0] }),(1,{ keep := some [4] }),(2,{ keep := some [2] }),(3,{ keep := some [2] })] }
def g42 : VG := [(12,[46,56]),(13,[43])]
def a42 : FAnn := { pm := [.ro,.ro,.ro],rt := g42.un,regs := [(0,{ keep := some [0,1,2,6] }),(1,{ keep := some [0,1,2,6,8] }),(2,{ keep := some [0,1,2,6,8,14,15,16] }),(3,{ keep := some [0,1,2,6,8,14,15,16,17] }),(4,{ keep := some [0,1,2,6,8,9,10,14,15,16] }),(5,{ keep := some [0,1,2,6,8,9,10,14,15,16,23] }),(6,{ keep := some [0,1,2,6,8,9,10,11,14,15,16] }),(7,{ keep := some [0,1,2,6,8,9,10,11,14,15,16,28] }),(8,{ keep := some [0,1,2,6,8,9,10,14,15,16] }),(9,{ keep := some [0,1,2,6,8,9,14,15,16,37] }),(10,{ md := [(1,.cp),(2,.tk)],keep := some [0,1,2,6,9,12,13] }),(11,{ md := [(6,.cp),(10,.cp),(11,.cp)],keep := some [6,9,12,55],dr := [(false,[13]),(false,[13,43]),(false,[44]),(false,[12,45]),(false,[1,45]),(false,[2,45]),(false,[12,45,46,47,48]),(false,[0,45]),(false,[9,45]),(false,[45,51]),(false,[45,50,52]),(false,[45,49,53]),(false,[45,54])],cl := [[],[0],[0,1],[0,1,2],[0,1,2],[0,1,2],[0,1,2,3,4,5],[0,1,2],[0,1,2],[0,1,2,8],[0,1,2,7,8,9],[0,1,2,3,4,5,6,7,8,9,10],[0,1,2,3,4,5,6,7,8,9,10,11]] }),(12,{ keep := some [6,7] }),(13,{ keep := some [0,1,2,6,8,14,15,16] }),(14,{ keep := some [6,7] })] }
def g43 : VG := [(2,[12,13,17,18,53]),(6,[4,35,38,41,42,50,52,57]),(9,[19,24,30,33,36,39,43,45])]
def a43 : FAnn := { pm := [.ro,.ro],rt := g43.un,regs := [(0,{ keep := some [1,2] }),(1,{ keep := some [1,2,6] }),(2,{ keep := some [1,2,6,7] }),(3,{ keep := some [1,2,6,7,13,14,15] }),(4,{ keep := some [1,2,6,7,13,14,15,16] }),(5,{ keep := some [1,2,6,7,9,13,14,15] }),(6,{ keep := some [1,2,6,9,13,14,15,32] }),(7,{ keep := some [4,5,6] }),(8,{ keep := some [1,2,6,7,9,13,14,15] }),(9,{ md := [(0,.st)],keep := some [1,2,6,7,13,14,15],dr := [(false,[6]),(false,[9]),(false,[9,36]),(false,[6]),(false,[9]),(false,[9,39]),(false,[6,38,40]),(false,[6,41]),(false,[9]),(false,[9,43]),(false,[9]),(false,[9,45]),(true,[44,46,47]),(true,[47,48]),(true,[4,6,35,38,41,42,48,49,50,52,57]),(false,[6,35,37]),(true,[4,6,35,38,41,42,49,50,52,57])],cl := [[],[],[1],[],[],[4],[3,4,5],[3,4,5,6],[],[8],[],[10],[8,9,10,11],[8,9,10,11,12],[3,4,5,6,7,8,9,10,11,12,13],[0,1,2,3,4,5,6,7,8,9,10,11,12,13,14],[0,1,2,3,4,5,6,7,8,9,10,11,12,13,14,15]] }),(10,{ keep := some [1,2,6,7,13,14,15] }),(11,{ md := [(6,.cp)],keep := some [4,5,6] })] }
def g44 : VG := [(6,[23,32]),(8,[24])]
def a44 : FAnn := { pm := [.ro,.ro,.ro],rt := g44.un,regs := [(0,{ keep := some [0,1,2,6,7] }),(1,{ keep := some [0,1,2,6,7,11] }),(2,{ md := [(5,.cp),(6,.tk)],keep := some [0,1,2,6,7,8,9] }),(3,{ keep := some [0,1,2,6,7,8,9,22] }),(4,{ keep := some [0,1,2,6,7] }),(5,{ keep := some [6,7] })] }
def g59 : VG := [(1,[3,4,6,7])]
def a59 : FAnn := { pm := [.ro],rt := g59.un,regs := [(0,{ keep := some [1,2] }),(1,{ md := [(2,.cp),(5,.cp)],keep := some [2],dr := [(false,[1]),(false,[1,3]),(false,[1,4]),(false,[1]),(false,[1,6]),(false,[1,7]),(true,[5,8,9]),(true,[2,9])],cl := [[],[0],[0,1],[],[3],[0,1,2,3,4],[0,1,2,3,4,5],[0,1,2,3,4,5,6]] })] }
def g60 : VG := [(0,[7,8,9,10,11,16,17,21,22,23,24,28,29,30,31,32,33,38,40,41,42,44,45,46,59,60,61,62]),(3,[12,13,19,47,48,53,54]),(6,[34,36])]
def a60 : FAnn := { pm := [.io,.ro],rt := g60.un,regs := [(0,{ keep := some [0,3] }),(2,{ keep := some [0,3,18] }),(3,{ keep := some [0,24,25,26] }),(4,{ keep := some [0,24,25,26,27] }),(5,{ keep := some [0,6,24,25,26] }),(6,{ keep := some [0,24,25,26],dr := [(false,[0]),(false,[0,30]),(false,[0,31]),(false,[0,32]),(false,[6]),(false,[6,34]),(false,[6]),(false,[6,36]),(false,[0,33,35]),(true,[0,7,8,9,10,11,16,17,21,22,23,24,28,29,30,31,32,33,37,38,40,41,42,44,45,46,59,60,61,62])],cl := [[],[0],[0,1],[0,1,2],[],[4],[],[6],[0,1,2,3,4,5,6,7],[0,1,2,3,4,5,6,7,8]] }),(7,{ keep := some [0,24,25,26] }),(8,{ keep := some [0] }),(9,{ md := [(6,.cp)],keep := some [0,3,43],dr := [(false,[0]),(false,[0,44]),(false,[0,45]),(false,[3]),(false,[3,47]),(false,[3,48]),(false,[0,46,49]),(false,[50]),(true,[43,51])],cl := [[],[0],[0,1],[],[3],[3,4],[0,1,2,3,4,5],[0,1,2,3,4,5,6],[0,1,2,3,4,5,6,7]] }),(10,{ keep := some [0,4] }),(11,{ md := [(3,.cp)],keep := some [0,3,52] }),(12,{ keep := some [0,4] }),(13,{ keep := some [0,3,58] }),(14,{ keep := some [0,4] }),(1,{ md := [(0,.st)],keep := some [0],dr := [(false,[0]),(false,[0]),(false,[0,8]),(false,[0,9]),(false,[0,10]),(false,[3]),(false,[3,12]),(true,[3,12,13,14,19,47,48,53,54]),(true,[0,7,8,9,10,11,14,15,16,17,21,22,23,24,28,29,30,31,32,33,38,40,41,42,44,45,46,59,60,61,62]),(false,[0,7]),(false,[0,16]),(true,[0,7,8,9,10,11,15,16,17,21,22,23,24,28,29,30,31,32,33,38,40,41,42,44,45,46,59,60,61,62])],cl := [[],[],[1],[1,2],[1,2,3],[],[5],[5,6],[1,2,3,4,5,6,7],[0,1,2,3,4,5,6,7,8],[0,1,2,3,4,5,6,7,8,9],[0,1,2,3,4,5,6,7,8,9,10]] }),(15,{ keep := some [0,4] })] }
def g58 : VG := [(9,[21,25,35]),(10,[39,49]),(11,[6,42,52])]
def a58 : FAnn := { pm := [.ro,.ro,.ro],rt := g58.un,regs := [(0,{ keep := some [0,1,2,7] }),(1,{ md := [(1,.cp)],keep := some [0,1,2,7,14] }),(2,{ keep := some [6,7,8,11] }),(3,{ md := [(1,.cp)],keep := some [0,1,7,9] }),(4,{ keep := some [0,1,7,9,19] }),(5,{ keep := some [6,7,8,11] }),(6,{ md := [(1,.cp)],keep := some [0,1,7,9,30] }),(7,{ keep := some [6,7,8,11] }),(8,{ keep := some [0,1,7,9,10] }),(9,{ md := [(1,.cp)],keep := some [0,1,7,10,11],dr := [(false,[1]),(false,[33]),(false,[9]),(false,[0]),(true,[9,21,25,35,36,37]),(true,[34,37,38]),(false,[10]),(true,[10,39,40,49]),(true,[38,40,41]),(true,[6,11,41,42,52])],cl := [[],[0],[],[],[0,1,2,3],[0,1,2,3,4],[],[6],[0,1,2,3,4,5,6,7],[0,1,2,3,4,5,6,7,8]] }),(10,{ keep := some [0,1,7,11],dr := [(false,[11]),(false,[1]),(false,[43]),(true,[44,45]),(false,[0]),(true,[45,46,47]),(true,[6,11,42,47,48,52]),(false,[10]),(true,[10,39,49,50]),(true,[48,50,51]),(true,[6,11,42,51,52])],cl := [[],[],[1],[1,2],[],[1,2,3,4],[0,1,2,3,4,5],[],[7],[0,1,2,3,4,5,6,7,8],[0,1,2,3,4,5,6,7,8,9]] }),(11,{ keep := some [6,7,8,11] })] }
def g74 : VG := []
def a74 : FAnn := { pm := [.ro],rt := g74.un,regs := [(0,{ keep := some [0] }),(1,{ md := [(2,.cp)],keep := some [2] })] }
def g75 : VG := []
def a75 : FAnn := { pm := [.ro],rt := g75.un,regs := [(0,{ keep := some [0] }),(1,{ keep := some [2] })] }
def g14 : VG := []
def a14 : FAnn := { pm := [.ro,.ro,.ro],rt := g14.un,regs := [(0,{ keep := some [0,1,2] }),(1,{ keep := some [6] })] }
def g91 : VG := [(1,[3,7,12,17,21])]
def a91 : FAnn := { pm := [.ro],rt := g91.un,regs := [(0,{ keep := some [1] }),(1,{ md := [(2,.cp),(3,.tk),(6,.cp),(11,.cp)],keep := some [2] })] }
def g63 : VG := [(1,[3,7,12,13,18,19])]
def a63 : FAnn := { pm := [.ro],rt := g63.un,regs := [(0,{ keep := some [1] }),(1,{ md := [(17,.cp)],keep := some [2] })] }
def g67 : VG := []
def a67 : FAnn := { pm := [.ro,.ro],rt := g67.un,regs := [(0,{ keep := some [0,1] }),(1,{ md := [(2,.cp)],keep := some [4] })] }
def g68 : VG := [(2,[4])]
def a68 : FAnn := { pm := [.ro,.ro],rt := g68.un,regs := [(0,{ keep := some [1,2] }),(1,{ keep := some [3] })] }
def g99 : VG := []
def a99 : FAnn := { pm := [.ro,.ro],rt := g99.un,regs := [(0,{ keep := some [0,1] }),(1,{ md := [(2,.cp)],keep := some [4] })] }
def g100 : VG := []
def a100 : FAnn := { pm := [.ro],rt := g100.un,regs := [(0,{ keep := some [0] }),(1,{ md := [(1,.cp)],keep := some [2] })] }
def g102 : VG := []
def a102 : FAnn := { pm := [.ro,.ro],rt := g102.un,regs := [(0,{ keep := some [0,1] }),(1,{ keep := some [0,1,7,8] }),(2,{ keep := some [0,1,7,8,9] }),(3,{ keep := some [0,1,5,7,8] }),(4,{ keep := some [0,1,5,7,8,16] }),(5,{ keep := some [4] }),(6,{ keep := some [0,1,7,8] }),(7,{ keep := some [4] })] }
def g106 : VG := []
def a106 : FAnn := { pm := [.ro],rt := g106.un,regs := [(0,{ keep := some [0] }),(1,{ keep := some [0,3] }),(2,{ keep := some [0,3,4] }),(3,{ keep := some [0,3,4,14] }),(5,{ keep := some [0,3,4],dr := [(false,[3]),(false,[0]),(false,[4]),(false,[18,19]),(false,[20]),(false,[21]),(false,[22]),(false,[0]),(false,[4]),(false,[24,25]),(false,[26]),(false,[27]),(false,[28]),(false,[23,29]),(false,[30]),(false,[17,31]),(true,[3,32])],cl := [[],[],[],[1,2],[1,2,3],[1,2,3,4],[1,2,3,4,5],[],[],[7,8],[7,8,9],[7,8,9,10],[7,8,9,10,11],[1,2,3,4,5,6,7,8,9,10,11,12],[1,2,3,4,5,6,7,8,9,10,11,12,13],[0,1,2,3,4,5,6,7,8,9,10,11,12,13,14],[0,1,2,3,4,5,6,7,8,9,10,11,12,13,14,15]] }),(4,{ keep := some [0,3,4] }),(6,{ keep := some [2] })] }
def g78 : VG := []
def a78 : FAnn := { pm := [.ro,.ro],rt := g78.un,regs := [(0,{ keep := some [0,1] }),(1,{ md := [(2,.cp)],keep := some [4] })] }
def g79 : VG := []
def a79 : FAnn := { pm := [.ro],rt := g79.un,regs := [(0,{ keep := some [0] }),(1,{ md := [(1,.cp)],keep := some [2] })] }
def g81 : VG := []
def a81 : FAnn := { pm := [.ro,.ro],rt := g81.un,regs := [(0,{ keep := some [0,1] }),(1,{ md := [(2,.cp)],keep := some [4] })] }
def g82 : VG := [(2,[5,10])]
def a82 : FAnn := { pm := [.ro,.ro],rt := g82.un,regs := [(0,{ keep := some [1,2] }),(1,{ md := [(3,.cp),(8,.cp)],keep := some [3] })] }
def g64 : VG := [(3,[11]),(6,[48,60]),(10,[28,43,49])]
def a64 : FAnn := { pm := [.ro,.ro,.ro],rt := g64.un,regs := [(0,{ keep := some [1,2,3,6] }),(1,{ md := [(1,.cp)],keep := some [1,2,6,7] }),(2,{ keep := some [1,2,6,7,8] }),(3,{ keep := some [1,2,6,7,8,18] }),(5,{ keep := some [1,2,6,7,8,9] }),(6,{ keep := some [1,2,6,7,8,9,10] }),(7,{ md := [(10,.cp)],keep := some [1,2,6,7,8,9,10] }),(8,{ keep := some [1,2,6,7,8,9,10] }),(9,{ md := [(5,.cp)],keep := some [1,2,6,7,8,9],dr := [(false,[6]),(false,[10]),(false,[10,49]),(false,[9]),(false,[51]),(false,[52]),(false,[50,53]),(true,[54,55]),(true,[6,48,55,56,60]),(true,[6,48,56,60])],cl := [[],[],[1],[],[3],[3,4],[1,2,3,4,5],[1,2,3,4,5,6],[0,1,2,3,4,5,6,7],[0,1,2,3,4,5,6,7,8]] }),(10,{ keep := some [1,2,6,7,8] }),(4,{ keep := some [1,2,6,7,8] }),(11,{ keep := some [6] })] }
def g84 : VG := [(4,[10,13,18,19,20,28,33,34,35,38,39,40]),(5,[26,27,32,45,50])]
def a84 : FAnn := { pm := [.ro],rt := g84.un,regs := [(0,{ keep := some [0,2] }),(1,{ keep := some [2,4] }),(2,{ keep := some [2,4,5] }),(3,{ keep := some [2,4,5,6] }),(4,{ keep := some [2,4,5,6,23] }),(6,{ keep := some [2,4,5,6],dr := [(false,[5]),(false,[5,26]),(false,[4]),(true,[4,10,13,18,19,20,28,29,33,34,35,38,39,40]),(true,[29,30]),(true,[5,26,27,30,31,32,45,50]),(false,[5]),(true,[5,26,27,31,32,45,50])],cl := [[],[0],[],[2],[2,3],[0,1,2,3,4],[0,1,2,3,4,5],[0,1,2,3,4,5,6]] }),(5,{ keep := some [2,4,5,6] }),(7,{ md := [(13,.cp)],keep := some [2,5,48] }),(8,{ keep := some [2,3] }),(9,{ keep := some [2,3] })] }
def g85 : VG := []
def a85 : FAnn := { pm := [.ro,.ro],rt := g85.un,regs := [(0,{ keep := some [0,1] }),(1,{ keep := some [0,1,10] }),(2,{ keep := some [4] }),(3,{ keep := some [0,1,12,13] }),(4,{ keep := some [0,1,12,13,14] }),(5,{ keep := some [0,1,5,12,13] }),(6,{ keep := some [0,1,12,13,24],dr := [(false,[0]),(false,[5]),(false,[16,17]),(false,[18]),(false,[1]),(false,[5]),(false,[20,21]),(false,[22]),(false,[19,23])],cl := [[],[],[0,1],[0,1,2],[],[],[4,5],[4,5,6],[0,1,2,3,4,5,6,7]] }),(7,{ keep := some [4] }),(8,{ keep := some [0,1,12,13] }),(9,{ keep := some [4] })] }
def g80 : VG := []
def a80 : FAnn := { pm := [.ro],rt := g80.un,regs := [(0,{ keep := some [0] }),(1,{ keep := some [2] })] }
def g83 : VG := [(2,[9,10])]
def a83 : FAnn := { pm := [.ro,.ro],rt := g83.un,regs := [(0,{ keep := some [1,2] }),(1,{ keep := some [4] })] }
def g65 : VG := [(0,[6,16,26])]
def a65 : FAnn := { pm := [.own,.ro,.ro],rt := g65.un,regs := [(0,{ keep := some [0,1,2] }),(1,{ keep := some [0,1,9,10,11] }),(2,{ keep := some [0,1,9,10,11,12] }),(3,{ keep := some [0,1,7,8,9,10,11] }),(4,{ keep := some [0,1,9,10,11] }),(5,{ keep := some [0,1,9,10,11] }),(6,{ keep := some [0,6] })] }
def g87 : VG := [(3,[22,23,32,35]),(5,[16,20,21]),(7,[25,27])]
def a87 : FAnn := { pm := [.ro],rt := g87.un,regs := [(0,{ keep := some [0,2] }),(1,{ keep := some [0,2,3] }),(2,{ keep := some [2,3,9,10,11] }),(3,{ keep := some [2,3,9,10,11,12] }),(4,{ keep := some [2,3,4,5,9,10,11] }),(5,{ keep := some [2,3,4,5,9,10,11,16,17,18] }),(6,{ keep := some [2,3,4,5,9,10,11,16,17,18,19] }),(7,{ keep := some [2,3,4,5,7,9,10,11,16,17,18] }),(8,{ keep := some [2,3,4,5,9,10,11,16,17,18] }),(9,{ keep := some [2,3,4,5,9,10,11,16,17,18] }),(10,{ keep := some [2,3,9,10,11] }),(11,{ keep := some [2] })] }
def g45 : VG := []
def a45 : FAnn := { pm := [.ro,.ro],rt := g45.un,regs := [(0,{ keep := some [0,1] }),(1,{ keep := some [4] })] }
def g92 : VG := [(1,[3])]
def a92 : FAnn := { pm := [.ro],rt := g92.un,regs := [(0,{ keep := some [1] }),(1,{ md := [(1,.cp)],keep := some [2] })] }
def g98 : VG := []
def a98 : FAnn := { pm := [.ro,.ro],rt := g98.un,regs := [(0,{ keep := some [0,1] }),(1,{ keep := some [0,1,7,8] }),(2,{ keep := some [0,1,7,8,9] }),(3,{ keep := some [0,1,5,7,8] }),(4,{ keep := some [0,1,5,7,8,16] }),(5,{ keep := some [4] }),(6,{ keep := some [0,1,7,8] }),(7,{ keep := some [4] })] }
def g122 : VG := []
def a122 : FAnn := { pm := [.ro,.ro],rt := g122.un,regs := [(0,{ keep := some [0,1] }),(1,{ keep := some [0,1,7,8] }),(2,{ keep := some [0,1,7,8,9] }),(3,{ keep := some [0,1,5,7,8] }),(4,{ keep := some [0,1,5,7,8,16] }),(5,{ keep := some [4] }),(6,{ keep := some [0,1,7,8] }),(7,{ keep := some [4] })] }
def g101 : VG := [(4,[12,17,26])]
def a101 : FAnn := { pm := [.ro],rt := g101.un,regs := [(0,{ keep := some [0] }),(1,{ keep := some [0,5,6,7] }),(2,{ keep := some [0,5,6,7,8] }),(3,{ keep := some [0,3,4,5,6,7] }),(4,{ md := [(2,.cp),(7,.cp)],keep := some [0,5,6,7,36],dr := [(false,[4]),(false,[4,12]),(false,[13]),(false,[14]),(false,[15]),(false,[4,16]),(false,[4,16,17]),(false,[16,18]),(false,[16,19]),(false,[16,20]),(false,[21]),(false,[3,22]),(false,[22,23]),(false,[22,24]),(false,[4,25]),(false,[4,25,26]),(false,[0,25]),(false,[3,25]),(false,[25,29]),(false,[25,28,30]),(false,[25,31]),(false,[25,32]),(false,[25,27,33]),(false,[22,25,34]),(false,[22,35])],cl := [[],[0],[0,1],[0,1,2],[0,1,2,3],[0,1,2,3,4],[0,1,2,3,4,5],[0,1,2,3,4,5,6],[0,1,2,3,4,5,6,7],[0,1,2,3,4,5,6,7,8],[0,1,2,3,4,5,6,7,8,9],[0,1,2,3,4,5,6,7,8,9,10],[0,1,2,3,4,5,6,7,8,9,10,11],[0,1,2,3,4,5,6,7,8,9,10,11,12],[0,1,2,3,4,5,6,7,8,9,10,11,12,13],[0,1,2,3,4,5,6,7,8,9,10,11,12,13,14],[0,1,2,3,4,5,6,7,8,9,10,11,12,13],[0,1,2,3,4,5,6,7,8,9,10,11,12,13],[0,1,2,3,4,5,6,7,8,9,10,11,12,13,17],[0,1,2,3,4,5,6,7,8,9,10,11,12,13,16,17,18],[0,1,2,3,4,5,6,7,8,9,10,11,12,13,16,17,18,19],[0,1,2,3,4,5,6,7,8,9,10,11,12,13,16,17,18,19,20],[0,1,2,3,4,5,6,7,8,9,10,11,12,13,14,15,16,17,18,19,20,21],[0,1,2,3,4,5,6,7,8,9,10,11,12,13,14,15,16,17,18,19,20,21,22],[0,1,2,3,4,5,6,7,8,9,10,11,12,13,14,15,16,17,18,19,20,21,22,23]] }),(5,{ keep := some [2] }),(6,{ keep := some [0,5,6,7] }),(7,{ keep := some [2] })] }
def g109 : VG := []
def a109 : FAnn := { pm := [.ro,.ro],rt := g109.un,regs := [(0,{ keep := some [0,1] }),(1,{ keep := some [0,1,7,8] }),(2,{ keep := some [0,1,7,8,9] }),(3,{ keep := some [0,1,5,7,8] }),(4,{ keep := some [0,1,5,7,8,16] }),(5,{ keep := some [4] }),(6,{ keep := some [0,1,7,8] }),(7,{ keep := some [4] })] }
def g110 : VG := []
def a110 : FAnn := { pm := [.ro,.ro],rt := g110.un,regs := [(0,{ keep := some [0,1] }),(1,{ keep := some [0,1,7,8] }),(2,{ keep := some [0,1,7,8,9] }),(3,{ keep := some [0,1,5,7,8] }),(4,{ keep := some [0,1,5,7,8,16] }),(5,{ keep := some [4] }),(6,{ keep := some [0,1,7,8] }),(7,{ keep := some [4] })] }
def g94 : VG := [(1,[6,9,10,13,14,18,19]),(3,[20,33,43,48]),(5,[21,24,27,34,37,44])]
def a94 : FAnn := { pm := [.ro],rt := g94.un,regs := [(0,{ keep := some [1] }),(1,{ keep := some [1,3],dr := [(false,[1]),(false,[1,6]),(true,[7,8]),(false,[1]),(false,[1,9]),(false,[1,10]),(true,[8,11,12]),(true,[3,12,20,33,43,48])],cl := [[],[0],[0,1],[],[3],[3,4],[0,1,2,3,4,5],[0,1,2,3,4,5,6]] }),(2,{ keep := some [1,3,14,15,16] }),(3,{ keep := some [1,3,14,15,16,17] }),(4,{ keep := some [1,3,5,14,15,16] }),(5,{ md := [(6,.cp)],keep := some [1,3,5,14,15,16],dr := [(false,[3]),(false,[5]),(false,[5,21]),(false,[22]),(false,[5]),(false,[5,24]),(false,[25]),(false,[5]),(false,[5,27]),(false,[28]),(false,[29]),(true,[23,26,30,31]),(true,[3,20,31,32,33,43,48]),(true,[3,20,32,33,43,48])],cl := [[],[],[1],[1,2],[],[4],[4,5],[],[7],[7,8],[7,8,9],[1,2,3,4,5,6,7,8,9,10],[0,1,2,3,4,5,6,7,8,9,10,11],[0,1,2,3,4,5,6,7,8,9,10,11,12]] }),(6,{ keep := some [1,3,5,14,15,16],dr := [(false,[3]),(false,[5]),(false,[5,34]),(true,[3,20,33,35,36,43,48]),(false,[5]),(false,[5,37]),(false,[38]),(false,[39]),(true,[40,41]),(true,[36,41,42]),(true,[3,20,33,42,43,48])],cl := [[],[],[1],[0,1,2],[],[4],[4,5],[4,5,6],[4,5,6,7],[0,1,2,3,4,5,6,7,8],[0,1,2,3,4,5,6,7,8,9]] }),(7,{ keep := some [1,3,14,15,16] }),(8,{ keep := some [1,3,14,15,16] }),(9,{ keep := some [2] })] }
def g95 : VG := [(0,[5])]
def a95 : FAnn := { pm := [.own,.ro],rt := g95.un,regs := [(0,{ keep := some [0,1] }),(1,{ keep := some [4] })] }
def g96 : VG := []
def a96 : FAnn := { pm := [.ro],rt := g96.un,regs := [(0,{ keep := some [0] }),(1,{ keep := some [3] }),(2,{ keep := some [2] }),(3,{ keep := some [2] })] }
def g111 : VG := [(0,[8]),(11,[15])]
def a111 : FAnn := { pm := [.io,.ro],rt := g111.un,regs := [(0,{ keep := some [0,1] }),(1,{ keep := some [0,1,5] }),(2,{ keep := some [0,5,11,12,13] }),(3,{ keep := some [0,5,11,12,13,14] }),(4,{ keep := some [0,5,7,11,12,13] }),(5,{ keep := some [0,5,11,12,13] }),(6,{ keep := some [0,5,11,12,13] }),(7,{ keep := some [0,4] })] }
def g112 : VG := [(0,[4,7,12,13,14,15,21,22,23,24,28,29]),(2,[6,11,27,32,33])]
def a112 : FAnn := { pm := [.io],rt := g112.un,regs := [(0,{ keep := some [0,2] }),(1,{ keep := some [0,2] }),(2,{ keep := some [0,2,3] }),(3,{ keep := some [0,2,3] }),(4,{ keep := some [0,2] }),(5,{ keep := some [0,2] }),(6,{ keep := some [0,2] }),(7,{ keep := some [0,2] })] }
def g93 : VG := [(1,[3,7,12,17,21])]
def a93 : FAnn := { pm := [.ro],rt := g93.un,regs := [(0,{ keep := some [1] }),(1,{ md := [(2,.cp),(3,.tk),(6,.cp),(11,.cp)],keep := some [2] })] }
def g114 : VG := []
def a114 : FAnn := { pm := [.ro],rt := g114.un,regs := [(0,{ keep := some [0] }),(1,{ keep := some [2] })] }
def g115 : VG := []
def a115 : FAnn := { pm := [.ro],rt := g115.un,regs := [(0,{ keep := some [0] }),(1,{ keep := some [2] })] }
def g127 : VG := [(0,[6,7,8,12,13,14,19,20,21,22,23,24,28,29,30,31,35,36])]
def a127 : FAnn := { pm := [.io,.ro],rt := g127.un,regs := [(0,{ keep := some [0,1] }),(1,{ keep := some [0,1,18] }),(2,{ keep := some [0] }),(3,{ keep := some [0,4] }),(4,{ keep := some [0,1,5] }),(5,{ keep := some [0,5] }),(6,{ keep := some [0,4] })] }
def g113 : VG := []
def a113 : FAnn := { pm := [.ro],rt := g113.un,regs := [(0,{ keep := some [0] }),(1,{ keep := some [2] })] }
def b5 : IC := .seq (JR [Jy 1 0,Jo 2 false] [1]) (.seq (.seq (JR [Jg 16 8 1,Jr 17 6 16] [1,17]) (.cond (.tmp 17) (.seq (JR [Jo 2 true] [2]) .ret) .skip)) (.seq (.seq (JR [Ji 3 0] [1,3]) (.block 0 (.loop (.seq (.seq (JR [Jc 18 3,Jf 19 0 1,Jl 20 19,Jn 21 20,Jb 22 .lss 18 21,Jc 23 22,Jcw 24 23 true 3,Jw 25 23 true (.bin none .lss (.tmp 24) (.con (.int .i64 6))),Jp 26 23 25] [1,3,26]) (.cond (.tmp 26) .skip (.exit 0))) (.seq (.block 1 (.seq (.seq (JW [(Jf 29 0 1,false,[1]),(Jl 30 29,false,[1,29]),(Jc 31 3,false,[3]),(Jx 32 1 30 31,false,[1,30,31]),(Jl 33 32,false,[1,32]),(Jf 34 1 1,false,[1]),(Jf 35 0 34,false,[1,34]),(Jl 36 35,false,[1,35]),(Jv 37 25 33 36,false,[1,33,36]),(Ju 38 37,false,[37])] [1,3,38]) (.cond (.tmp 38) (.exit 1) .skip)) (.seq (JW [(Jf 40 0 1,false,[1]),(Jl 41 40,false,[1,40]),(Jc 42 3,false,[3]),(Jx 43 1 41 42,false,[1,41,42]),(Jl 44 43,false,[1,43]),(Jf 45 1 1,false,[1]),(Jf 46 0 45,false,[1,45]),(Jl 47 46,false,[1,46]),(Jv 48 27 44 47,false,[1,44,47]),(Jt 39 48,true,[39,48]),(Je 49 0 39,true,[39,49]),(Je 50 1 39,true,[39,50]),(Jt 4 49,true,[4,49,214]),(Jt 5 50,true,[5,50,210])] [1,3,4,5]) (.seq (JR [Jf 51 0 1,Jl 52 51,Jc 53 3,Jx 54 1 52 53,Jl 55 54,Jt 6 55] [1,3,4,5,6,8]) (.seq (.seq (JR [Ji 7 0] [1,3,4,5,6,7,8]) (.block 2 (.loop (.seq (.seq (JR [Jc 56 7,Jf 57 1 1,Jf 58 0 57,Jl 59 58,Jn 60 59,Jb 61 .lss 56 60] [1,3,4,5,6,7,8,61]) (.cond (.tmp 61) .skip (.exit 2))) (.seq (.block 3 (.seq (JR [Jc 65 6,Jf 66 1 1,Jf 67 0 66,Jl 68 67,Jc 69 7,Jx 70 2 68 69,Jg 71 2 70,J 72 (.bslice 70 [.d (.sc (.int .i64 0)),.own 78 []] 1 [(0,.tmp 71)]),Jv 73 27 65 72,Jt 64 73,Je 74 0 64,Je 75 1 64,J 8 (.mov .fz (.tmp 74)),Jt 9 75] [1,3,4,5,7,8,9]) (.seq (.seq (JR [Jc 76 9,Jr 77 16 76,Jk 78 .neq 77 0,Jc 79 78,Jcw 80 79 false 8,Jw 81 79 false (.len false (.tmp 80)),Jfw 82 79 false 0 1,Jlw 83 79 false 82,Jcw 84 79 false 3,Jw 85 79 false (.indexA 1 (.tmp 83) (.tmp 84)),Jlw 86 79 false 85,Jw 87 79 false (.len false (.tmp 86)),Jw 88 79 false (.bin none .neq (.tmp 81) (.tmp 87)),Jq 89 79 88] [1,3,4,5,7,8,89]) (.cond (.tmp 89) (.seq (JR [Jo 2 false] [2]) .ret) .skip)) (.seq (JR [Jc 90 8,Jt 6 90] [1,3,4,5,6,7,8]) (.seq (JR [Ji 10 0] [1,3,4,5,6,7,8,10]) (.block 4 (.loop (.seq (.seq (JR [Jc 91 10,Jf 92 1 1,Jf 93 0 92,Jl 94 93,Jc 95 7,Jx 96 2 94 95,Jf 97 1 96,Jl 98 97,Jn 99 98,Jb 100 .lss 91 99] [1,3,4,5,6,7,8,10,100]) (.cond (.tmp 100) .skip (.exit 4))) (.seq (.block 5 (.seq (JR [Jf 103 1 1,Jf 104 0 103,Jl 105 104,Jc 106 7,Jx 107 2 105 106,Jf 108 1 107,Jl 109 108,Jc 110 10,Jx 111 4 109 110,Jg 112 4 111,J 11 (.alloc [.d (.sc (.int .i64 0)),.d (.sc (.string (bs []))),.d (.sc (.string (bs []))),.d (.sc (.bool false))]),Js 4 11 112] [1,3,4,5,6,7,8,10,11]) (.seq (JR [Jo 12 true] [1,3,4,5,6,7,8,10,11,12]) (.seq (.seq (JR [Jc 113 10,Jk 114 .add 113 1,Jt 13 114] [1,3,4,5,6,7,8,10,11,12,13]) (.block 6 (.loop (.seq (.seq (JR [Jc 115 13,Jf 116 1 1,Jf 117 0 116,Jl 118 117,Jc 119 7,Jx 120 2 118 119,Jf 121 1 120,Jl 122 121,Jn 123 122,Jb 124 .lss 115 123] [1,3,4,5,6,7,8,10,11,12,13,124]) (.cond (.tmp 124) .skip (.exit 6))) (.seq (.block 7 (JW [(Jc 127 12,false,[12]),(Jc 128 127,false,[127]),(Jfw 129 128 true 1 1,false,[1,128]),(Jfw 130 128 true 0 129,false,[1,128,129]),(Jlw 131 128 true 130,false,[1,128,130]),(Jcw 132 128 true 7,false,[7,128]),(Jw 133 128 true (.indexA 2 (.tmp 131) (.tmp 132)),false,[1,128,131,132]),(Jfw 134 128 true 1 133,false,[1,128,133]),(Jlw 135 128 true 134,false,[1,128,134]),(Jcw 136 128 true 13,false,[13,128]),(Jw 137 128 true (.indexA 4 (.tmp 135) (.tmp 136)),false,[1,128,135,136]),(Jfw 138 128 true 0 137,false,[1,128,137]),(Jlw 139 128 true 138,false,[1,128,138]),(Jfw 140 128 true 0 11,false,[11,128]),(Jlw 141 128 true 140,false,[11,128,140]),(Jw 142 128 true (.bin none .neq (.tmp 139) (.tmp 141)),false,[128,139,141]),(Jcw 143 128 true 142,false,[128,142]),(Jfw 144 143 false 1 1,false,[1,143]),(Jfw 145 143 false 0 144,false,[1,143,144]),(Jlw 146 143 false 145,false,[1,143,145]),(Jcw 147 143 false 7,false,[7,143]),(Jw 148 143 false (.indexA 2 (.tmp 146) (.tmp 147)),false,[1,143,146,147]),(Jfw 149 143 false 1 148,false,[1,143,148]),(Jlw 150 143 false 149,false,[1,143,149]),(Jcw 151 143 false 13,false,[13,143]),(Jw 152 143 false (.indexA 4 (.tmp 150) (.tmp 151)),false,[1,143,150,151]),(Jfw 153 143 false 1 152,false,[1,143,152]),(Jlw 154 143 false 153,false,[1,143,153]),(Jfw 155 143 false 1 11,false,[11,143]),(Jlw 156 143 false 155,false,[11,143,155]),(Jw 157 143 false (.bin none .neq (.tmp 154) (.tmp 156)),false,[143,154,156]),(Jw 158 128 true (.pick (.tmp 143) (.con (.bool true)) (.tmp 157)),false,[128,143,157]),(Jp 159 128 158,false,[128,158]),(Jt 12 159,true,[12,159])] [1,3,4,5,6,7,8,10,11,12,13])) (JR [Jc 125 13,Jk 126 .add 125 1,Jt 13 126] [1,3,4,5,6,7,8,10,11,12,13])))))) (.seq (JR [Jo 14 false] [1,3,4,5,6,7,8,10,11,12,14]) (.seq (.seq (JR [Ji 15 0] [1,3,4,5,6,7,8,10,11,12,14,15]) (.block 8 (.loop (.seq (.seq (JR [Jc 160 15,Jc 161 8,Jf 162 0 11,Jl 163 162,Jx 164 1 161 163,Jl 165 164,Jn 166 165,Jb 167 .lss 160 166] [1,3,4,5,6,7,8,10,11,12,14,15,167]) (.cond (.tmp 167) .skip (.exit 8))) (.seq (.block 9 (JW [(Jc 170 14,false,[14]),(Jc 171 170,false,[170]),(Jcw 172 171 false 8,false,[8,171]),(Jfw 173 171 false 0 11,false,[11,171]),(Jlw 174 171 false 173,false,[11,171,173]),(Jw 175 171 false (.indexA 1 (.tmp 172) (.tmp 174)),false,[8,171,172,174]),(Jlw 176 171 false 175,false,[8,171,175]),(Jcw 177 171 false 15,false,[15,171]),(Jw 178 171 false (.indexA 2 (.tmp 176) (.tmp 177)),false,[8,171,176,177]),(Jfw 179 171 false 0 178,false,[8,171,178]),(Jlw 180 171 false 179,false,[8,171,179]),(Jfw 181 171 false 1 11,false,[11,171]),(Jlw 182 171 false 181,false,[11,171,181]),(Jw 183 171 false (.bin none .eql (.tmp 180) (.tmp 182)),false,[171,180,182]),(Jcw 184 171 false 183,false,[171,183]),(Jfw 185 184 true 3 11,false,[11,184]),(Jlw 186 184 true 185,false,[11,184,185]),(Jcw 187 184 true 186,false,[184,186]),(Jcw 188 187 false 8,false,[8,187]),(Jfw 189 187 false 0 11,false,[11,187]),(Jlw 190 187 false 189,false,[11,187,189]),(Jw 191 187 false (.indexA 1 (.tmp 188) (.tmp 190)),false,[8,187,188,190]),(Jlw 192 187 false 191,false,[8,187,191]),(Jcw 193 187 false 15,false,[15,187]),(Jw 194 187 false (.indexA 2 (.tmp 192) (.tmp 193)),false,[8,187,192,193]),(Jfw 195 187 false 1 194,false,[8,187,194]),(Jlw 196 187 false 195,false,[8,187,195]),(Jfw 197 187 false 2 11,false,[11,187]),(Jlw 198 187 false 197,false,[11,187,197]),(Jw 199 187 false (.bin none .eql (.tmp 196) (.tmp 198)),false,[187,196,198]),(Jw 200 184 true (.pick (.tmp 187) (.con (.bool true)) (.tmp 199)),false,[184,187,199]),(Jw 201 171 false (.pick (.tmp 184) (.tmp 200) (.con (.bool false))),false,[171,184,200]),(Jq 202 171 201,false,[171,201]),(Jt 14 202,true,[14,202])] [1,3,4,5,6,7,8,10,11,12,14,15])) (JR [Jc 168 15,Jk 169 .add 168 1,Jt 15 169] [1,3,4,5,6,7,8,10,11,12,14,15])))))) (.seq (JR [Jc 203 12,Jc 204 203,Jcw 205 204 true 14,Jfw 206 204 true 3 11,Jlw 207 204 true 206,Jw 208 204 true (.bin (some (false,[.b])) .eql (.tmp 205) (.tmp 207)),Jp 209 204 208] [1,3,4,5,6,7,8,10,209]) (.cond (.tmp 209) (.seq (JR [Jo 2 false] [2]) .ret) .skip)))))))) (JR [Jc 101 10,Jk 102 .add 101 1,Jt 10 102] [1,3,4,5,6,7,8,10])))))))))) (JR [Jc 62 7,Jk 63 .add 62 1,Jt 7 63] [1,3,4,5,6,7,8])))))) (.seq (JR [Jc 210 5,Jr 211 16 210,Jk 212 .neq 211 0,Jc 213 212,Jcw 214 213 false 4,Jcw 215 213 false 6,Jw 216 213 false (.callr 17 [.tmp 214,.tmp 215]),Jw 217 213 false (.un .not (.tmp 216)),Jq 218 213 217] [1,3,218]) (.cond (.tmp 218) (.seq (JR [Jo 2 false] [2]) .ret) .skip))))))) (JR [Jc 27 3,Jk 28 .add 27 1,Jt 3 28] [1,3])))))) (.seq (JR [J 219 (.callr 20 []),Jt 2 219] [2]) .ret)))
def pf5 : PFunc := ⟨1, [.ro], g5.un, [.tmp 2], b5⟩
theorem pe5 : prepF Go.Proofs.Tryz.prog a5 Go.Proofs.Tryz.f5 = some pf5 := by kernel_rfl
def b6 : IC := .seq (JR [Jy 1 0,Jo 2 false] [1]) (.seq (JR [Jf 5 0 1,Jl 6 5,Jn 7 6,Jf 8 5 1,Jl 9 8,Jn 10 9,Jb 11 .add 7 10,Jf 12 6 1,Jl 13 12,Jn 14 13,Jb 15 .add 11 14,Jf 16 7 1,Jl 17 16,Jn 18 17,Jb 19 .add 15 18,Jt 3 19] [1,3]) (.seq (.seq (JR [Ji 4 0] [1,3,4]) (.block 0 (.loop (.seq (.seq (JR [Jc 20 4,Jf 21 0 1,Jl 22 21,Jn 23 22,Jb 24 .lss 20 23,Jc 25 24,Jcw 26 25 true 3,Jw 27 25 true (.bin none .lss (.tmp 26) (.con (.int .i64 1048576))),Jp 28 25 27] [1,3,4,28]) (.cond (.tmp 28) .skip (.exit 0))) (.seq (.block 1 (JR [Jc 31 3,Jf 32 0 1,Jl 33 32,Jc 34 4,Jx 35 1 33 34,Jl 36 35,Jr 37 28 36,Jb 38 .add 31 37,Jt 3 38] [1,3,4])) (JR [Jc 29 4,Jk 30 .add 29 1,Jt 4 30] [1,3,4])))))) (.seq (JR [Jc 39 3,Jk 40 .gtr 39 700,Jc 41 40,Jfw 42 41 false 1 1,Jw 43 41 false (.load .cp true 4 (.tmp 42)),Jw 44 41 false (.callr 29 [.tmp 43]),Jq 45 41 44,Jt 2 45] [2]) .ret)))
def pf6 : PFunc := ⟨1, [.ro], g6.un, [.tmp 2], b6⟩
theorem pe6 : prepF Go.Proofs.Tryz.prog a6 Go.Proofs.Tryz.f6 = some pf6 := by kernel_rfl
def b16 : IC := .seq (JR [Ji 2 0] [0]) (.seq (JR [Jc 3 0,Jt 2 3] [2]) .ret)
def pf16 : PFunc := ⟨1, [.ro], g16.un, [.tmp 2], b16⟩
theorem pe16 : prepF Go.Proofs.Tryz.prog a16 Go.Proofs.Tryz.f16 = some pf16 := by kernel_rfl
def b17 : IC := .seq (JR [Jo 4 false] [0,1]) (.seq (.seq (JR [Jc 6 0,Jn 7 6,Jc 8 1,Jn 9 8,Jb 10 .neq 7 9] [0,1,10]) (.cond (.tmp 10) (.seq (JR [Jo 4 false] [4]) .ret) .skip)) (.seq (.seq (JR [Ji 5 0] [0,1,5]) (.block 0 (.loop (.seq (.seq (JR [Jc 11 5,Jc 12 0,Jn 13 12,Jb 14 .lss 11 13] [0,1,5,14]) (.cond (.tmp 14) .skip (.exit 0))) (.seq (.block 1 (.seq (JW [(Jc 17 0,false,[0]),(Jc 18 5,false,[5]),(Jx 19 1 17 18,false,[17,18]),(Jl 20 19,false,[19]),(Jc 21 1,false,[1]),(Jc 22 5,false,[5]),(Jx 23 1 21 22,false,[21,22]),(Jl 24 23,false,[23]),(Jv 25 52 20 24,false,[20,24]),(Ju 26 25,false,[25])] [0,1,5,26]) (.cond (.tmp 26) (.seq (JR [Jo 4 false] [4]) .ret) .skip))) (JR [Jc 15 5,Jk 16 .add 15 1,Jt 5 16] [0,1,5])))))) (.seq (JR [Jo 4 true] [4]) .ret)))
def pf17 : PFunc := ⟨2, [.ro, .ro], g17.un, [.tmp 4], b17⟩
theorem pe17 : prepF Go.Proofs.Tryz.prog a17 Go.Proofs.Tryz.f17 = some pf17 := by kernel_rfl
def b20 : IC := .seq (JR [Jo 0 false] []) (.seq (JR [J 11 (.build true [.d (.sc (.string (bs []))),.d (.sc (.string (bs [])))] [(0,1,.con (.str (bs [97]))),(1,1,.con (.str (bs [118])))]),J 12 (.bslice 81 [.d (.sc (.string (bs []))),.d (.sc (.string (bs [])))] 1 [(0,.tmp 11)]),J 13 (.bslice 79 [.own 81 []] 1 [(0,.tmp 12)]),Jt 1 13] [1]) (.seq (JR [Jc 15 1,Jr 16 56 15,Jt 14 16,Je 17 0 14,Je 18 1 14,Je 19 2 14,J 3 (.alloc [.d (.sc (.int .i64 0)),.d (.sc (.int .i64 0)),.d (.sc (.int .i64 0)),.d (.sc (.int .i64 0))]),Jt 2 17,Js 4 3 18,Jt 4 19] [1,2,4]) (.seq (JR [J 21 (.callr 7 [.con (.int .i64 512)]),Jc 22 2,J 23 (.call 22 [.tmp 21,.con (.int .i64 (-1)),.tmp 22]),Jt 20 23,Je 24 0 20,Je 25 1 20,J 5 (.alloc [.own 9 [],.own 72 []]),Js 2 5 24,Jt 6 25] [1,4,5,6]) (.seq (JR [Jg 27 2 5,J 28 (.callr 12 [.tmp 27,.con (.int .i64 1)]),Jt 26 28,Je 29 0 26,Je 30 1 26,Je 31 2 26,Je 32 3 26,J 9 (.alloc [.d (.sc (.int .i64 0)),.d (.sc (.int .i64 0)),.d (.sc (.int .i64 0)),.d (.sc (.int .i64 0))]),Jt 7 29,Jt 8 30,Js 4 9 31,Jt 10 32] [1,4,6,7,10]) (.seq (JR [Jc 33 4,Jr 34 16 33,Jk 35 .eql 34 0,Jc 36 35,Jcw 37 36 true 6,Jw 38 36 true (.callr 16 [.tmp 37]),Jw 39 36 true (.bin none .eql (.tmp 38) (.con (.int .i64 0))),Jp 40 36 39,Jc 41 40,Jcw 42 41 true 10,Jw 43 41 true (.callr 16 [.tmp 42]),Jw 44 41 true (.bin none .eql (.tmp 43) (.con (.int .i64 0))),Jp 45 41 44,Jc 46 45,Jcw 47 46 true 7,Jcw 48 46 true 1,Jw 49 46 true (.callr 17 [.tmp 47,.tmp 48]),Jp 50 46 49,Jt 0 50] [0]) .ret)))))
def pf20 : PFunc := ⟨0, [], g20.un, [.tmp 0], b20⟩
theorem pe20 : prepF Go.Proofs.Tryz.prog a20 Go.Proofs.Tryz.f20 = some pf20 := by kernel_rfl
def b25 : IC := .seq (JR [Jo 4 false] [0,1]) (.seq (.seq (JR [Ji 5 0] [0,1,5]) (.block 0 (.loop (.seq (.seq (JR [Jc 7 5,Jc 8 1,Jn 9 8,Jb 10 .lss 7 9] [0,1,5,10]) (.cond (.tmp 10) .skip (.exit 0))) (.seq (.block 1 (.seq (.seq (JR [Jc 13 1,Jc 14 5,Jx 15 2 13 14,Jg 16 2 15,Jr 17 62 16,Ju 18 17] [0,1,5,18]) (.cond (.tmp 18) (.seq (JR [Jo 4 false] [4]) .ret) .skip)) (.seq (JR [Ji 6 0] [0,1,5,6]) (.block 2 (.loop (.seq (.seq (JR [Jc 19 6,Jc 20 1,Jc 21 5,Jx 22 2 20 21,Jf 23 1 22,Jl 24 23,Jn 25 24,Jb 26 .lss 19 25] [0,1,5,6,26]) (.cond (.tmp 26) .skip (.exit 2))) (.seq (.block 3 (.seq (JR [Jc 29 1,Jc 30 5,Jx 31 2 29 30,Jf 32 1 31,Jl 33 32,Jc 34 6,Jx 35 4 33 34,Jf 36 0 35,Jl 37 36,Jc 38 0,Jn 39 38,Jb 40 .geq 37 39] [0,1,5,6,40]) (.cond (.tmp 40) (.seq (JR [Jo 4 false] [4]) .ret) .skip))) (JR [Jc 27 6,Jk 28 .add 27 1,Jt 6 28] [0,1,5,6])))))))) (JR [Jc 11 5,Jk 12 .add 11 1,Jt 5 12] [0,1,5])))))) (.seq (JR [Jc 41 0,Jr 42 31 41,Jt 4 42] [4]) .ret))
def pf25 : PFunc := ⟨2, [.ro, .ro], g25.un, [.tmp 4], b25⟩
theorem pe25 : prepF Go.Proofs.Tryz.prog a25 Go.Proofs.Tryz.f25 = some pf25 := by kernel_rfl
def b27 : IC := .seq (JR [Jy 2 0,Jz 4 79,Ji 5 0] [1,2]) (.seq (JR [J 7 (.mkfn 66 [.tmp 2]),Jt 6 7] [1,2,6]) (.seq (.seq (JR [Jl 8 2,Jr 9 69 8,Ju 10 9,Jc 11 10,Jcw 12 11 false 1,Jcw 13 11 false 6,Jw 14 11 false (.callr 70 [.tmp 12,.tmp 13]),Jq 15 11 14] [1,2,15]) (.cond (.tmp 15) (.seq (JR [Jz 4 79,Ji 5 1] [4,5]) .ret) .skip)) (.seq (JR [Jl 16 2,Jc 17 1,Jv 18 71 16 17,Jt 4 18,Ji 5 0] [4,5]) .ret)))
def pf27 : PFunc := ⟨2, [.ro, .ro], g27.un, [.tmp 4, .tmp 5], b27⟩
theorem pe27 : prepF Go.Proofs.Tryz.prog a27 Go.Proofs.Tryz.f27 = some pf27 := by kernel_rfl
def b28 : IC := .seq (JR [Ji 2 0] [0]) (.seq (JR [Jc 6 0,Jn 7 6,Jt 3 7] [0,3]) (.seq (.seq (JR [Ji 4 0] [0,3,4]) (.block 0 (.loop (.seq (.seq (JR [Jc 8 4,Jc 9 0,Jn 10 9,Jb 11 .lss 8 10,Jc 12 11,Jcw 13 12 true 3,Jw 14 12 true (.bin none .lss (.tmp 13) (.con (.int .i64 1048576))),Jp 15 12 14] [0,3,4,15]) (.cond (.tmp 15) .skip (.exit 0))) (.seq (.block 1 (.seq (JR [Jc 18 3,Jc 19 0,Jc 20 4,Jx 21 1 19 20,Jl 22 21,Jn 23 22,Jb 24 .add 18 23,Jt 3 24] [0,3,4]) (.seq (JR [Ji 5 0] [0,3,4,5]) (.block 2 (.loop (.seq (.seq (JR [Jc 25 5,Jc 26 0,Jc 27 4,Jx 28 1 26 27,Jl 29 28,Jn 30 29,Jb 31 .lss 25 30,Jc 32 31,Jcw 33 32 true 3,Jw 34 32 true (.bin none .lss (.tmp 33) (.con (.int .i64 1048576))),Jp 35 32 34] [0,3,4,5,35]) (.cond (.tmp 35) .skip (.exit 2))) (.seq (.block 3 (JW [(Jc 38 3,false,[3]),(Jc 39 0,false,[0]),(Jc 40 4,false,[4]),(Jx 41 1 39 40,false,[39,40]),(Jl 42 41,false,[41]),(Jc 43 5,false,[5]),(Jx 44 2 42 43,false,[42,43]),(Jf 45 0 44,false,[44]),(Jl 46 45,false,[45]),(J 47 (.len true (.tmp 46)),false,[46]),(Jc 48 0,false,[0]),(Jc 49 4,false,[4]),(Jx 50 1 48 49,false,[48,49]),(Jl 51 50,false,[50]),(Jc 52 5,false,[5]),(Jx 53 2 51 52,false,[51,52]),(Jf 54 1 53,false,[53]),(Jl 55 54,false,[54]),(J 56 (.len true (.tmp 55)),false,[55]),(Jb 57 .add 47 56,false,[47,56]),(Jk 58 .quo 57 8,false,[57]),(Jb 59 .add 38 58,false,[38,58]),(Jt 3 59,true,[3,59])] [0,3,4,5])) (JR [Jc 36 5,Jk 37 .add 36 1,Jt 5 37] [0,3,4,5])))))))) (JR [Jc 16 4,Jk 17 .add 16 1,Jt 4 17] [0,3,4])))))) (.seq (JR [Jc 60 3,Jt 2 60] [2]) .ret)))
def pf28 : PFunc := ⟨1, [.ro], g28.un, [.tmp 2], b28⟩
theorem pe28 : prepF Go.Proofs.Tryz.prog a28 Go.Proofs.Tryz.f28 = some pf28 := by kernel_rfl
def b29 : IC := .seq (JR [Jy 1 0,Jo 2 false] [1]) (.seq (JW [(Jf 5 0 1,false,[1]),(Jl 6 5,false,[1,5]),(Jr 7 72 6,false,[1,6]),(Jk 8 .mul 7 8,false,[7]),(Jf 9 1 1,false,[1]),(Jl 10 9,false,[1,9]),(Jr 11 73 10,false,[1,10]),(Jb 12 .add 8 11,false,[8,11]),(Jf 13 2 1,false,[1]),(Jl 14 13,false,[1,13]),(Jn 15 14,false,[1,14]),(Jb 16 .add 12 15,false,[12,15]),(Jf 17 3 1,false,[1]),(Jl 18 17,false,[1,17]),(Jn 19 18,false,[1,18]),(Jb 20 .add 16 19,false,[16,19]),(Jt 3 20,true,[3,20])] [1,3]) (.seq (.seq (JR [Ji 4 0] [1,3,4]) (.block 0 (.loop (.seq (.seq (JR [Jc 21 4,Jf 22 3 1,Jl 23 22,Jn 24 23,Jb 25 .lss 21 24,Jc 26 25,Jcw 27 26 true 3,Jw 28 26 true (.bin none .lss (.tmp 27) (.con (.int .i64 1048576))),Jp 29 26 28] [1,3,4,29]) (.cond (.tmp 29) .skip (.exit 0))) (.seq (.block 1 (JR [Jc 32 3,Jf 33 3 1,Jl 34 33,Jc 35 4,Jx 36 1 34 35,Jl 37 36,Jr 38 73 37,Jb 39 .add 32 38,Jt 3 39] [1,3,4])) (JR [Jc 30 4,Jk 31 .add 30 1,Jt 4 31] [1,3,4])))))) (.seq (JR [Jc 40 3,Jk 41 .gtr 40 6000,Jt 2 41] [2]) .ret)))
def pf29 : PFunc := ⟨1, [.ro], g29.un, [.tmp 2], b29⟩
theorem pe29 : prepF Go.Proofs.Tryz.prog a29 Go.Proofs.Tryz.f29 = some pf29 := by kernel_rfl
def b52 : IC := .seq (JR [Jo 4 false] [0,1]) (.seq (.seq (JR [Jc 6 0,Jn 7 6,Jc 8 1,Jn 9 8,Jb 10 .neq 7 9] [0,1,10]) (.cond (.tmp 10) (.seq (JR [Jo 4 false] [4]) .ret) .skip)) (.seq (.seq (JR [Ji 5 0] [0,1,5]) (.block 0 (.loop (.seq (.seq (JR [Jc 11 5,Jc 12 0,Jn 13 12,Jb 14 .lss 11 13] [0,1,5,14]) (.cond (.tmp 14) .skip (.exit 0))) (.seq (.block 1 (.seq (JW [(Jc 17 0,false,[0]),(Jc 18 5,false,[5]),(Jx 19 2 17 18,false,[17,18]),(Jg 20 2 19,false,[19]),(Jc 21 1,false,[1]),(Jc 22 5,false,[5]),(Jx 23 2 21 22,false,[21,22]),(Jg 24 2 23,false,[23]),(J 25 (.bin (some (true,[.s,.s])) .neq (.tmp 20) (.tmp 24)),false,[20,24])] [0,1,5,25]) (.cond (.tmp 25) (.seq (JR [Jo 4 false] [4]) .ret) .skip))) (JR [Jc 15 5,Jk 16 .add 15 1,Jt 5 16] [0,1,5])))))) (.seq (JR [Jo 4 true] [4]) .ret)))
def pf52 : PFunc := ⟨2, [.ro, .ro], g52.un, [.tmp 4], b52⟩
theorem pe52 : prepF Go.Proofs.Tryz.prog a52 Go.Proofs.Tryz.f52 = some pf52 := by kernel_rfl
def b7 : IC := .seq (JR [J 2 (.alloc [.own 9 [],.own 72 []])] [0,2]) (.seq (JR [J 3 (.alloc [.own 9 [],.own 72 []])] [0,2,3]) (.seq (.seq (JR [Ji 4 0] [0,2,3,4]) (.block 0 (.loop (.seq (.seq (JR [Jc 5 4,Jc 6 0,Jb 7 .lss 5 6] [0,2,3,4,7]) (.cond (.tmp 7) .skip (.exit 0))) (.seq (.block 1 (JW [(Jf 10 0 3,false,[3]),(Jl 11 10,false,[3,10]),(J 12 (.callr 30 [.con (.int .i64 32)]),false,[]),(J 13 (.bslice 9 [.d (.sc (.string (bs [])))] 1 [(0,.tmp 12)]),true,[12,13]),(J 14 (.app false 9 1 16 (.tmp 11) (.tmp 13)),true,[3,10,11,13,14,15,16]),(Jf 15 0 3,false,[3]),(Js 1 15 14,true,[3,10,11,14,15,16])] [0,2,3,4])) (JR [Jc 8 4,Jk 9 .add 8 1,Jt 4 9] [0,2,3,4])))))) (.seq (JR [Jg 16 2 3,Js 2 2 16] [2]) .ret)))
def pf7 : PFunc := ⟨1, [.ro], g7.un, [.cell 2 true 2], b7⟩
theorem pe7 : prepF Go.Proofs.Tryz.prog a7 Go.Proofs.Tryz.f7 = some pf7 := by kernel_rfl
def b12 : IC := .seq (JR [Jy 2 0,Jz 4 79,Jz 5 70,J 6 (.alloc [.d (.sc (.int .i64 0)),.d (.sc (.int .i64 0)),.d (.sc (.int .i64 0)),.d (.sc (.int .i64 0))]),Ji 7 0] [1,2,6]) (.seq (.seq (JR [Jg 12 2 2,Jr 13 39 12,Ju 14 13,Jc 15 14,Jfw 16 15 false 0 2,Jlw 17 15 false 16,Jw 18 15 false (.len false (.tmp 17)),Jw 19 15 false (.bin none .neq (.tmp 18) (.con (.int .i64 512))),Jq 20 15 19,Jc 21 20,Jfw 22 21 false 1 2,Jlw 23 21 false 22,Jw 24 21 false (.len false (.tmp 23)),Jw 25 21 false (.bin none .gtr (.tmp 24) (.con (.int .i64 0))),Jq 26 21 25,Jc 27 26,Jcw 28 27 false 1,Jw 29 27 false (.bin none .lss (.tmp 28) (.con (.int .i64 1))),Jq 30 27 29,Jc 31 30,Jcw 32 31 false 1,Jw 33 31 false (.bin none .gtr (.tmp 32) (.con (.int .i64 3))),Jq 34 31 33] [1,2,6,34]) (.cond (.tmp 34) (.seq (JW [(Jg 35 4 6,false,[6]),(Jz 4 79,true,[4,91]),(Jz 5 70,true,[5,86,92]),(Js 4 6 35,true,[6,35,47,57,79,89,90,93]),(Ji 7 1,true,[7])] [4,5,6,7]) .ret) .skip)) (.seq (JR [Jf 37 0 2,Jl 38 37,J 39 (.indexA 1 (.tmp 38) (.con (.int .i64 0))),Jl 40 39,Jr 41 40 40,Jt 36 41,Je 42 0 36,Je 43 1 36,Js 4 6 42,Jt 8 43] [1,2,6,8]) (.seq (.seq (JR [Jc 44 8,Ju 45 44] [1,2,6,45]) (.cond (.tmp 45) (.seq (JR [J 46 (.build true [.d (.sc (.int .i64 0)),.d (.sc (.int .i64 0)),.d (.sc (.int .i64 0)),.d (.sc (.int .i64 0))] []),Jz 4 79,Jz 5 70,Js 4 6 46,Ji 7 10] [4,5,6,7]) .ret) .skip)) (.seq (JR [Jf 47 1 6,Jl 48 47,Jr 49 41 48,Jt 9 49] [1,2,6,9]) (.seq (JW [(Jf 51 0 2,false,[2]),(Jl 52 51,false,[2,51]),(Jc 53 9,false,[9]),(Jc 54 9,false,[9]),(Jk 55 .add 54 127,false,[54]),(J 56 (.cut 1 (.tmp 52) (some (.tmp 53)) (some (.tmp 55))),false,[2,52,53,55]),(Jf 57 0 6,false,[6]),(Jl 58 57,false,[6,57]),(J 59 (.callr 42 [.tmp 56,.tmp 58,.con (.int .i64 0)]),false,[56,58]),(Jt 50 59,true,[50,59]),(Je 60 0 50,true,[50,60]),(Je 61 1 50,true,[50,61]),(J 10 (.alloc [.d (.sc (.int .i64 0)),.own 78 []]),false,[]),(Js 2 10 60,true,[10,60,63]),(Jt 11 61,true,[11,61])] [1,2,6,10,11]) (.seq (JR [Jg 63 2 10,Jc 64 1,Jv 65 43 63 64,Jt 62 65,Je 66 0 62,Je 67 1 62,Jt 4 66,Jt 8 67] [2,4,6,8,11]) (.seq (.seq (JR [Jc 68 11,Jk 69 .eql 68 0,Jc 70 69,Jcw 71 70 false 8,Jw 72 70 false (.un .not (.tmp 71)),Jq 73 70 72] [2,4,6,73]) (.cond (.tmp 73) (.seq (JR [J 74 (.build true [.d (.sc (.int .i64 0)),.d (.sc (.int .i64 0)),.d (.sc (.int .i64 0)),.d (.sc (.int .i64 0))] []),Jz 4 79,Jz 5 70,Js 4 6 74,Ji 7 10] [4,5,6,7]) .ret) .skip)) (.seq (JW [(Jf 76 0 2,false,[2]),(Jl 77 76,false,[2,76]),(J 78 (.cut 1 (.tmp 77) (some (.con (.int .i64 255))) none),false,[2,77]),(Jf 79 0 6,false,[6]),(Jl 80 79,false,[6,79]),(J 81 (.callr 44 [.tmp 78,.tmp 80,.con (.int .i64 1)]),false,[78,80]),(Jt 75 81,true,[75,81]),(Je 82 0 75,true,[75,82]),(Je 83 1 75,true,[75,83]),(Jt 5 82,true,[5,82,86,92]),(Jt 11 83,true,[11,83])] [4,5,6,11]) (.seq (JR [Jc 84 11,J 85 (.bin none .add (.con (.int .i64 255)) (.tmp 84)),Jc 86 5,Jn 87 86,J 88 (.bin none .add (.con (.int .i64 1)) (.tmp 87)),Jf 89 2 6,Js 1 89 85,Jf 90 3 6,Js 1 90 88] [4,5,6]) (.seq (JW [(Jc 91 4,false,[4]),(Jc 92 5,false,[5]),(Jg 93 4 6,false,[6]),(Jt 4 91,true,[4,91]),(Jt 5 92,true,[5,86,92]),(Js 4 6 93,true,[6,35,47,57,79,89,90,93]),(Ji 7 0,true,[7])] [4,5,6,7]) .ret))))))))))
def pf12 : PFunc := ⟨2, [.ro, .ro], g12.un, [.tmp 4, .tmp 5, .cell 6 true 4, .tmp 7], b12⟩
theorem pe12 : prepF Go.Proofs.Tryz.prog a12 Go.Proofs.Tryz.f12 = some pf12 := by kernel_rfl
def b22 : IC := .seq (JR [Jy 3 0,J 6 (.alloc [.own 9 [],.own 72 []]),Ji 7 0] [1,2,3,6]) (.seq (.seq (JR [Jg 11 2 3,Jr 12 39 11,Ju 13 12,Jc 14 13,Jcw 15 14 false 1,Jw 16 14 false (.bin none .lss (.tmp 15) (.con (.int .i64 (-1)))),Jq 17 14 16] [1,2,3,6,17]) (.cond (.tmp 17) (.seq (JR [J 18 (.build true [.own 9 [],.own 72 []] []),Js 2 6 18,Ji 7 1] [6,7,10]) .ret) .skip)) (.seq (JR [Jg 19 2 3,Jr 20 59 19,Js 2 3 20] [1,2,3,6]) (.seq (.seq (JR [Jc 21 2,Jn 22 21,J 23 (.mov .cp (.con (.int .i64 0)))] [1,3,6,21,22,23]) (.block 0 (.loop (.seq (JR [Jb 24 .lss 23 22] [1,3,6,21,22,23,24]) (.seq (.cond (.tmp 24) .skip (.exit 0)) (.seq (.block 1 (.seq (JR [Jc 25 23,Jx 26 3 21 23,Jg 27 3 26,J 9 (.alloc [.d (.sc (.bool false)),.d (.sc (.int .i64 0)),.d (.sc (.string (bs [])))]),Jt 8 25,Js 3 9 27] [1,3,6,8,9,21,22,23]) (.seq (.seq (JR [Jc 28 8,Jc 29 1,Jb 30 .eql 28 29] [1,3,6,9,21,22,23,30]) (.cond (.tmp 30) (.exit 0) .skip)) (.seq (JR [Jg 31 3 9,J 32 (.call 60 [.tmp 3,.tmp 31]),Jt 10 32] [1,3,6,10,21,22,23]) (.seq (JR [Jc 33 10,Jk 34 .neq 33 0] [1,3,6,10,21,22,23,34]) (.cond (.tmp 34) (.seq (JR [J 35 (.build true [.own 9 [],.own 72 []] []),Jc 36 10,Js 2 6 35,Jt 7 36] [6,7,10]) .ret) .skip)))))) (JR [Jk 37 .add 23 1,Jc 23 37] [1,3,6,21,22,23]))))))) (.seq (JR [Jg 38 2 3,Js 2 6 38,Ji 7 0] [6,7,10]) .ret))))
def pf22 : PFunc := ⟨3, [.ro, .ro, .ro], g22.un, [.cell 6 true 2, .tmp 7], b22⟩
theorem pe22 : prepF Go.Proofs.Tryz.prog a22 Go.Proofs.Tryz.f22 = some pf22 := by kernel_rfl
def b56 : IC := .seq (JR [Jz 2 74,J 3 (.alloc [.d (.sc (.int .i64 0)),.d (.sc (.int .i64 0)),.d (.sc (.int .i64 0)),.d (.sc (.int .i64 0))]),Ji 4 0] [0,3]) (.seq (JR [Jc 5 0,J 6 (.callr 58 [.con (.int .i64 1),.con (.int .i64 0),.tmp 5]),Je 7 0 6,Je 8 1 6,Je 9 2 6,Jt 2 7,Js 4 3 8,Jt 4 9] [2,3,4]) .ret)
def pf56 : PFunc := ⟨1, [.ro], g56.un, [.tmp 2, .cell 3 true 4, .tmp 4], b56⟩
theorem pe56 : prepF Go.Proofs.Tryz.prog a56 Go.Proofs.Tryz.f56 = some pf56 := by kernel_rfl
def b31 : IC := .seq (JR [Jo 2 false] [0]) (.seq (.seq (JR [Ji 3 0] [0,3]) (.block 0 (.loop (.seq (.seq (JR [Jc 5 3,Jc 6 0,Jn 7 6,Jb 8 .lss 5 7,Jc 9 8,Jcw 10 9 true 3,Jw 11 9 true (.bin none .leq (.tmp 10) (.con (.int .i64 3))),Jp 12 9 11] [0,3,12]) (.cond (.tmp 12) .skip (.exit 0))) (.seq (.block 1 (.seq (JR [Ji 4 0] [0,3,4]) (.block 2 (.loop (.seq (.seq (JR [Jc 15 4,Jc 16 0,Jc 17 3,Jx 18 1 16 17,Jl 19 18,Jn 20 19,Jb 21 .lss 15 20] [0,3,4,21]) (.cond (.tmp 21) .skip (.exit 2))) (.seq (.block 3 (.seq (JW [(Jc 24 0,false,[0]),(Jc 25 3,false,[3]),(Jx 26 1 24 25,false,[24,25]),(Jl 27 26,false,[26]),(Jc 28 4,false,[4]),(Jx 29 2 27 28,false,[27,28]),(Jf 30 0 29,false,[29]),(Jl 31 30,false,[30]),(Jr 32 74 31,false,[31]),(Ju 33 32,false,[32]),(Jc 34 33,false,[33]),(Jcw 35 34 false 0,false,[0,34]),(Jcw 36 34 false 3,false,[3,34]),(Jw 37 34 false (.indexA 1 (.tmp 35) (.tmp 36)),false,[34,35,36]),(Jlw 38 34 false 37,false,[34,37]),(Jcw 39 34 false 4,false,[4,34]),(Jw 40 34 false (.indexA 2 (.tmp 38) (.tmp 39)),false,[34,38,39]),(Jfw 41 34 false 1 40,false,[34,40]),(Jlw 42 34 false 41,false,[34,41]),(Jw 43 34 false (.callr 75 [.tmp 42]),false,[34,42]),(Jw 44 34 false (.un .not (.tmp 43)),false,[34,43]),(Jq 45 34 44,false,[34,44]),(Jc 46 45,false,[45]),(Jcw 47 46 false 4,false,[4,46]),(Jw 48 46 false (.bin none .gtr (.tmp 47) (.con (.int .i64 0))),false,[46,47]),(Jcw 49 46 false 48,false,[46,48]),(Jcw 50 49 true 0,false,[0,49]),(Jcw 51 49 true 3,false,[3,49]),(Jw 52 49 true (.indexA 1 (.tmp 50) (.tmp 51)),false,[49,50,51]),(Jlw 53 49 true 52,false,[49,52]),(Jcw 54 49 true 4,false,[4,49]),(Jw 55 49 true (.bin none .sub (.tmp 54) (.con (.int .i64 1))),false,[49,54]),(Jw 56 49 true (.indexA 2 (.tmp 53) (.tmp 55)),false,[49,53,55]),(Jfw 57 49 true 0 56,false,[49,56]),(Jlw 58 49 true 57,false,[49,57]),(Jcw 59 49 true 0,false,[0,49]),(Jcw 60 49 true 3,false,[3,49]),(Jw 61 49 true (.indexA 1 (.tmp 59) (.tmp 60)),false,[49,59,60]),(Jlw 62 49 true 61,false,[49,61]),(Jcw 63 49 true 4,false,[4,49]),(Jw 64 49 true (.indexA 2 (.tmp 62) (.tmp 63)),false,[49,62,63]),(Jfw 65 49 true 0 64,false,[49,64]),(Jlw 66 49 true 65,false,[49,65]),(Jw 67 49 true (.bin none .geq (.tmp 58) (.tmp 66)),false,[49,58,66]),(Jw 68 46 false (.pick (.tmp 49) (.tmp 67) (.con (.bool false))),false,[46,49,67]),(Jq 69 46 68,false,[46,68])] [0,3,4,69]) (.cond (.tmp 69) (.seq (JR [Jo 2 false] [2]) .ret) .skip))) (JR [Jc 22 4,Jk 23 .add 22 1,Jt 4 23] [0,3,4]))))))) (JR [Jc 13 3,Jk 14 .add 13 1,Jt 3 14] [0,3])))))) (.seq (JR [Jc 70 0,Jn 71 70,Jk 72 .leq 71 3,Jt 2 72] [2]) .ret))
def pf31 : PFunc := ⟨1, [.ro], g31.un, [.tmp 2], b31⟩
theorem pe31 : prepF Go.Proofs.Tryz.prog a31 Go.Proofs.Tryz.f31 = some pf31 := by kernel_rfl
def b62 : IC := .seq (JR [Jy 1 0,Jo 2 false] [1]) (.seq (.seq (JR [Jf 4 0 1,Jl 5 4,J 6 (.callr 14 [.tmp 5,.con (.int .i64 1),.con (.int .i64 1073741824)]),Ju 7 6,Jc 8 7,Jfw 9 8 false 1 1,Jlw 10 8 false 9,Jw 11 8 false (.len false (.tmp 10)),Jw 12 8 false (.bin none .gtr (.tmp 11) (.con (.int .i64 64))),Jq 13 8 12] [1,13]) (.cond (.tmp 13) (.seq (JR [Jo 2 false] [2]) .ret) .skip)) (.seq (.seq (JR [Ji 3 0] [1,3]) (.block 0 (.loop (.seq (.seq (JR [Jc 14 3,Jf 15 1 1,Jl 16 15,Jn 17 16,Jb 18 .lss 14 17] [1,3,18]) (.cond (.tmp 18) .skip (.exit 0))) (.seq (.block 1 (.seq (JR [Jf 21 1 1,Jl 22 21,Jc 23 3,Jx 24 4 22 23,Jg 25 4 24,Jr 26 91 25,Ju 27 26] [1,3,27]) (.cond (.tmp 27) (.seq (JR [Jo 2 false] [2]) .ret) .skip))) (JR [Jc 19 3,Jk 20 .add 19 1,Jt 3 20] [1,3])))))) (.seq (JR [Jo 2 true] [2]) .ret)))
def pf62 : PFunc := ⟨1, [.ro], g62.un, [.tmp 2], b62⟩
theorem pe62 : prepF Go.Proofs.Tryz.prog a62 Go.Proofs.Tryz.f62 = some pf62 := by kernel_rfl
def b66 : IC := .seq (JR [Jy 2 0,Jo 3 false] [1,2]) (.seq (JR [Jg 4 2 2,Jr 5 63 4,Ju 6 5,Jc 7 6,Jfw 8 7 false 1 2,Jlw 9 7 false 8,Jw 10 7 false (.mkfn 68 [.tmp 1]),Jw 11 7 false (.callr 67 [.tmp 9,.tmp 10]),Jq 12 7 11,Jt 3 12] [3]) .ret)
def pf66 : PFunc := ⟨2, [.ro, .ro], g66.un, [.tmp 3], b66⟩
theorem pe66 : prepF Go.Proofs.Tryz.prog a66 Go.Proofs.Tryz.f66 = some pf66 := by kernel_rfl
def b69 : IC := .seq (JR [Jo 2 false] [0]) (.seq (JR [Jc 3 0,Jn 4 3,Jk 5 .leq 4 3,Jc 6 5,Jcw 7 6 true 0,Jw 8 6 true (.callr 99 [.tmp 7,.fn 100]),Jw 9 6 true (.un .not (.tmp 8)),Jp 10 6 9,Jt 2 10] [2]) .ret)
def pf69 : PFunc := ⟨1, [.ro], g69.un, [.tmp 2], b69⟩
theorem pe69 : prepF Go.Proofs.Tryz.prog a69 Go.Proofs.Tryz.f69 = some pf69 := by kernel_rfl
def b70 : IC := .seq (JR [Jo 4 false] [0,1]) (.seq (JR [Jc 5 0,Jc 6 1,Jv 7 102 5 6,Jk 8 .geq 7 0,Jt 4 8] [4]) .ret)
def pf70 : PFunc := ⟨2, [.ro, .ro], g70.un, [.tmp 4], b70⟩
theorem pe70 : prepF Go.Proofs.Tryz.prog a70 Go.Proofs.Tryz.f70 = some pf70 := by kernel_rfl
def b72 : IC := .seq (JR [Ji 2 0] [0]) (.seq (JR [Jc 5 0,Jn 6 5,Jt 3 6] [0,3]) (.seq (.seq (JR [Ji 4 0] [0,3,4]) (.block 0 (.loop (.seq (.seq (JR [Jc 7 4,Jc 8 0,Jn 9 8,Jb 10 .lss 7 9,Jc 11 10,Jcw 12 11 true 3,Jw 13 11 true (.bin none .lss (.tmp 12) (.con (.int .i64 1048576))),Jp 14 11 13] [0,3,4,14]) (.cond (.tmp 14) .skip (.exit 0))) (.seq (.block 1 (JR [Jc 17 3,Jc 18 0,Jc 19 4,Jx 20 2 18 19,Jf 21 1 20,Jl 22 21,Jr 23 106 22,Jb 24 .add 17 23,Jt 3 24] [0,3,4])) (JR [Jc 15 4,Jk 16 .add 15 1,Jt 4 16] [0,3,4])))))) (.seq (JR [Jc 25 3,Jt 2 25] [2]) .ret)))
def pf72 : PFunc := ⟨1, [.ro], g72.un, [.tmp 2], b72⟩
theorem pe72 : prepF Go.Proofs.Tryz.prog a72 Go.Proofs.Tryz.f72 = some pf72 := by kernel_rfl
def b73 : IC := .seq (JR [Ji 2 0] [0]) (.seq (JR [Jc 5 0,Jn 6 5,Jt 3 6] [0,3]) (.seq (.seq (JR [Ji 4 0] [0,3,4]) (.block 0 (.loop (.seq (.seq (JR [Jc 7 4,Jc 8 0,Jn 9 8,Jb 10 .lss 7 9,Jc 11 10,Jcw 12 11 true 3,Jw 13 11 true (.bin none .lss (.tmp 12) (.con (.int .i64 1048576))),Jp 14 11 13] [0,3,4,14]) (.cond (.tmp 14) .skip (.exit 0))) (.seq (.block 1 (JR [Jc 17 3,Jc 18 0,Jc 19 4,Jx 20 1 18 19,Jl 21 20,J 22 (.len true (.tmp 21)),Jb 23 .add 17 22,Jt 3 23] [0,3,4])) (JR [Jc 15 4,Jk 16 .add 15 1,Jt 4 16] [0,3,4])))))) (.seq (JR [Jc 24 3,Jt 2 24] [2]) .ret)))
def pf73 : PFunc := ⟨1, [.ro], g73.un, [.tmp 2], b73⟩
theorem pe73 : prepF Go.Proofs.Tryz.prog a73 Go.Proofs.Tryz.f73 = some pf73 := by kernel_rfl
def b30 : IC := .seq (JR [J 2 (.mov .tk (.con (.str (bs []))))] [0]) (.seq (JR [Jc 3 0,J 4 (.mkslice 5 1 [.d (.sc (.int .u8 0))] (.tmp 3) (.tmp 3)),J 5 (.b2s (.tmp 4)),Jt 2 5] [2]) .ret)
def pf30 : PFunc := ⟨1, [.ro], g30.un, [.tmp 2], b30⟩
theorem pe30 : prepF Go.Proofs.Tryz.prog a30 Go.Proofs.Tryz.f30 = some pf30 := by kernel_rfl
def b39 : IC := .seq (JR [Jy 1 0,Jo 2 false] [1]) (.seq (.seq (JR [Jf 3 0 1,Jl 4 3,Jn 5 4,Jk 6 .lss 5 1,Jc 7 6,Jfw 8 7 false 0 1,Jlw 9 7 false 8,Jw 10 7 false (.len false (.tmp 9)),Jw 11 7 false (.bin none .gtr (.tmp 10) (.con (.int .i64 512))),Jq 12 7 11,Jc 13 12,Jfw 14 13 false 1 1,Jlw 15 13 false 14,Jw 16 13 false (.len false (.tmp 15)),Jw 17 13 false (.bin none .gtr (.tmp 16) (.con (.int .i64 2048))),Jq 18 13 17] [1,18]) (.cond (.tmp 18) (.seq (JR [Jo 2 false] [2]) .ret) .skip)) (.seq (JR [Jf 19 0 1,Jl 20 19,J 21 (.callr 78 [.tmp 20,.fn 79]),Ju 22 21,Jc 23 22,Jfw 24 23 true 1 1,Jlw 25 23 true 24,Jw 26 23 true (.mkfn 82 [.tmp 1]),Jw 27 23 true (.callr 81 [.tmp 25,.tmp 26]),Jw 28 23 true (.un .not (.tmp 27)),Jp 29 23 28,Jt 2 29] [2]) .ret))
def pf39 : PFunc := ⟨1, [.ro], g39.un, [.tmp 2], b39⟩
theorem pe39 : prepF Go.Proofs.Tryz.prog a39 Go.Proofs.Tryz.f39 = some pf39 := by kernel_rfl
def b40 : IC := .seq (JR [J 2 (.alloc [.d (.sc (.int .i64 0)),.d (.sc (.int .i64 0)),.d (.sc (.int .i64 0)),.d (.sc (.int .i64 0))]),Jo 3 false] [0,2]) (.seq (.seq (JR [J 7 (.mov .cp (.con (.int .i64 0)))] [0,2,7]) (.block 0 (.loop (.seq (JR [Jk 8 .lss 7 4] [0,2,7,8]) (.seq (.cond (.tmp 8) .skip (.exit 0)) (.seq (.block 1 (.seq (JR [Jc 9 7,Jt 4 9] [0,2,4,7]) (JW [(Jf 10 0 2,false,[2]),(Jl 11 10,false,[2,10]),(J 12 (.bin none .shl (.tmp 11) (.con (.int .u64 8))),false,[11]),(Jc 13 0,false,[0]),(Jc 14 4,false,[4]),(J 15 (.bin none .add (.con (.int .i64 4)) (.tmp 14)),false,[14]),(J 16 (.indexS (.tmp 13) (.tmp 15)),false,[13,15]),(J 17 (.conv .i64 (.tmp 16)),false,[16]),(Jb 18 .or 12 17,false,[12,17]),(Jf 19 0 2,false,[2]),(Js 1 19 18,true,[2,10,18,19,21,25,29,33,41,42,52,56])] [0,2,7]))) (JR [Jk 20 .add 7 1,Jc 7 20] [0,2,7]))))))) (.seq (.seq (JR [Jf 21 0 2,Jl 22 21,Jk 23 .lss 22 1,Jc 24 23,Jfw 25 24 false 0 2,Jlw 26 24 false 25,Jw 27 24 false (.bin none .geq (.tmp 26) (.con (.int .i64 1073741824))),Jq 28 24 27] [0,2,28]) (.cond (.tmp 28) (.seq (JR [Jg 29 4 2,Js 4 2 29,Jo 3 false] [2,3]) .ret) .skip)) (.seq (JR [Jc 31 0,J 32 (.bslice 9 [.d (.sc (.string (bs [])))] 1 [(0,.tmp 31)]),Jf 33 0 2,Jl 34 33,J 35 (.callr 42 [.tmp 32,.con (.int .i64 0),.tmp 34]),Jt 30 35,Je 36 0 30,Je 37 1 30,J 5 (.alloc [.d (.sc (.int .i64 0)),.own 78 []]),Js 2 5 36,Jt 6 37] [2,5,6]) (.seq (JR [Jf 38 0 5,Jl 39 38,Jk 40 .sub 39 1,Jf 41 1 2,Js 1 41 40] [2,5,6]) (.seq (JR [Jg 42 4 2,Jc 43 6,Jk 44 .eql 43 1,Jc 45 44,Jfw 46 45 true 1 5,Jlw 47 45 true 46,Jw 48 45 true (.len false (.tmp 47)),Jw 49 45 true (.bin none .eql (.tmp 48) (.con (.int .i64 0))),Jp 50 45 49,Jc 51 50,Jfw 52 51 true 1 2,Jlw 53 51 true 52,Jw 54 51 true (.bin none .eql (.tmp 53) (.con (.int .i64 0))),Jcw 55 51 true 54,Jfw 56 55 false 1 2,Jlw 57 55 false 56,Jw 58 55 false (.bin none .eql (.tmp 57) (.con (.int .i64 1))),Jw 59 51 true (.pick (.tmp 55) (.con (.bool true)) (.tmp 58)),Jp 60 51 59,Js 4 2 42,Jt 3 60] [2,3]) .ret)))))
def pf40 : PFunc := ⟨1, [.ro], g40.un, [.cell 2 true 4, .tmp 3], b40⟩
theorem pe40 : prepF Go.Proofs.Tryz.prog a40 Go.Proofs.Tryz.f40 = some pf40 := by kernel_rfl
def b41 : IC := .seq (JR [Ji 2 0] [0]) (.seq (.seq (JR [Jc 3 0,Jk 4 .eql 3 0] [4]) (.cond (.tmp 4) (.seq (JR [Ji 2 1] [2]) .ret) .skip)) (.seq (JR [Ji 2 128] [2]) .ret))
def pf41 : PFunc := ⟨1, [.ro], g41.un, [.tmp 2], b41⟩
theorem pe41 : prepF Go.Proofs.Tryz.prog a41 Go.Proofs.Tryz.f41 = some pf41 := by kernel_rfl
def b42 : IC := .seq (JR [J 6 (.alloc [.d (.sc (.int .i64 0)),.own 78 []]),Ji 7 0] [0,1,2,6]) (.seq (JR [J 8 (.mov .tk (.con (.str (bs []))))] [0,1,2,6,8]) (.seq (.seq (JR [Jc 14 0,Jn 15 14,J 16 (.mov .cp (.con (.int .i64 0)))] [0,1,2,6,8,14,15,16]) (.block 0 (.loop (.seq (JR [Jb 17 .lss 16 15] [0,1,2,6,8,14,15,16,17]) (.seq (.cond (.tmp 17) .skip (.exit 0)) (.seq (.block 1 (.seq (JR [Jc 18 16,Jx 19 1 14 16,Jl 20 19,Jt 9 18,Jt 10 20] [0,1,2,6,8,9,10,14,15,16]) (.seq (.seq (JR [Jc 21 10,J 22 (.len true (.tmp 21)),Jk 23 .neq 22 32] [0,1,2,6,8,9,10,14,15,16,23]) (.cond (.tmp 23) (.exit 0) .skip)) (.seq (JR [Jc 24 10,J 25 (.indexS (.tmp 24) (.con (.int .i64 11))),J 26 (.conv .i64 (.tmp 25)),Jt 11 26] [0,1,2,6,8,9,10,11,14,15,16]) (.seq (.seq (JR [Jc 27 11,Jk 28 .gtr 27 20] [0,1,2,6,8,9,10,11,14,15,16,28]) (.cond (.tmp 28) (.exit 0) .skip)) (.seq (JR [Jc 29 8,Jc 30 10,Jc 31 11,J 32 (.bin none .add (.con (.int .i64 12)) (.tmp 31)),J 33 (.slice true 1 (.tmp 30) (some (.con (.int .i64 12))) (some (.tmp 32))),Jb 34 .add 29 33,Jt 8 34] [0,1,2,6,8,9,10,14,15,16]) (.seq (.seq (JR [Jc 35 10,J 36 (.indexS (.tmp 35) (.con (.int .i64 10))),J 37 (.bin none .eql (.tmp 36) (.con (.int .u8 0)))] [0,1,2,6,8,9,14,15,16,37]) (.cond (.tmp 37) (.exit 1) .skip)) (.seq (JR [Jc 39 8,Jr 40 84 39,Jt 38 40,Je 41 0 38,Je 42 1 38,J 12 (.alloc [.d (.sc (.int .i64 0)),.own 78 []]),Js 2 12 41,Jt 13 42] [0,1,2,6,9,12,13]) (.seq (.seq (JW [(Jc 43 13,false,[13]),(Jk 44 .eql 43 0,false,[13,43]),(Jc 45 44,false,[44]),(Jw 46 45 true (.load .cp true 2 (.tmp 12)),false,[12,45]),(Jcw 47 45 true 1,false,[1,45]),(Jcw 48 45 true 2,false,[2,45]),(Jw 49 45 true (.callr 64 [.tmp 46,.tmp 47,.tmp 48]),false,[12,45,46,47,48]),(Jcw 50 45 true 0,false,[0,45]),(Jcw 51 45 true 9,false,[9,45]),(Jw 52 45 true (.bin none .add (.tmp 51) (.con (.int .i64 1))),false,[45,51]),(Jw 53 45 true (.cut 1 (.tmp 50) none (some (.tmp 52))),false,[45,50,52]),(Jw 54 45 true (.callr 85 [.tmp 49,.tmp 53]),false,[45,49,53]),(Jp 55 45 54,false,[45,54])] [6,9,12,55]) (.cond (.tmp 55) (.seq (JR [Jg 56 2 12,Jc 57 9,Jk 58 .add 57 1,Js 2 6 56,Jt 7 58] [6,7]) .ret) .skip)) (.exit 0)))))))))) (JR [Jk 59 .add 16 1,Jc 16 59] [0,1,2,6,8,14,15,16]))))))) (.seq (JR [J 60 (.build true [.d (.sc (.int .i64 0)),.own 78 []] []),Js 2 6 60,Ji 7 0] [6,7]) .ret)))
def pf42 : PFunc := ⟨3, [.ro, .ro, .ro], g42.un, [.cell 6 true 2, .tmp 7], b42⟩
theorem pe42 : prepF Go.Proofs.Tryz.prog a42 Go.Proofs.Tryz.f42 = some pf42 := by kernel_rfl
def b43 : IC := .seq (JR [Jy 2 0,Jz 4 79,Jo 5 false] [1,2]) (.seq (JR [Jc 10 1,J 11 (.mkslice 79 24 [.own 81 []] (.tmp 10) (.tmp 10)),Jt 6 11] [1,2,6]) (.seq (JR [Ji 7 0] [1,2,6,7]) (.seq (.seq (JR [Jf 12 1 2,Jl 13 12,Jn 14 13,J 15 (.mov .cp (.con (.int .i64 0)))] [1,2,6,7,13,14,15]) (.block 0 (.loop (.seq (JR [Jb 16 .lss 15 14] [1,2,6,7,13,14,15,16]) (.seq (.cond (.tmp 16) .skip (.exit 0)) (.seq (.block 1 (.seq (JR [Jx 17 4 13 15,Jg 18 4 17,J 9 (.alloc [.d (.sc (.int .i64 0)),.d (.sc (.string (bs []))),.d (.sc (.string (bs []))),.d (.sc (.bool false))]),Js 4 9 18] [1,2,6,7,9,13,14,15]) (.seq (.seq (JR [Jf 19 0 9,Jl 20 19,Jc 21 1,Jb 22 .geq 20 21,Jc 23 22,Jfw 24 23 false 0 9,Jlw 25 23 false 24,Jcw 26 23 false 7,Jw 27 23 false (.bin none .lss (.tmp 25) (.tmp 26)),Jq 28 23 27,Jc 29 28,Jfw 30 29 false 3 9,Jlw 31 29 false 30,Jq 32 29 31] [1,2,6,9,13,14,15,32]) (.cond (.tmp 32) (.seq (JR [Jz 4 79,Jo 5 false] [4,5,6]) .ret) .skip)) (.seq (JR [Jf 33 0 9,Jl 34 33,Jt 7 34] [1,2,6,7,9,13,14,15]) (JW [(J 35 (.mov .st (.tmp 6)),false,[6]),(Jf 36 0 9,false,[9]),(Jl 37 36,false,[9,36]),(Jc 38 6,false,[6]),(Jf 39 0 9,false,[9]),(Jl 40 39,false,[9,39]),(Jx 41 1 38 40,false,[6,38,40]),(Jl 42 41,false,[6,41]),(Jf 43 1 9,false,[9]),(Jl 44 43,false,[9,43]),(Jf 45 2 9,false,[9]),(Jl 46 45,false,[9,45]),(J 47 (.build true [.d (.sc (.string (bs []))),.d (.sc (.string (bs [])))] [(0,1,.tmp 44),(1,1,.tmp 46)]),true,[44,46,47]),(J 48 (.bslice 81 [.d (.sc (.string (bs []))),.d (.sc (.string (bs [])))] 1 [(0,.tmp 47)]),true,[47,48]),(J 49 (.app false 81 2 32 (.tmp 42) (.tmp 48)),true,[4,6,35,38,41,42,48,49,50,52,57]),(Jx 50 1 35 37,false,[6,35,37]),(Js 1 50 49,true,[4,6,35,38,41,42,49,50,52,57])] [1,2,6,7,13,14,15]))))) (JR [Jk 51 .add 15 1,Jc 15 51] [1,2,6,7,13,14,15]))))))) (.seq (JR [Jc 52 6,Jf 53 0 2,Jl 54 53,Jk 55 .eql 54 1,Jc 56 55,Jcw 57 56 true 6,Jw 58 56 true (.callr 69 [.tmp 57]),Jp 59 56 58,Jt 4 52,Jt 5 59] [4,5,6]) .ret))))
def pf43 : PFunc := ⟨2, [.ro, .ro], g43.un, [.tmp 4, .tmp 5], b43⟩
theorem pe43 : prepF Go.Proofs.Tryz.prog a43 Go.Proofs.Tryz.f43 = some pf43 := by kernel_rfl
def b44 : IC := .seq (JR [Jz 6 70,Ji 7 0] [0,1,2,6,7]) (.seq (.block 0 (.loop (.seq (.seq (JR [Jc 10 2,Jk 11 .leq 10 1073741824] [0,1,2,6,7,11]) (.cond (.tmp 11) .skip (.exit 0))) (.block 1 (.seq (JR [Jc 13 0,Jc 14 7,J 15 (.slice false 1 (.tmp 13) (some (.tmp 14)) none),Jc 16 1,Jc 17 2,J 18 (.callr 42 [.tmp 15,.tmp 16,.tmp 17]),Jt 12 18,Je 19 0 12,Je 20 1 12,J 8 (.alloc [.d (.sc (.int .i64 0)),.own 78 []]),Js 2 8 19,Jt 9 20] [0,1,2,6,7,8,9]) (.seq (.seq (JR [Jc 21 9,Jk 22 .eql 21 0] [0,1,2,6,7,8,9,22]) (.cond (.tmp 22) (.exit 0) .skip)) (JR [Jc 23 6,Jg 24 2 8,J 25 (.bslice 70 [.d (.sc (.int .i64 0)),.own 78 []] 1 [(0,.tmp 24)]),J 26 (.app false 70 2 32 (.tmp 23) (.tmp 25)),Jc 27 7,Jc 28 9,Jb 29 .add 27 28,Jc 30 2,Jk 31 .add 30 1,Jt 6 26,Jt 7 29,Jt 2 31] [0,1,2,6,7]))))))) (.seq (JR [Jc 32 6,Jc 33 7,Jt 6 32,Jt 7 33] [6,7]) .ret))
def pf44 : PFunc := ⟨3, [.ro, .ro, .ro], g44.un, [.tmp 6, .tmp 7], b44⟩
theorem pe44 : prepF Go.Proofs.Tryz.prog a44 Go.Proofs.Tryz.f44 = some pf44 := by kernel_rfl
def b59 : IC := .seq (JR [Jy 1 0,J 2 (.alloc [.own 9 [],.own 72 []])] [1,2]) (.seq (JW [(Jf 3 0 1,false,[1]),(Jl 4 3,false,[1,3]),(Jr 5 88 4,false,[1,4]),(Jf 6 1 1,false,[1]),(Jl 7 6,false,[1,6]),(Jr 8 89 7,false,[1,7]),(J 9 (.build true [.own 9 [],.own 72 []] [(0,1,.tmp 5),(1,1,.tmp 8)]),true,[5,8,9]),(Js 2 2 9,true,[2,9])] [2]) .ret)
def pf59 : PFunc := ⟨1, [.ro], g59.un, [.cell 2 true 2], b59⟩
theorem pe59 : prepF Go.Proofs.Tryz.prog a59 Go.Proofs.Tryz.f59 = some pf59 := by kernel_rfl
def b60 : IC := .seq (JR [Jy 3 1,Ji 4 0] [0,3]) (.seq (.block 0 (.seq (JR [Jf 19 0 3,Jl 20 19,Jt 18 20] [0,3,18]) (.cond (.tmp 18) (.seq (.seq (JR [Jc 21 0,J 22 (.nilc (.tmp 21)),Jf 23 1 22,Jl 24 23,Jn 25 24,J 26 (.mov .cp (.con (.int .i64 0)))] [0,24,25,26]) (.block 1 (.loop (.seq (JR [Jb 27 .lss 26 25] [0,24,25,26,27]) (.seq (.cond (.tmp 27) .skip (.exit 1)) (.seq (.block 2 (.seq (JR [Jx 28 2 24 26,Jg 29 2 28,J 6 (.alloc [.d (.sc (.int .i64 0)),.d (.sc (.string (bs [])))]),Js 2 6 29] [0,6,24,25,26]) (JW [(Jc 30 0,false,[0]),(J 31 (.nilc (.tmp 30)),false,[0,30]),(Jf 32 0 31,false,[0,31]),(Jl 33 32,false,[0,32]),(Jf 34 0 6,false,[6]),(Jl 35 34,false,[6,34]),(Jf 36 1 6,false,[6]),(Jl 37 36,false,[6,36]),(Jx 38 1 33 35,false,[0,33,35]),(Js 1 38 37,true,[0,7,8,9,10,11,16,17,21,22,23,24,28,29,30,31,32,33,37,38,40,41,42,44,45,46,59,60,61,62])] [0,24,25,26]))) (JR [Jk 39 .add 26 1,Jc 26 39] [0,24,25,26]))))))) (JR [Jc 40 0,J 41 (.nilc (.tmp 40)),Jf 42 1 41,⟨none,none,.store 1 (.tmp 42) (.con (.vs false [.own 72 []]))⟩] [0])) (.seq (JW [(Jc 44 0,false,[0]),(J 45 (.nilc (.tmp 44)),false,[0,44]),(Jg 46 2 45,false,[0,45]),(Jf 47 1 3,false,[3]),(Jf 48 0 47,false,[3,47]),(Jl 49 48,false,[3,48]),(Jv 50 83 46 49,false,[0,46,49]),(Ju 51 50,false,[50]),(Jt 43 51,true,[43,51])] [0,3,43]) (.cond (.tmp 43) (.seq (JR [Ji 4 3] [0,4]) .ret) (.seq (JR [Jf 53 1 3,Jf 54 1 53,Jl 55 54,Jr 56 80 55,Ju 57 56,Jt 52 57] [0,3,52]) (.cond (.tmp 52) (.seq (JR [Ji 4 1] [0,4]) .ret) (.seq (JR [Jc 59 0,J 60 (.nilc (.tmp 59)),Jf 61 1 60,Jl 62 61,Jn 63 62,Jk 64 .geq 63 2048,Jt 58 64] [0,3,58]) (.cond (.tmp 58) (.seq (JR [Ji 4 2] [0,4]) .ret) (JW [(J 7 (.mov .st (.tmp 0)),false,[0]),(Jc 8 0,false,[0]),(J 9 (.nilc (.tmp 8)),false,[0,8]),(Jf 10 1 9,false,[0,9]),(Jl 11 10,false,[0,10]),(Jf 12 1 3,false,[3]),(Jg 13 2 12,false,[3,12]),(J 14 (.bslice 72 [.d (.sc (.int .i64 0)),.d (.sc (.string (bs [])))] 1 [(0,.tmp 13)]),true,[3,12,13,14,19,47,48,53,54]),(J 15 (.app false 72 2 24 (.tmp 11) (.tmp 14)),true,[0,7,8,9,10,11,14,15,16,17,21,22,23,24,28,29,30,31,32,33,38,40,41,42,44,45,46,59,60,61,62]),(J 16 (.nilc (.tmp 7)),false,[0,7]),(Jf 17 1 16,false,[0,16]),(Js 1 17 15,true,[0,7,8,9,10,11,15,16,17,21,22,23,24,28,29,30,31,32,33,38,40,41,42,44,45,46,59,60,61,62])] [0])))))))))) (.seq (JR [Ji 4 0] [0,4]) .ret))
def pf60 : PFunc := ⟨2, [.io, .ro], g60.un, [.tmp 4], b60⟩
theorem pe60 : prepF Go.Proofs.Tryz.prog a60 Go.Proofs.Tryz.f60 = some pf60 := by kernel_rfl
def b58 : IC := .seq (JR [Jz 6 74,J 7 (.alloc [.d (.sc (.int .i64 0)),.d (.sc (.int .i64 0)),.d (.sc (.int .i64 0)),.d (.sc (.int .i64 0))]),Ji 8 0] [0,1,2,7]) (.seq (.seq (JR [Jc 12 2,Jr 13 69 12,Ju 14 13] [0,1,2,7,14]) (.cond (.tmp 14) (.seq (JR [J 15 (.build true [.d (.sc (.int .i64 0)),.d (.sc (.int .i64 0)),.d (.sc (.int .i64 0)),.d (.sc (.int .i64 0))] []),Jz 6 74,Js 4 7 15,Ji 8 1] [6,7,8,11]) .ret) .skip)) (.seq (JR [Jc 16 2,Jr 17 87 16,J 9 (.alloc [.d (.sc (.int .i64 0)),.own 78 []]),Js 2 9 17] [0,1,7,9]) (.seq (.seq (JR [Jc 18 0,Jk 19 .geq 18 1073741824] [0,1,7,9,19]) (.cond (.tmp 19) (.seq (JR [J 20 (.build true [.d (.sc (.int .i64 0)),.d (.sc (.int .i64 0)),.d (.sc (.int .i64 0)),.d (.sc (.int .i64 0))] []),Jz 6 74,Js 4 7 20,Ji 8 2] [6,7,8,11]) .ret) .skip)) (.seq (.seq (JR [Jg 21 2 9,Jr 22 63 21,Ju 23 22,Jc 24 23,Jw 25 24 false (.load .cp true 2 (.tmp 9)),Jcw 26 24 false 0,Jw 27 24 false (.call 64 [.tmp 25,.tmp 26,.con (.int .i64 0)]),Jw 28 24 false (.len false (.tmp 27)),Jw 29 24 false (.bin none .gtr (.tmp 28) (.con (.int .i64 127))),Jq 30 24 29] [0,1,7,9,30]) (.cond (.tmp 30) (.seq (JR [J 31 (.build true [.d (.sc (.int .i64 0)),.d (.sc (.int .i64 0)),.d (.sc (.int .i64 0)),.d (.sc (.int .i64 0))] []),Jz 6 74,Js 4 7 31,Ji 8 5] [6,7,8,11]) .ret) .skip)) (.seq (JR [J 32 (.build true [.d (.sc (.bool false)),.d (.sc (.int .i64 0)),.d (.sc (.string (bs [])))] [(0,1,.con (.bool true))]),J 10 (.alloc [.d (.sc (.bool false)),.d (.sc (.int .i64 0)),.d (.sc (.string (bs [])))]),Js 3 10 32] [0,1,7,9,10]) (.seq (JW [(Jc 33 1,false,[1]),(Jr 34 41 33,false,[33]),(Jg 35 2 9,false,[9]),(Jc 36 0,false,[0]),(J 37 (.call 64 [.tmp 35,.tmp 36,.con (.int .i64 0)]),true,[9,21,25,35,36,37]),(J 38 (.call 65 [.con (.vs false [.own 74 []]),.tmp 34,.tmp 37]),true,[34,37,38]),(Jg 39 3 10,false,[10]),(J 40 (.bslice 74 [.d (.sc (.bool false)),.d (.sc (.int .i64 0)),.d (.sc (.string (bs [])))] 1 [(0,.tmp 39)]),true,[10,39,40,49]),(J 41 (.app false 74 3 32 (.tmp 38) (.tmp 40)),true,[38,40,41]),(Jt 11 41,true,[6,11,41,42,52])] [0,1,7,10,11]) (.seq (JW [(Jc 42 11,false,[11]),(Jc 43 1,false,[1]),(Jk 44 .add 43 1,false,[43]),(J 45 (.build true [.d (.sc (.int .i64 0)),.own 78 []] [(0,1,.tmp 44)]),true,[44,45]),(Jc 46 0,false,[0]),(J 47 (.call 64 [.tmp 45,.con (.int .i64 0),.tmp 46]),true,[45,46,47]),(J 48 (.call 65 [.tmp 42,.con (.int .i64 0),.tmp 47]),true,[6,11,42,47,48,52]),(Jg 49 3 10,false,[10]),(J 50 (.bslice 74 [.d (.sc (.bool false)),.d (.sc (.int .i64 0)),.d (.sc (.string (bs [])))] 1 [(0,.tmp 49)]),true,[10,39,49,50]),(J 51 (.app false 74 3 32 (.tmp 48) (.tmp 50)),true,[48,50,51]),(Jt 11 51,true,[6,11,42,51,52])] [0,1,7,11]) (.seq (JR [Jc 52 11,Jc 53 0,Jc 54 1,J 55 (.build true [.d (.sc (.int .i64 0)),.d (.sc (.int .i64 0)),.d (.sc (.int .i64 0)),.d (.sc (.int .i64 0))] [(0,1,.tmp 53),(1,1,.tmp 54),(2,1,.con (.int .i64 255)),(3,1,.con (.int .i64 1))]),Jt 6 52,Js 4 7 55,Ji 8 0] [6,7,8,11]) .ret))))))))
def pf58 : PFunc := ⟨3, [.ro, .ro, .ro], g58.un, [.tmp 6, .cell 7 true 4, .tmp 8], b58⟩
theorem pe58 : prepF Go.Proofs.Tryz.prog a58 Go.Proofs.Tryz.f58 = some pf58 := by kernel_rfl
def b74 : IC := .seq (JR [Jo 2 false] [0]) (.seq (JR [Jc 3 0,J 4 (.len true (.tmp 3)),J 5 (.callr 14 [.tmp 4,.con (.int .i64 1),.con (.int .i64 12)]),Jt 2 5] [2]) .ret)
def pf74 : PFunc := ⟨1, [.ro], g74.un, [.tmp 2], b74⟩
theorem pe74 : prepF Go.Proofs.Tryz.prog a74 Go.Proofs.Tryz.f74 = some pf74 := by kernel_rfl
def b75 : IC := .seq (JR [Jo 2 false] [0]) (.seq (JR [Jc 3 0,J 4 (.len true (.tmp 3)),Jk 5 .leq 4 20,Jt 2 5] [2]) .ret)
def pf75 : PFunc := ⟨1, [.ro], g75.un, [.tmp 2], b75⟩
theorem pe75 : prepF Go.Proofs.Tryz.prog a75 Go.Proofs.Tryz.f75 = some pf75 := by kernel_rfl
def b14 : IC := .seq (JR [Jo 6 false] [0,1,2]) (.seq (JR [Jc 7 0,Jc 8 1,Jb 9 .geq 7 8,Jc 10 9,Jcw 11 10 true 0,Jcw 12 10 true 2,Jw 13 10 true (.bin none .leq (.tmp 11) (.tmp 12)),Jp 14 10 13,Jt 6 14] [6]) .ret)
def pf14 : PFunc := ⟨3, [.ro, .ro, .ro], g14.un, [.tmp 6], b14⟩
theorem pe14 : prepF Go.Proofs.Tryz.prog a14 Go.Proofs.Tryz.f14 = some pf14 := by kernel_rfl
def b91 : IC := .seq (JR [Jy 1 0,Jo 2 false] [1]) (.seq (JR [Jf 3 0 1,Jl 4 3,J 5 (.callr 45 [.tmp 4,.con (.int .i64 2)]),Jt 6 5,Jfw 7 6 true 1 1,Jlw 8 6 true 7,Jw 9 6 true (.callr 74 [.tmp 8]),Jp 10 6 9,Jc 11 10,Jfw 12 11 true 2 1,Jlw 13 11 true 12,Jw 14 11 true (.callr 75 [.tmp 13]),Jp 15 11 14,Jc 16 15,Jfw 17 16 true 3 1,Jlw 18 16 true 17,Jw 19 16 true (.un .not (.tmp 18)),Jcw 20 16 true 19,Jfw 21 20 false 2 1,Jlw 22 20 false 21,Jw 23 20 false (.bin none .eql (.tmp 22) (.con (.str (bs [])))),Jw 24 16 true (.pick (.tmp 20) (.con (.bool true)) (.tmp 23)),Jp 25 16 24,Jt 2 25] [2]) .ret)
def pf91 : PFunc := ⟨1, [.ro], g91.un, [.tmp 2], b91⟩
theorem pe91 : prepF Go.Proofs.Tryz.prog a91 Go.Proofs.Tryz.f91 = some pf91 := by kernel_rfl
def b63 : IC := .seq (JR [Jy 1 0,Jo 2 false] [1]) (.seq (JR [Jf 3 0 1,Jl 4 3,Jk 5 .geq 4 1,Jc 6 5,Jfw 7 6 true 0 1,Jlw 8 6 true 7,Jw 9 6 true (.bin none .leq (.tmp 8) (.con (.int .i64 1073741824))),Jp 10 6 9,Jc 11 10,Jfw 12 11 true 1 1,Jlw 13 11 true 12,Jw 14 11 true (.len false (.tmp 13)),Jw 15 11 true (.bin none .leq (.tmp 14) (.con (.int .i64 64))),Jp 16 11 15,Jc 17 16,Jfw 18 17 true 1 1,Jlw 19 17 true 18,Jw 20 17 true (.callr 67 [.tmp 19,.fn 92]),Jw 21 17 true (.un .not (.tmp 20)),Jp 22 17 21,Jt 2 22] [2]) .ret)
def pf63 : PFunc := ⟨1, [.ro], g63.un, [.tmp 2], b63⟩
theorem pe63 : prepF Go.Proofs.Tryz.prog a63 Go.Proofs.Tryz.f63 = some pf63 := by kernel_rfl
def b67 : IC := .seq (JR [Jo 4 false] [0,1]) (.seq (JR [Jc 5 0,Jc 6 1,Jv 7 98 5 6,Jk 8 .geq 7 0,Jt 4 8] [4]) .ret)
def pf67 : PFunc := ⟨2, [.ro, .ro], g67.un, [.tmp 4], b67⟩
theorem pe67 : prepF Go.Proofs.Tryz.prog a67 Go.Proofs.Tryz.f67 = some pf67 := by kernel_rfl
def b68 : IC := .seq (JR [Jy 2 0,Jo 3 false] [1,2]) (.seq (JR [Jf 4 0 2,Jl 5 4,Jl 6 1,Jn 7 6,Jb 8 .geq 5 7,Jt 3 8] [3]) .ret)
def pf68 : PFunc := ⟨2, [.ro, .ro], g68.un, [.tmp 3], b68⟩
theorem pe68 : prepF Go.Proofs.Tryz.prog a68 Go.Proofs.Tryz.f68 = some pf68 := by kernel_rfl
def b99 : IC := .seq (JR [Jo 4 false] [0,1]) (.seq (JR [Jc 5 0,Jc 6 1,Jv 7 122 5 6,Jk 8 .geq 7 0,Jt 4 8] [4]) .ret)
def pf99 : PFunc := ⟨2, [.ro, .ro], g99.un, [.tmp 4], b99⟩
theorem pe99 : prepF Go.Proofs.Tryz.prog a99 Go.Proofs.Tryz.f99 = some pf99 := by kernel_rfl
def b100 : IC := .seq (JR [Jo 2 false] [0]) (.seq (JR [Jc 3 0,Jr 4 101 3,Ju 5 4,Jt 2 5] [2]) .ret)
def pf100 : PFunc := ⟨1, [.ro], g100.un, [.tmp 2], b100⟩
theorem pe100 : prepF Go.Proofs.Tryz.prog a100 Go.Proofs.Tryz.f100 = some pf100 := by kernel_rfl
def b102 : IC := .seq (JR [Ji 4 0] [0,1]) (.seq (.seq (JR [Jc 6 0,Jn 7 6,J 8 (.mov .cp (.con (.int .i64 0)))] [0,1,7,8]) (.block 0 (.loop (.seq (JR [Jb 9 .lss 8 7] [0,1,7,8,9]) (.seq (.cond (.tmp 9) .skip (.exit 0)) (.seq (.block 1 (.seq (JR [Jc 10 8,Jt 5 10] [0,1,5,7,8]) (.seq (JR [Jc 11 1,Jc 12 0,Jc 13 5,Jx 14 2 12 13,Jg 15 2 14,J 16 (.callv (.tmp 11) [.tmp 15])] [0,1,5,7,8,16]) (.cond (.tmp 16) (.seq (JR [Jc 17 5,Jt 4 17] [4]) .ret) .skip)))) (JR [Jk 18 .add 8 1,Jc 8 18] [0,1,7,8]))))))) (.seq (JR [Ji 4 (-1)] [4]) .ret))
def pf102 : PFunc := ⟨2, [.ro, .ro], g102.un, [.tmp 4], b102⟩
theorem pe102 : prepF Go.Proofs.Tryz.prog a102 Go.Proofs.Tryz.f102 = some pf102 := by kernel_rfl
def b106 : IC := .seq (JR [Ji 2 0] [0]) (.seq (JR [Jc 5 0,Jn 6 5,Jt 3 6] [0,3]) (.seq (.seq (JR [Ji 4 0] [0,3,4]) (.block 0 (.loop (.seq (.seq (JR [Jc 7 4,Jc 8 0,Jn 9 8,Jb 10 .lss 7 9,Jc 11 10,Jcw 12 11 true 3,Jw 13 11 true (.bin none .lss (.tmp 12) (.con (.int .i64 1048576))),Jp 14 11 13] [0,3,4,14]) (.cond (.tmp 14) .skip (.exit 0))) (.seq (.block 1 (JW [(Jc 17 3,false,[3]),(Jc 18 0,false,[0]),(Jc 19 4,false,[4]),(Jx 20 4 18 19,false,[18,19]),(Jf 21 1 20,false,[20]),(Jl 22 21,false,[21]),(J 23 (.len true (.tmp 22)),false,[22]),(Jc 24 0,false,[0]),(Jc 25 4,false,[4]),(Jx 26 4 24 25,false,[24,25]),(Jf 27 2 26,false,[26]),(Jl 28 27,false,[27]),(J 29 (.len true (.tmp 28)),false,[28]),(Jb 30 .add 23 29,false,[23,29]),(Jk 31 .quo 30 8,false,[30]),(Jb 32 .add 17 31,false,[17,31]),(Jt 3 32,true,[3,32])] [0,3,4])) (JR [Jc 15 4,Jk 16 .add 15 1,Jt 4 16] [0,3,4])))))) (.seq (JR [Jc 33 3,Jt 2 33] [2]) .ret)))
def pf106 : PFunc := ⟨1, [.ro], g106.un, [.tmp 2], b106⟩
theorem pe106 : prepF Go.Proofs.Tryz.prog a106 Go.Proofs.Tryz.f106 = some pf106 := by kernel_rfl
def b78 : IC := .seq (JR [Jo 4 false] [0,1]) (.seq (JR [Jc 5 0,Jc 6 1,Jv 7 109 5 6,Jk 8 .geq 7 0,Jt 4 8] [4]) .ret)
def pf78 : PFunc := ⟨2, [.ro, .ro], g78.un, [.tmp 4], b78⟩
theorem pe78 : prepF Go.Proofs.Tryz.prog a78 Go.Proofs.Tryz.f78 = some pf78 := by kernel_rfl
def b79 : IC := .seq (JR [Jo 2 false] [0]) (.seq (JR [Jc 3 0,Jr 4 80 3,Ju 5 4,Jt 2 5] [2]) .ret)
def pf79 : PFunc := ⟨1, [.ro], g79.un, [.tmp 2], b79⟩
theorem pe79 : prepF Go.Proofs.Tryz.prog a79 Go.Proofs.Tryz.f79 = some pf79 := by kernel_rfl
def b81 : IC := .seq (JR [Jo 4 false] [0,1]) (.seq (JR [Jc 5 0,Jc 6 1,Jv 7 110 5 6,Jk 8 .geq 7 0,Jt 4 8] [4]) .ret)
def pf81 : PFunc := ⟨2, [.ro, .ro], g81.un, [.tmp 4], b81⟩
theorem pe81 : prepF Go.Proofs.Tryz.prog a81 Go.Proofs.Tryz.f81 = some pf81 := by kernel_rfl
def b82 : IC := .seq (JR [Jy 2 0,Jo 3 false] [1,2]) (.seq (JR [Jg 4 2 1,Jf 5 0 2,Jl 6 5,Jv 7 83 4 6,Ju 8 7,Jc 9 8,Jfw 10 9 false 1 2,Jlw 11 9 false 10,Jw 12 9 false (.callr 80 [.tmp 11]),Jw 13 9 false (.un .not (.tmp 12)),Jq 14 9 13,Jt 3 14] [3]) .ret)
def pf82 : PFunc := ⟨2, [.ro, .ro], g82.un, [.tmp 3], b82⟩
theorem pe82 : prepF Go.Proofs.Tryz.prog a82 Go.Proofs.Tryz.f82 = some pf82 := by kernel_rfl
def b64 : IC := .seq (JR [Jy 3 0,Jz 6 9] [1,2,3,6]) (.seq (JR [Jg 11 2 3,Jr 12 94 11,Jt 7 12] [1,2,6,7]) (.seq (.seq (JR [Ji 8 0] [1,2,6,7,8]) (.block 0 (.loop (.seq (.seq (JR [Jc 13 7,J 14 (.bin none .neq (.tmp 13) (.con (.str (bs [])))),Jc 15 14,Jcw 16 15 false 8,Jw 17 15 false (.bin none .eql (.tmp 16) (.con (.int .i64 0))),Jq 18 15 17] [1,2,6,7,8,18]) (.cond (.tmp 18) .skip (.exit 0))) (.seq (.block 1 (.seq (JR [Jc 21 7,J 22 (.len true (.tmp 21)),J 23 (.mn (.con (.int .i64 20)) (.tmp 22)),Jt 9 23] [1,2,6,7,8,9]) (.seq (JR [Jc 24 1,J 25 (.call 95 [.con (.vs false [.own 5 []]),.tmp 24]),Jc 26 2,J 27 (.call 95 [.tmp 25,.tmp 26]),Jt 10 27] [1,2,6,7,8,9,10]) (.seq (JR [Jc 28 10,Jc 29 8,J 30 (.bin none .shr (.tmp 29) (.con (.int .u64 8))),J 31 (.conv .u8 (.tmp 30)),Jc 32 8,J 33 (.conv .u8 (.tmp 32)),Jc 34 9,Jc 35 7,J 36 (.len true (.tmp 35)),Jb 37 .eql 34 36,Jr 38 96 37,Jc 39 9,J 40 (.conv .u8 (.tmp 39)),J 41 (.bslice 5 [.d (.sc (.int .u8 0))] 4 [(0,.tmp 31),(1,.tmp 33),(2,.tmp 38),(3,.tmp 40)]),J 42 (.app false 5 1 1 (.tmp 28) (.tmp 41)),Jt 10 42] [1,2,6,7,8,9,10]) (.seq (JR [Jc 43 10,Jc 44 7,Jc 45 9,J 46 (.slice true 1 (.tmp 44) none (some (.tmp 45))),J 47 (.app true 5 1 1 (.tmp 43) (.tmp 46)),Jt 10 47] [1,2,6,7,8,9,10]) (.seq (JW [(Jc 48 6,false,[6]),(Jc 49 10,false,[10]),(J 50 (.b2s (.tmp 49)),false,[10,49]),(Jc 51 9,false,[9]),(J 52 (.bin none .sub (.con (.int .i64 20)) (.tmp 51)),false,[51]),(J 53 (.callr 97 [.con (.str (bs [0])),.tmp 52]),false,[52]),(Jb 54 .add 50 53,false,[50,53]),(J 55 (.bslice 9 [.d (.sc (.string (bs [])))] 1 [(0,.tmp 54)]),true,[54,55]),(J 56 (.app false 9 1 16 (.tmp 48) (.tmp 55)),true,[6,48,55,56,60]),(Jt 6 56,true,[6,48,56,60])] [1,2,6,7,8,9]) (JR [Jc 57 7,Jc 58 9,J 59 (.slice true 1 (.tmp 57) (some (.tmp 58)) none),Jt 7 59] [1,2,6,7,8]))))))) (JR [Jc 19 8,Jk 20 .add 19 1,Jt 8 20] [1,2,6,7,8])))))) (.seq (JR [Jc 60 6,Jt 6 60] [6]) .ret)))
def pf64 : PFunc := ⟨3, [.ro, .ro, .ro], g64.un, [.tmp 6], b64⟩
theorem pe64 : prepF Go.Proofs.Tryz.prog a64 Go.Proofs.Tryz.f64 = some pf64 := by kernel_rfl
def b84 : IC := .seq (JR [J 2 (.alloc [.d (.sc (.int .i64 0)),.own 78 []]),Ji 3 0] [0,2]) (.seq (JR [Jc 7 0,J 8 (.build true [.d (.sc (.string (bs []))),.d (.sc (.bool false))] [(0,1,.tmp 7)]),Jy 9 8,Jt 4 9] [2,4]) (.seq (JR [Jc 10 4,J 11 (.call 111 [.tmp 10,.con (.int .i64 4)]),J 12 (.build true [.d (.sc (.int .i64 0)),.own 78 []] [(0,1,.tmp 11)]),J 5 (.alloc [.d (.sc (.int .i64 0)),.own 78 []]),Js 2 5 12] [2,4,5]) (.seq (.seq (JR [Jc 13 4,J 14 (.call 111 [.tmp 13,.con (.int .i64 4)]),Jt 6 14] [2,4,5,6]) (.block 0 (.loop (.seq (.seq (JR [Jc 15 6,Jk 16 .gtr 15 0,Jc 17 16,Jcw 18 17 true 4,Jw 19 17 true (.nilc (.tmp 18)),Jfw 20 17 true 1 19,Jlw 21 17 true 20,Jw 22 17 true (.un .not (.tmp 21)),Jp 23 17 22] [2,4,5,6,23]) (.cond (.tmp 23) .skip (.exit 0))) (.seq (.block 1 (JW [(Jf 26 1 5,false,[5]),(Jl 27 26,false,[5,26]),(Jc 28 4,false,[4]),(J 29 (.call 112 [.tmp 28]),true,[4,10,13,18,19,20,28,29,33,34,35,38,39,40]),(J 30 (.bslice 78 [.d (.sc (.int .i64 0)),.d (.sc (.string (bs []))),.d (.sc (.string (bs []))),.d (.sc (.bool false))] 1 [(0,.tmp 29)]),true,[29,30]),(J 31 (.app false 78 4 48 (.tmp 27) (.tmp 30)),true,[5,26,27,30,31,32,45,50]),(Jf 32 1 5,false,[5]),(Js 1 32 31,true,[5,26,27,31,32,45,50])] [2,4,5,6])) (JR [Jc 24 6,Jk 25 .sub 24 1,Jt 6 25] [2,4,5,6])))))) (.seq (.seq (JR [Jc 33 4,J 34 (.nilc (.tmp 33)),Jf 35 1 34,Jl 36 35,Jc 37 36,Jcw 38 37 false 4,Jw 39 37 false (.nilc (.tmp 38)),Jfw 40 37 false 0 39,Jlw 41 37 false 40,Jw 42 37 false (.bin none .neq (.tmp 41) (.con (.str (bs [])))),Jq 43 37 42,Jc 44 43,Jw 45 44 false (.load .cp true 2 (.tmp 5)),Jw 46 44 false (.callr 63 [.tmp 45]),Jw 47 44 false (.un .not (.tmp 46)),Jq 48 44 47] [2,5,48]) (.cond (.tmp 48) (.seq (JR [J 49 (.build true [.d (.sc (.int .i64 0)),.own 78 []] []),Js 2 2 49,Ji 3 10] [2,3]) .ret) .skip)) (.seq (JR [Jg 50 2 5,Js 2 2 50,Ji 3 0] [2,3]) .ret)))))
def pf84 : PFunc := ⟨1, [.ro], g84.un, [.cell 2 true 2, .tmp 3], b84⟩
theorem pe84 : prepF Go.Proofs.Tryz.prog a84 Go.Proofs.Tryz.f84 = some pf84 := by kernel_rfl
def b85 : IC := .seq (JR [Jo 4 false] [0,1]) (.seq (.seq (JR [Jc 6 0,Jn 7 6,Jc 8 1,Jn 9 8,Jb 10 .neq 7 9] [0,1,10]) (.cond (.tmp 10) (.seq (JR [Jo 4 false] [4]) .ret) .skip)) (.seq (.seq (JR [Jc 11 0,Jn 12 11,J 13 (.mov .cp (.con (.int .i64 0)))] [0,1,12,13]) (.block 0 (.loop (.seq (JR [Jb 14 .lss 13 12] [0,1,12,13,14]) (.seq (.cond (.tmp 14) .skip (.exit 0)) (.seq (.block 1 (.seq (JR [Jc 15 13,Jt 5 15] [0,1,5,12,13]) (.seq (JW [(Jc 16 0,false,[0]),(Jc 17 5,false,[5]),(Jx 18 1 16 17,false,[16,17]),(Jl 19 18,false,[18]),(Jc 20 1,false,[1]),(Jc 21 5,false,[5]),(Jx 22 1 20 21,false,[20,21]),(Jl 23 22,false,[22]),(Jb 24 .neq 19 23,false,[19,23])] [0,1,12,13,24]) (.cond (.tmp 24) (.seq (JR [Jo 4 false] [4]) .ret) .skip)))) (JR [Jk 25 .add 13 1,Jc 13 25] [0,1,12,13]))))))) (.seq (JR [Jo 4 true] [4]) .ret)))
def pf85 : PFunc := ⟨2, [.ro, .ro], g85.un, [.tmp 4], b85⟩
theorem pe85 : prepF Go.Proofs.Tryz.prog a85 Go.Proofs.Tryz.f85 = some pf85 := by kernel_rfl
def b80 : IC := .seq (JR [Jo 2 false] [0]) (.seq (JR [Jc 3 0,J 4 (.len true (.tmp 3)),Jk 5 .eql 4 32,Jt 2 5] [2]) .ret)
def pf80 : PFunc := ⟨1, [.ro], g80.un, [.tmp 2], b80⟩
theorem pe80 : prepF Go.Proofs.Tryz.prog a80 Go.Proofs.Tryz.f80 = some pf80 := by kernel_rfl
def b83 : IC := .seq (JR [Jy 2 0,Jo 4 false] [1,2]) (.seq (JR [Jc 5 1,Jk 6 .geq 5 0,Jc 7 6,Jcw 8 7 true 1,Jfw 9 7 true 0 2,Jlw 10 7 true 9,Jw 11 7 true (.len false (.tmp 10)),Jw 12 7 true (.bin none .lss (.tmp 8) (.tmp 11)),Jp 13 7 12,Jt 4 13] [4]) .ret)
def pf83 : PFunc := ⟨2, [.ro, .ro], g83.un, [.tmp 4], b83⟩
theorem pe83 : prepF Go.Proofs.Tryz.prog a83 Go.Proofs.Tryz.f83 = some pf83 := by kernel_rfl
def b65 : IC := .seq (JR [Jz 6 74] [0,1,2]) (.seq (.seq (JR [Jc 9 2,Jn 10 9,J 11 (.mov .cp (.con (.int .i64 0)))] [0,1,9,10,11]) (.block 0 (.loop (.seq (JR [Jb 12 .lss 11 10] [0,1,9,10,11,12]) (.seq (.cond (.tmp 12) .skip (.exit 0)) (.seq (.block 1 (.seq (JR [Jc 13 11,Jx 14 1 9 11,Jl 15 14,Jt 7 13,Jt 8 15] [0,1,7,8,9,10,11]) (JR [Jc 16 0,Jc 17 1,Jc 18 7,Jb 19 .add 17 18,Jc 20 8,J 21 (.build true [.d (.sc (.int .i64 0)),.d (.sc (.string (bs [])))] [(0,1,.tmp 19),(1,1,.tmp 20)]),J 22 (.build true [.d (.sc (.bool false)),.d (.sc (.int .i64 0)),.d (.sc (.string (bs [])))] [(1,2,.tmp 21)]),J 23 (.bslice 74 [.d (.sc (.bool false)),.d (.sc (.int .i64 0)),.d (.sc (.string (bs [])))] 1 [(0,.tmp 22)]),J 24 (.app false 74 3 32 (.tmp 16) (.tmp 23)),Jt 0 24] [0,1,9,10,11]))) (JR [Jk 25 .add 11 1,Jc 11 25] [0,1,9,10,11]))))))) (.seq (JR [Jc 26 0,Jt 6 26] [0,6]) .ret))
def pf65 : PFunc := ⟨3, [.own, .ro, .ro], g65.un, [.tmp 6], b65⟩
theorem pe65 : prepF Go.Proofs.Tryz.prog a65 Go.Proofs.Tryz.f65 = some pf65 := by kernel_rfl
def b87 : IC := .seq (JR [J 2 (.alloc [.d (.sc (.int .i64 0)),.own 78 []])] [0,2]) (.seq (JR [J 8 (.build true [.d (.sc (.int .i64 0)),.own 78 []] [(0,1,.con (.int .i64 1))]),J 3 (.alloc [.d (.sc (.int .i64 0)),.own 78 []]),Js 2 3 8] [0,2,3]) (.seq (.seq (JR [Jc 9 0,Jn 10 9,J 11 (.mov .cp (.con (.int .i64 0)))] [2,3,9,10,11]) (.block 0 (.loop (.seq (JR [Jb 12 .lss 11 10] [2,3,9,10,11,12]) (.seq (.cond (.tmp 12) .skip (.exit 0)) (.seq (.block 1 (.seq (JR [Jc 13 11,Jx 14 1 9 11,Jl 15 14,Jt 4 13,Jt 5 15] [2,3,4,5,9,10,11]) (.seq (JR [Jc 16 5,Jn 17 16,J 18 (.mov .cp (.con (.int .i64 0)))] [2,3,4,5,9,10,11,16,17,18]) (.block 2 (.loop (.seq (JR [Jb 19 .lss 18 17] [2,3,4,5,9,10,11,16,17,18,19]) (.seq (.cond (.tmp 19) .skip (.exit 2)) (.seq (.block 3 (.seq (JR [Jx 20 2 16 18,Jg 21 2 20,J 7 (.alloc [.d (.sc (.string (bs []))),.d (.sc (.string (bs [])))]),Js 2 7 21] [2,3,4,5,7,9,10,11,16,17,18]) (JR [Jf 22 1 3,Jl 23 22,Jc 24 4,Jf 25 0 7,Jl 26 25,Jf 27 1 7,Jl 28 27,J 29 (.build true [.d (.sc (.int .i64 0)),.d (.sc (.string (bs []))),.d (.sc (.string (bs []))),.d (.sc (.bool false))] [(0,1,.tmp 24),(1,1,.tmp 26),(2,1,.tmp 28)]),J 30 (.bslice 78 [.d (.sc (.int .i64 0)),.d (.sc (.string (bs []))),.d (.sc (.string (bs []))),.d (.sc (.bool false))] 1 [(0,.tmp 29)]),J 31 (.app false 78 4 48 (.tmp 23) (.tmp 30)),Jf 32 1 3,Js 1 32 31] [2,3,4,5,9,10,11,16,17,18]))) (JR [Jk 33 .add 18 1,Jc 18 33] [2,3,4,5,9,10,11,16,17,18]))))))))) (JR [Jk 34 .add 11 1,Jc 11 34] [2,3,9,10,11]))))))) (.seq (JR [Jg 35 2 3,Js 2 2 35] [2]) .ret)))
def pf87 : PFunc := ⟨1, [.ro], g87.un, [.cell 2 true 2], b87⟩
theorem pe87 : prepF Go.Proofs.Tryz.prog a87 Go.Proofs.Tryz.f87 = some pf87 := by kernel_rfl
def b45 : IC := .seq (JR [Jo 4 false] [0,1]) (.seq (JR [Jc 5 0,Jk 6 .geq 5 0,Jc 7 6,Jcw 8 7 true 0,Jcw 9 7 true 1,Jw 10 7 true (.bin none .leq (.tmp 8) (.tmp 9)),Jp 11 7 10,Jt 4 11] [4]) .ret)
def pf45 : PFunc := ⟨2, [.ro, .ro], g45.un, [.tmp 4], b45⟩
theorem pe45 : prepF Go.Proofs.Tryz.prog a45 Go.Proofs.Tryz.f45 = some pf45 := by kernel_rfl
def b92 : IC := .seq (JR [Jy 1 0,Jo 2 false] [1]) (.seq (JR [Jg 3 4 1,Jr 4 93 3,Ju 5 4,Jt 2 5] [2]) .ret)
def pf92 : PFunc := ⟨1, [.ro], g92.un, [.tmp 2], b92⟩
theorem pe92 : prepF Go.Proofs.Tryz.prog a92 Go.Proofs.Tryz.f92 = some pf92 := by kernel_rfl
def b98 : IC := .seq (JR [Ji 4 0] [0,1]) (.seq (.seq (JR [Jc 6 0,Jn 7 6,J 8 (.mov .cp (.con (.int .i64 0)))] [0,1,7,8]) (.block 0 (.loop (.seq (JR [Jb 9 .lss 8 7] [0,1,7,8,9]) (.seq (.cond (.tmp 9) .skip (.exit 0)) (.seq (.block 1 (.seq (JR [Jc 10 8,Jt 5 10] [0,1,5,7,8]) (.seq (JR [Jc 11 1,Jc 12 0,Jc 13 5,Jx 14 4 12 13,Jg 15 4 14,J 16 (.callv (.tmp 11) [.tmp 15])] [0,1,5,7,8,16]) (.cond (.tmp 16) (.seq (JR [Jc 17 5,Jt 4 17] [4]) .ret) .skip)))) (JR [Jk 18 .add 8 1,Jc 8 18] [0,1,7,8]))))))) (.seq (JR [Ji 4 (-1)] [4]) .ret))
def pf98 : PFunc := ⟨2, [.ro, .ro], g98.un, [.tmp 4], b98⟩
theorem pe98 : prepF Go.Proofs.Tryz.prog a98 Go.Proofs.Tryz.f98 = some pf98 := by kernel_rfl
def b122 : IC := .seq (JR [Ji 4 0] [0,1]) (.seq (.seq (JR [Jc 6 0,Jn 7 6,J 8 (.mov .cp (.con (.int .i64 0)))] [0,1,7,8]) (.block 0 (.loop (.seq (JR [Jb 9 .lss 8 7] [0,1,7,8,9]) (.seq (.cond (.tmp 9) .skip (.exit 0)) (.seq (.block 1 (.seq (JR [Jc 10 8,Jt 5 10] [0,1,5,7,8]) (.seq (JR [Jc 11 1,Jc 12 0,Jc 13 5,Jx 14 1 12 13,Jl 15 14,J 16 (.callv (.tmp 11) [.tmp 15])] [0,1,5,7,8,16]) (.cond (.tmp 16) (.seq (JR [Jc 17 5,Jt 4 17] [4]) .ret) .skip)))) (JR [Jk 18 .add 8 1,Jc 8 18] [0,1,7,8]))))))) (.seq (JR [Ji 4 (-1)] [4]) .ret))
def pf122 : PFunc := ⟨2, [.ro, .ro], g122.un, [.tmp 4], b122⟩
theorem pe122 : prepF Go.Proofs.Tryz.prog a122 Go.Proofs.Tryz.f122 = some pf122 := by kernel_rfl
def b101 : IC := .seq (JR [Jo 2 false] [0]) (.seq (.seq (JR [Jc 5 0,Jn 6 5,J 7 (.mov .cp (.con (.int .i64 0)))] [0,5,6,7]) (.block 0 (.loop (.seq (JR [Jb 8 .lss 7 6] [0,5,6,7,8]) (.seq (.cond (.tmp 8) .skip (.exit 0)) (.seq (.block 1 (.seq (JR [Jc 9 7,Jx 10 2 5 7,Jg 11 2 10,J 4 (.alloc [.d (.sc (.string (bs []))),.d (.sc (.string (bs [])))]),Jt 3 9,Js 2 4 11] [0,3,4,5,6,7]) (.seq (JW [(Jf 12 0 4,false,[4]),(Jl 13 12,false,[4,12]),(Jr 14 114 13,false,[13]),(Ju 15 14,false,[14]),(Jc 16 15,false,[15]),(Jfw 17 16 false 1 4,false,[4,16]),(Jlw 18 16 false 17,false,[4,16,17]),(Jw 19 16 false (.callr 115 [.tmp 18]),false,[16,18]),(Jw 20 16 false (.un .not (.tmp 19)),false,[16,19]),(Jq 21 16 20,false,[16,20]),(Jc 22 21,false,[21]),(Jcw 23 22 false 3,false,[3,22]),(Jw 24 22 false (.bin none .gtr (.tmp 23) (.con (.int .i64 0))),false,[22,23]),(Jcw 25 22 false 24,false,[22,24]),(Jfw 26 25 true 0 4,false,[4,25]),(Jlw 27 25 true 26,false,[4,25,26]),(Jcw 28 25 true 0,false,[0,25]),(Jcw 29 25 true 3,false,[3,25]),(Jw 30 25 true (.bin none .sub (.tmp 29) (.con (.int .i64 1))),false,[25,29]),(Jw 31 25 true (.indexA 2 (.tmp 28) (.tmp 30)),false,[25,28,30]),(Jfw 32 25 true 0 31,false,[25,31]),(Jlw 33 25 true 32,false,[25,32]),(Jw 34 25 true (.bin none .leq (.tmp 27) (.tmp 33)),false,[25,27,33]),(Jw 35 22 false (.pick (.tmp 25) (.tmp 34) (.con (.bool false))),false,[22,25,34]),(Jq 36 22 35,false,[22,35])] [0,5,6,7,36]) (.cond (.tmp 36) (.seq (JR [Jo 2 false] [2]) .ret) .skip)))) (JR [Jk 37 .add 7 1,Jc 7 37] [0,5,6,7]))))))) (.seq (JR [Jo 2 true] [2]) .ret))
def pf101 : PFunc := ⟨1, [.ro], g101.un, [.tmp 2], b101⟩
theorem pe101 : prepF Go.Proofs.Tryz.prog a101 Go.Proofs.Tryz.f101 = some pf101 := by kernel_rfl
def b109 : IC := .seq (JR [Ji 4 0] [0,1]) (.seq (.seq (JR [Jc 6 0,Jn 7 6,J 8 (.mov .cp (.con (.int .i64 0)))] [0,1,7,8]) (.block 0 (.loop (.seq (JR [Jb 9 .lss 8 7] [0,1,7,8,9]) (.seq (.cond (.tmp 9) .skip (.exit 0)) (.seq (.block 1 (.seq (JR [Jc 10 8,Jt 5 10] [0,1,5,7,8]) (.seq (JR [Jc 11 1,Jc 12 0,Jc 13 5,Jx 14 1 12 13,Jl 15 14,J 16 (.callv (.tmp 11) [.tmp 15])] [0,1,5,7,8,16]) (.cond (.tmp 16) (.seq (JR [Jc 17 5,Jt 4 17] [4]) .ret) .skip)))) (JR [Jk 18 .add 8 1,Jc 8 18] [0,1,7,8]))))))) (.seq (JR [Ji 4 (-1)] [4]) .ret))
def pf109 : PFunc := ⟨2, [.ro, .ro], g109.un, [.tmp 4], b109⟩
theorem pe109 : prepF Go.Proofs.Tryz.prog a109 Go.Proofs.Tryz.f109 = some pf109 := by kernel_rfl
def b110 : IC := .seq (JR [Ji 4 0] [0,1]) (.seq (.seq (JR [Jc 6 0,Jn 7 6,J 8 (.mov .cp (.con (.int .i64 0)))] [0,1,7,8]) (.block 0 (.loop (.seq (JR [Jb 9 .lss 8 7] [0,1,7,8,9]) (.seq (.cond (.tmp 9) .skip (.exit 0)) (.seq (.block 1 (.seq (JR [Jc 10 8,Jt 5 10] [0,1,5,7,8]) (.seq (JR [Jc 11 1,Jc 12 0,Jc 13 5,Jx 14 2 12 13,Jg 15 2 14,J 16 (.callv (.tmp 11) [.tmp 15])] [0,1,5,7,8,16]) (.cond (.tmp 16) (.seq (JR [Jc 17 5,Jt 4 17] [4]) .ret) .skip)))) (JR [Jk 18 .add 8 1,Jc 8 18] [0,1,7,8]))))))) (.seq (JR [Ji 4 (-1)] [4]) .ret))
def pf110 : PFunc := ⟨2, [.ro, .ro], g110.un, [.tmp 4], b110⟩
theorem pe110 : prepF Go.Proofs.Tryz.prog a110 Go.Proofs.Tryz.f110 = some pf110 := by kernel_rfl
def b94 : IC := .seq (JR [Jy 1 0,J 2 (.mov .tk (.con (.str (bs []))))] [1]) (.seq (JW [(Jf 6 0 1,false,[1]),(Jl 7 6,false,[1,6]),(J 8 (.call 95 [.con (.vs false [.own 5 []]),.tmp 7]),true,[7,8]),(Jf 9 1 1,false,[1]),(Jl 10 9,false,[1,9]),(Jn 11 10,false,[1,10]),(J 12 (.call 95 [.tmp 8,.tmp 11]),true,[8,11,12]),(Jt 3 12,true,[3,12,20,33,43,48])] [1,3]) (.seq (.seq (JR [Jf 13 1 1,Jl 14 13,Jn 15 14,J 16 (.mov .cp (.con (.int .i64 0)))] [1,3,14,15,16]) (.block 0 (.loop (.seq (JR [Jb 17 .lss 16 15] [1,3,14,15,16,17]) (.seq (.cond (.tmp 17) .skip (.exit 0)) (.seq (.block 1 (.seq (JR [Jx 18 4 14 16,Jg 19 4 18,J 5 (.alloc [.d (.sc (.int .i64 0)),.d (.sc (.string (bs []))),.d (.sc (.string (bs []))),.d (.sc (.bool false))]),Js 4 5 19] [1,3,5,14,15,16]) (.seq (JW [(Jc 20 3,false,[3]),(Jf 21 0 5,false,[5]),(Jl 22 21,false,[5,21]),(J 23 (.conv .u8 (.tmp 22)),false,[22]),(Jf 24 3 5,false,[5]),(Jl 25 24,false,[5,24]),(Jr 26 96 25,false,[25]),(Jf 27 1 5,false,[5]),(Jl 28 27,false,[5,27]),(J 29 (.len true (.tmp 28)),false,[28]),(J 30 (.conv .u8 (.tmp 29)),false,[29]),(J 31 (.bslice 5 [.d (.sc (.int .u8 0))] 3 [(0,.tmp 23),(1,.tmp 26),(2,.tmp 30)]),true,[23,26,30,31]),(J 32 (.app false 5 1 1 (.tmp 20) (.tmp 31)),true,[3,20,31,32,33,43,48]),(Jt 3 32,true,[3,20,32,33,43,48])] [1,3,5,14,15,16]) (.seq (JW [(Jc 33 3,false,[3]),(Jf 34 1 5,false,[5]),(Jl 35 34,false,[5,34]),(J 36 (.app true 5 1 1 (.tmp 33) (.tmp 35)),true,[3,20,33,35,36,43,48]),(Jf 37 2 5,false,[5]),(Jl 38 37,false,[5,37]),(J 39 (.len true (.tmp 38)),false,[38]),(J 40 (.conv .u8 (.tmp 39)),false,[39]),(J 41 (.bslice 5 [.d (.sc (.int .u8 0))] 1 [(0,.tmp 40)]),true,[40,41]),(J 42 (.app false 5 1 1 (.tmp 36) (.tmp 41)),true,[36,41,42]),(Jt 3 42,true,[3,20,33,42,43,48])] [1,3,5,14,15,16]) (JR [Jc 43 3,Jf 44 2 5,Jl 45 44,J 46 (.app true 5 1 1 (.tmp 43) (.tmp 45)),Jt 3 46] [1,3,14,15,16]))))) (JR [Jk 47 .add 16 1,Jc 16 47] [1,3,14,15,16]))))))) (.seq (JR [Jc 48 3,J 49 (.b2s (.tmp 48)),Jt 2 49] [2]) .ret)))
def pf94 : PFunc := ⟨1, [.ro], g94.un, [.tmp 2], b94⟩
theorem pe94 : prepF Go.Proofs.Tryz.prog a94 Go.Proofs.Tryz.f94 = some pf94 := by kernel_rfl
def b95 : IC := .seq (JR [Jz 4 5] [0,1]) (.seq (JR [Jc 5 0,Jc 6 1,J 7 (.bin none .shr (.tmp 6) (.con (.int .u64 24))),J 8 (.conv .u8 (.tmp 7)),Jc 9 1,J 10 (.bin none .shr (.tmp 9) (.con (.int .u64 16))),J 11 (.conv .u8 (.tmp 10)),Jc 12 1,J 13 (.bin none .shr (.tmp 12) (.con (.int .u64 8))),J 14 (.conv .u8 (.tmp 13)),Jc 15 1,J 16 (.conv .u8 (.tmp 15)),J 17 (.bslice 5 [.d (.sc (.int .u8 0))] 4 [(0,.tmp 8),(1,.tmp 11),(2,.tmp 14),(3,.tmp 16)]),J 18 (.app false 5 1 1 (.tmp 5) (.tmp 17)),Jt 4 18] [4]) .ret)
def pf95 : PFunc := ⟨2, [.own, .ro], g95.un, [.tmp 4], b95⟩
theorem pe95 : prepF Go.Proofs.Tryz.prog a95 Go.Proofs.Tryz.f95 = some pf95 := by kernel_rfl
def b96 : IC := .seq (JR [J 2 (.mov .tk (.con (.int .u8 0)))] [0]) (.seq (.seq (JR [Jc 3 0] [3]) (.cond (.tmp 3) (.seq (JR [J 2 (.mov .tk (.con (.int .u8 1)))] [2]) .ret) .skip)) (.seq (JR [J 2 (.mov .tk (.con (.int .u8 0)))] [2]) .ret))
def pf96 : PFunc := ⟨1, [.ro], g96.un, [.tmp 2], b96⟩
theorem pe96 : prepF Go.Proofs.Tryz.prog a96 Go.Proofs.Tryz.f96 = some pf96 := by kernel_rfl
def b111 : IC := .seq (JR [Ji 4 0] [0,1]) (.seq (JR [Ji 5 0] [0,1,5]) (.seq (.seq (JR [Jc 8 0,Jc 9 1,J 10 (.call 127 [.tmp 8,.tmp 9]),J 11 (.s2b (.tmp 10)),Jn 12 11,J 13 (.mov .cp (.con (.int .i64 0)))] [0,5,11,12,13]) (.block 0 (.loop (.seq (JR [Jb 14 .lss 13 12] [0,5,11,12,13,14]) (.seq (.cond (.tmp 14) .skip (.exit 0)) (.seq (.block 1 (.seq (JR [Jx 15 1 11 13,Jl 16 15,Jt 7 16] [0,5,7,11,12,13]) (JR [Jc 17 5,J 18 (.bin none .shl (.tmp 17) (.con (.int .u64 8))),Jc 19 7,J 20 (.conv .i64 (.tmp 19)),Jb 21 .or 18 20,Jt 5 21] [0,5,11,12,13]))) (JR [Jk 22 .add 13 1,Jc 13 22] [0,5,11,12,13]))))))) (.seq (JR [Jc 23 5,Jt 4 23] [0,4]) .ret)))
def pf111 : PFunc := ⟨2, [.io, .ro], g111.un, [.tmp 4], b111⟩
theorem pe111 : prepF Go.Proofs.Tryz.prog a111 Go.Proofs.Tryz.f111 = some pf111 := by kernel_rfl
def b112 : IC := .seq (JR [J 2 (.alloc [.d (.sc (.int .i64 0)),.d (.sc (.string (bs []))),.d (.sc (.string (bs []))),.d (.sc (.bool false))])] [0,2]) (.seq (JR [Jc 4 0,J 5 (.call 111 [.tmp 4,.con (.int .i64 1)]),Jf 6 0 2,Js 1 6 5] [0,2]) (.seq (JR [Jc 7 0,J 8 (.call 111 [.tmp 7,.con (.int .i64 1)]),Jt 3 8] [0,2,3]) (.seq (JR [Jc 9 3,Jk 10 .eql 9 1,Jf 11 3 2,Js 1 11 10] [0,2,3]) (.seq (JR [Jc 12 0,Jc 13 0,J 14 (.nilc (.tmp 13)),Jf 15 1 14,Jl 16 15,Jc 17 16,Jcw 18 17 false 3,Jw 19 17 false (.bin none .gtr (.tmp 18) (.con (.int .i64 1))),Jq 20 17 19,J 21 (.nilc (.tmp 12)),Jf 22 1 21,Js 1 22 20] [0,2]) (.seq (JR [Jc 23 0,Jc 24 0,J 25 (.call 111 [.tmp 24,.con (.int .i64 1)]),J 26 (.call 127 [.tmp 23,.tmp 25]),Jf 27 1 2,Js 1 27 26] [0,2]) (.seq (JR [Jc 28 0,Jc 29 0,J 30 (.call 111 [.tmp 29,.con (.int .i64 1)]),J 31 (.call 127 [.tmp 28,.tmp 30]),Jf 32 2 2,Js 1 32 31] [0,2]) (.seq (JR [Jg 33 4 2,Js 4 2 33] [0,2]) .ret)))))))
def pf112 : PFunc := ⟨1, [.io], g112.un, [.cell 2 true 4], b112⟩
theorem pe112 : prepF Go.Proofs.Tryz.prog a112 Go.Proofs.Tryz.f112 = some pf112 := by kernel_rfl
def b93 : IC := .seq (JR [Jy 1 0,Jo 2 false] [1]) (.seq (JR [Jf 3 0 1,Jl 4 3,Jr 5 113 4,Jt 6 5,Jfw 7 6 true 1 1,Jlw 8 6 true 7,Jw 9 6 true (.callr 114 [.tmp 8]),Jp 10 6 9,Jc 11 10,Jfw 12 11 true 2 1,Jlw 13 11 true 12,Jw 14 11 true (.callr 115 [.tmp 13]),Jp 15 11 14,Jc 16 15,Jfw 17 16 true 3 1,Jlw 18 16 true 17,Jw 19 16 true (.un .not (.tmp 18)),Jcw 20 16 true 19,Jfw 21 20 false 2 1,Jlw 22 20 false 21,Jw 23 20 false (.bin none .eql (.tmp 22) (.con (.str (bs [])))),Jw 24 16 true (.pick (.tmp 20) (.con (.bool true)) (.tmp 23)),Jp 25 16 24,Jt 2 25] [2]) .ret)
def pf93 : PFunc := ⟨1, [.ro], g93.un, [.tmp 2], b93⟩
theorem pe93 : prepF Go.Proofs.Tryz.prog a93 Go.Proofs.Tryz.f93 = some pf93 := by kernel_rfl
def b114 : IC := .seq (JR [Jo 2 false] [0]) (.seq (JR [Jc 3 0,J 4 (.bin none .neq (.tmp 3) (.con (.str (bs [])))),Jc 5 4,Jcw 6 5 true 0,Jw 7 5 true (.len true (.tmp 6)),Jw 8 5 true (.bin none .leq (.tmp 7) (.con (.int .i64 12))),Jp 9 5 8,Jt 2 9] [2]) .ret)
def pf114 : PFunc := ⟨1, [.ro], g114.un, [.tmp 2], b114⟩
theorem pe114 : prepF Go.Proofs.Tryz.prog a114 Go.Proofs.Tryz.f114 = some pf114 := by kernel_rfl
def b115 : IC := .seq (JR [Jo 2 false] [0]) (.seq (JR [Jc 3 0,J 4 (.len true (.tmp 3)),Jk 5 .leq 4 20,Jt 2 5] [2]) .ret)
def pf115 : PFunc := ⟨1, [.ro], g115.un, [.tmp 2], b115⟩
theorem pe115 : prepF Go.Proofs.Tryz.prog a115 Go.Proofs.Tryz.f115 = some pf115 := by kernel_rfl
def b127 : IC := .seq (JR [J 4 (.mov .tk (.con (.str (bs []))))] [0,1]) (.seq (.seq (JR [Jc 6 0,J 7 (.nilc (.tmp 6)),Jf 8 1 7,Jl 9 8,Jc 10 9,Jcw 11 10 false 1,Jcw 12 10 false 0,Jw 13 10 false (.nilc (.tmp 12)),Jfw 14 10 false 0 13,Jlw 15 10 false 14,Jw 16 10 false (.len true (.tmp 15)),Jw 17 10 false (.bin none .gtr (.tmp 11) (.tmp 16)),Jq 18 10 17] [0,1,18]) (.cond (.tmp 18) (.seq (JR [Jc 19 0,J 20 (.nilc (.tmp 19)),Jf 21 1 20,⟨none,none,.store 1 (.tmp 21) (.con (.bool true))⟩] [0]) (.seq (JR [J 4 (.mov .tk (.con (.str (bs []))))] [0,4]) .ret)) .skip)) (.seq (JR [Jc 22 0,J 23 (.nilc (.tmp 22)),Jf 24 0 23,Jl 25 24,Jc 26 1,J 27 (.slice true 1 (.tmp 25) none (some (.tmp 26))),Jt 5 27] [0,1,5]) (.seq (JR [Jc 28 0,Jc 29 0,J 30 (.nilc (.tmp 29)),Jf 31 0 30,Jl 32 31,Jc 33 1,J 34 (.slice true 1 (.tmp 32) (some (.tmp 33)) none),J 35 (.nilc (.tmp 28)),Jf 36 0 35,Js 1 36 34] [0,5]) (.seq (JR [Jc 37 5,Jt 4 37] [0,4]) .ret))))
def pf127 : PFunc := ⟨2, [.io, .ro], g127.un, [.tmp 4], b127⟩
theorem pe127 : prepF Go.Proofs.Tryz.prog a127 Go.Proofs.Tryz.f127 = some pf127 := by kernel_rfl
def b113 : IC := .seq (JR [Jo 2 false] [0]) (.seq (JR [Jc 3 0,Jk 4 .geq 3 0,Jc 5 4,Jcw 6 5 true 0,Jw 7 5 true (.bin none .lss (.tmp 6) (.con (.int .i64 3))),Jp 8 5 7,Jt 2 8] [2]) .ret)
def pf113 : PFunc := ⟨1, [.ro], g113.un, [.tmp 2], b113⟩
theorem pe113 : prepF Go.Proofs.Tryz.prog a113 Go.Proofs.Tryz.f113 = some pf113 := by kernel_rfl
def tab : List (Nat × PFunc) := [(5, pf5), (6, pf6), (16, pf16), (17, pf17), (20, pf20), (25, pf25), (27, pf27), (28, pf28), (29, pf29), (52, pf52), (7, pf7), (12, pf12), (22, pf22), (56, pf56), (31, pf31), (62, pf62), (66, pf66), (69, pf69), (70, pf70), (72, pf72), (73, pf73), (30, pf30), (39, pf39), (40, pf40), (41, pf41), (42, pf42), (43, pf43), (44, pf44), (59, pf59), (60, pf60), (58, pf58), (74, pf74), (75, pf75), (14, pf14), (91, pf91), (63, pf63), (67, pf67), (68, pf68), (99, pf99), (100, pf100), (102, pf102), (106, pf106), (78, pf78), (79, pf79), (81, pf81), (82, pf82), (64, pf64), (84, pf84), (85, pf85), (80, pf80), (83, pf83), (65, pf65), (87, pf87), (45, pf45), (92, pf92), (98, pf98), (122, pf122), (101, pf101), (109, pf109), (110, pf110), (94, pf94), (95, pf95), (96, pf96), (111, pf111), (112, pf112), (93, pf93), (114, pf114), (115, pf115), (127, pf127), (113, pf113)]
noncomputable def gv : FuncId → Option (List PM × (List T → Option Res)) := fun f => if f = 97 then some repGiven else if f = 88 then some (cloneGiven Tryz.prog 9) else if f = 89 then some (cloneGiven Tryz.prog 72) else if f = 71 then some laidGiven else none
noncomputable def G : Prog := { fn := fun f => tab.lookup f, given := gv }
theorem Gpm : G.pm 5 = [.ro] ∧ G.pm 6 = [.ro] ∧ G.pm 16 = [.ro] ∧ G.pm 17 = [.ro, .ro] ∧ G.pm 20 = [] ∧ G.pm 25 = [.ro, .ro] ∧ G.pm 27 = [.ro, .ro] ∧ G.pm 28 = [.ro] ∧ G.pm 29 = [.ro] ∧ G.pm 52 = [.ro, .ro] ∧ G.pm 7 = [.ro] ∧ G.pm 12 = [.ro, .ro] ∧ G.pm 22 = [.ro, .ro, .ro] ∧ G.pm 56 = [.ro] ∧ G.pm 31 = [.ro] ∧ G.pm 62 = [.ro] ∧ G.pm 66 = [.ro, .ro] ∧ G.pm 69 = [.ro] ∧ G.pm 70 = [.ro, .ro] ∧ G.pm 72 = [.ro] ∧ G.pm 73 = [.ro] ∧ G.pm 30 = [.ro] ∧ G.pm 39 = [.ro] ∧ G.pm 40 = [.ro] ∧ G.pm 41 = [.ro] ∧ G.pm 42 = [.ro, .ro, .ro] ∧ G.pm 43 = [.ro, .ro] ∧ G.pm 44 = [.ro, .ro, .ro] ∧ G.pm 59 = [.ro] ∧ G.pm 60 = [.io, .ro] ∧ G.pm 58 = [.ro, .ro, .ro] ∧ G.pm 74 = [.ro] ∧ G.pm 75 = [.ro] ∧ G.pm 14 = [.ro, .ro, .ro] ∧ G.pm 91 = [.ro] ∧ G.pm 63 = [.ro] ∧ G.pm 67 = [.ro, .ro] ∧ G.pm 68 = [.ro, .ro] ∧ G.pm 99 = [.ro, .ro] ∧ G.pm 100 = [.ro] ∧ G.pm 102 = [.ro, .ro] ∧ G.pm 106 = [.ro] ∧ G.pm 78 = [.ro, .ro] ∧ G.pm 79 = [.ro] ∧ G.pm 81 = [.ro, .ro] ∧ G.pm 82 = [.ro, .ro] ∧ G.pm 64 = [.ro, .ro, .ro] ∧ G.pm 84 = [.ro] ∧ G.pm 85 = [.ro, .ro] ∧ G.pm 80 = [.ro] ∧ G.pm 83 = [.ro, .ro] ∧ G.pm 65 = [.own, .ro, .ro] ∧ G.pm 87 = [.ro] ∧ G.pm 45 = [.ro, .ro] ∧ G.pm 92 = [.ro] ∧ G.pm 98 = [.ro, .ro] ∧ G.pm 122 = [.ro, .ro] ∧ G.pm 101 = [.ro] ∧ G.pm 109 = [.ro, .ro] ∧ G.pm 110 = [.ro, .ro] ∧ G.pm 94 = [.ro] ∧ G.pm 95 = [.own, .ro] ∧ G.pm 96 = [.ro] ∧ G.pm 111 = [.io, .ro] ∧ G.pm 112 = [.io] ∧ G.pm 93 = [.ro] ∧ G.pm 114 = [.ro] ∧ G.pm 115 = [.ro] ∧ G.pm 127 = [.io, .ro] ∧ G.pm 113 = [.ro] ∧ G.pm 97 = [.ro, .ro] ∧ G.pm 88 = [.ro] ∧ G.pm 89 = [.ro] ∧ G.pm 71 = [.ro, .ro] := by refine ⟨rfl, rfl, rfl, rfl, rfl, rfl, rfl, rfl, rfl, rfl, rfl, rfl, rfl, rfl, rfl, rfl, rfl, rfl, rfl, rfl, rfl, rfl, rfl, rfl, rfl, rfl, rfl, rfl, rfl, rfl, rfl, rfl, rfl, rfl, rfl, rfl, rfl, rfl, rfl, rfl, rfl, rfl, rfl, rfl, rfl, rfl, rfl, rfl, rfl, rfl, rfl, rfl, rfl, rfl, rfl, rfl, rfl, rfl, rfl, rfl, rfl, rfl, rfl, rfl, rfl, rfl, rfl, rfl, rfl, rfl, rfl, rfl, rfl, rfl⟩
attribute [push_cast] Gpm
theorem soundG : Sound Tryz.prog G :=
  ⟨(sound_tab (P := Tryz.prog) (l := tab) (⟨⟨_, a5, Tryz.func5, pe5⟩, ⟨⟨_, a6, Tryz.func6, pe6⟩, ⟨⟨_, a16, Tryz.func16, pe16⟩, ⟨⟨_, a17, Tryz.func17, pe17⟩, ⟨⟨_, a20, Tryz.func20, pe20⟩, ⟨⟨_, a25, Tryz.func25, pe25⟩, ⟨⟨_, a27, Tryz.func27, pe27⟩, ⟨⟨_, a28, Tryz.func28, pe28⟩, ⟨⟨_, a29, Tryz.func29, pe29⟩, ⟨⟨_, a52, Tryz.func52, pe52⟩, ⟨⟨_, a7, Tryz.func7, pe7⟩, ⟨⟨_, a12, Tryz.func12, pe12⟩, ⟨⟨_, a22, Tryz.func22, pe22⟩, ⟨⟨_, a56, Tryz.func56, pe56⟩, ⟨⟨_, a31, Tryz.func31, pe31⟩, ⟨⟨_, a62, Tryz.func62, pe62⟩, ⟨⟨_, a66, Tryz.func66, pe66⟩, ⟨⟨_, a69, Tryz.func69, pe69⟩, ⟨⟨_, a70, Tryz.func70, pe70⟩, ⟨⟨_, a72, Tryz.func72, pe72⟩, ⟨⟨_, a73, Tryz.func73, pe73⟩, ⟨⟨_, a30, Tryz.func30, pe30⟩, ⟨⟨_, a39, Tryz.func39, pe39⟩, ⟨⟨_, a40, Tryz.func40, pe40⟩, ⟨⟨_, a41, Tryz.func41, pe41⟩, ⟨⟨_, a42, Tryz.func42, pe42⟩, ⟨⟨_, a43, Tryz.func43, pe43⟩, ⟨⟨_, a44, Tryz.func44, pe44⟩, ⟨⟨_, a59, Tryz.func59, pe59⟩, ⟨⟨_, a60, Tryz.func60, pe60⟩, ⟨⟨_, a58, Tryz.func58, pe58⟩, ⟨⟨_, a74, Tryz.func74, pe74⟩, ⟨⟨_, a75, Tryz.func75, pe75⟩, ⟨⟨_, a14, Tryz.func14, pe14⟩, ⟨⟨_, a91, Tryz.func91, pe91⟩, ⟨⟨_, a63, Tryz.func63, pe63⟩, ⟨⟨_, a67, Tryz.func67, pe67⟩, ⟨⟨_, a68, Tryz.func68, pe68⟩, ⟨⟨_, a99, Tryz.func99, pe99⟩, ⟨⟨_, a100, Tryz.func100, pe100⟩, ⟨⟨_, a102, Tryz.func102, pe102⟩, ⟨⟨_, a106, Tryz.func106, pe106⟩, ⟨⟨_, a78, Tryz.func78, pe78⟩, ⟨⟨_, a79, Tryz.func79, pe79⟩, ⟨⟨_, a81, Tryz.func81, pe81⟩, ⟨⟨_, a82, Tryz.func82, pe82⟩, ⟨⟨_, a64, Tryz.func64, pe64⟩, ⟨⟨_, a84, Tryz.func84, pe84⟩, ⟨⟨_, a85, Tryz.func85, pe85⟩, ⟨⟨_, a80, Tryz.func80, pe80⟩, ⟨⟨_, a83, Tryz.func83, pe83⟩, ⟨⟨_, a65, Tryz.func65, pe65⟩, ⟨⟨_, a87, Tryz.func87, pe87⟩, ⟨⟨_, a45, Tryz.func45, pe45⟩, ⟨⟨_, a92, Tryz.func92, pe92⟩, ⟨⟨_, a98, Tryz.func98, pe98⟩, ⟨⟨_, a122, Tryz.func122, pe122⟩, ⟨⟨_, a101, Tryz.func101, pe101⟩, ⟨⟨_, a109, Tryz.func109, pe109⟩, ⟨⟨_, a110, Tryz.func110, pe110⟩, ⟨⟨_, a94, Tryz.func94, pe94⟩, ⟨⟨_, a95, Tryz.func95, pe95⟩, ⟨⟨_, a96, Tryz.func96, pe96⟩, ⟨⟨_, a111, Tryz.func111, pe111⟩, ⟨⟨_, a112, Tryz.func112, pe112⟩, ⟨⟨_, a93, Tryz.func93, pe93⟩, ⟨⟨_, a114, Tryz.func114, pe114⟩, ⟨⟨_, a115, Tryz.func115, pe115⟩, ⟨⟨_, a127, Tryz.func127, pe127⟩, ⟨⟨_, a113, Tryz.func113, pe113⟩, trivial⟩⟩⟩⟩⟩⟩⟩⟩⟩⟩⟩⟩⟩⟩⟩⟩⟩⟩⟩⟩⟩⟩⟩⟩⟩⟩⟩⟩⟩⟩⟩⟩⟩⟩⟩⟩⟩⟩⟩⟩⟩⟩⟩⟩⟩⟩⟩⟩⟩⟩⟩⟩⟩⟩⟩⟩⟩⟩⟩⟩⟩⟩⟩⟩⟩⟩⟩⟩⟩⟩)).fns, fun f g hg args r h => by
    simp only [G, gv] at hg
    by_cases e97 : f = 97
    · subst e97; simp only [if_true] at hg; cases hg; exact rep_ok rfl h
    rw [if_neg e97] at hg
    by_cases e88 : f = 88
    · subst e88; simp only [if_true] at hg; cases hg; exact cloS_ok rfl h
    rw [if_neg e88] at hg
    by_cases e89 : f = 89
    · subst e89; simp only [if_true] at hg; cases hg; exact cloP_ok rfl h
    rw [if_neg e89] at hg
    by_cases e71 : f = 71
    · subst e71; simp only [if_true] at hg; cases hg; exact laid_ok rfl h
    rw [if_neg e71] at hg
    cases hg⟩
end Go.Mir.Tryz

set_option linter.unusedVariables false
set_option linter.unusedSimpArgs false
set_option maxRecDepth 100000
namespace Go.Mir.Tryz
open Go.Proofs Go.Mir.Q
set_option maxHeartbeats 2000000 in
theorem f52 {a b : List (Row)} (ha : a.length ≤ 1000000000) (hb : b.length ≤ 1000000000) : Fun G 52 [.one (.d (.sl (a.map eRow))), .one (.d (.sl (b.map eRow)))] (.bool (decide (a = b)), []) := by
  refine Fun.of_run (g := g52) (pf := pf52) rfl rfl rfl rfl ?_
  simp (maxSteps := 1000000) (disch := first | assumption | ((try simp only [LEN, LEN2]); omega)) only [push_cast, sevalprocAttr, g52, pf52, b52]
  refine If.dec (fun h => ?_) (fun h => ?_)
  · have : a ≠ b := fun e => h (by rw [e])
    simp (maxSteps := 1000000) (disch := first | assumption | ((try simp only [LEN, LEN2]); omega)) only [push_cast, sevalprocAttr, g52, pf52, b52]
    simp [this]
  simp (maxSteps := 1000000) (disch := first | assumption | ((try simp only [LEN, LEN2]); omega)) only [push_cast, sevalprocAttr, g52, pf52, b52]
  have hl : a.length = b.length := by omega
  refine run_loop' (fun i : Nat => [(0, T.one (.d (.sl (a.map eRow)))), (1, T.one (.d (.sl (b.map eRow)))), (5, T.int .i64 i)]) (fun i => i ≤ a.length ∧ a.take i = b.take i) (fun i => a.length - i) 0 rfl ⟨Nat.zero_le _, by simp⟩ (fun i hi => ?_)
  obtain ⟨hi, ht⟩ := hi
  simp (maxSteps := 1000000) (disch := first | assumption | ((try simp only [LEN, LEN2]); omega)) only [push_cast, sevalprocAttr, g52, pf52, b52]
  refine If.dec (fun h => ?_) (fun h => ?_)
  · replace h : i < a.length := by omega
    have h' : i < b.length := by omega
    simp (maxSteps := 1000000) (disch := first | assumption | ((try simp only [LEN, LEN2]); omega)) only [push_cast, sevalprocAttr, g52, pf52, b52, eRow, eqRow_fold]
    by_cases he : a[i] = b[i]
    · simp (maxSteps := 1000000) (disch := first | assumption | ((try simp only [LEN, LEN2]); omega)) only [push_cast, sevalprocAttr, g52, pf52, b52, he]
      refine ⟨i + 1, rfl, ⟨by omega, ?_⟩, by omega⟩
      rw [List.take_succ_eq_append_getElem h, List.take_succ_eq_append_getElem h', ht, he]
    · have hne : a ≠ b := fun e => he (by subst e; rfl)
      simp (maxSteps := 1000000) (disch := first | assumption | ((try simp only [LEN, LEN2]); omega)) only [push_cast, sevalprocAttr, g52, pf52, b52, he]
      simp [hne]
  · obtain rfl : i = a.length := by omega
    have : a = b := by rw [List.take_length] at ht; rw [ht, hl, List.take_length]
    simp (maxSteps := 1000000) (disch := first | assumption | ((try simp only [LEN, LEN2]); omega)) only [push_cast, sevalprocAttr, g52, pf52, b52]
    simp [this]
theorem f52c {a b : List (Row)} (ha : a.length ≤ 1000000000) (hb : b.length ≤ 1000000000) : type_of% (cE (f52 (a := a) (b := b) ha hb)) := cE (f52 (a := a) (b := b) ha hb)
attribute [push_cast] f52c
set_option maxHeartbeats 2000000 in
theorem f16 {i : Int}  : Fun G 16 [.int .i64 i] (.int .i64 i, []) := by
  refine Fun.of_run (g := g16) (pf := pf16) rfl rfl rfl rfl ?_
  simp (maxSteps := 1000000) (disch := first | assumption | ((try simp only [LEN, LEN2]); omega)) only [push_cast, sevalprocAttr, g16, pf16, b16]
theorem f16c {i : Int}  : type_of% (cE (f16 (i := i) )) := cE (f16 (i := i) )
attribute [push_cast] f16c
set_option maxHeartbeats 2000000 in
theorem f14 {n a b : Int}  : Fun G 14 [.int .i64 n, .int .i64 a, .int .i64 b] (.bool (decide (a ≤ n ∧ n ≤ b)), []) := by
  refine Fun.of_run (g := g14) (pf := pf14) rfl rfl rfl rfl ?_
  by_cases h : a ≤ n <;> by_cases h' : n ≤ b <;> simp (maxSteps := 1000000) (disch := first | assumption | ((try simp only [LEN, LEN2]); omega)) only [push_cast, sevalprocAttr, g14, pf14, b14, h, h']
theorem f14c {n a b : Int}  : type_of% (cE (f14 (n := n) (a := a) (b := b) )) := cE (f14 (n := n) (a := a) (b := b) )
attribute [push_cast] f14c
set_option maxHeartbeats 2000000 in
theorem f45 {n a : Int}  : Fun G 45 [.int .i64 n, .int .i64 a] (.bool (decide (0 ≤ n ∧ n ≤ a)), []) := by
  refine Fun.of_run (g := g45) (pf := pf45) rfl rfl rfl rfl ?_
  by_cases h : 0 ≤ n <;> by_cases h' : n ≤ a <;> simp (maxSteps := 1000000) (disch := first | assumption | ((try simp only [LEN, LEN2]); omega)) only [push_cast, sevalprocAttr, g45, pf45, b45, h, h']
theorem f45c {n a : Int}  : type_of% (cE (f45 (n := n) (a := a) )) := cE (f45 (n := n) (a := a) )
attribute [push_cast] f45c
abbrev oT (S : List (List UInt8)) (W : List Put) : List V := [.own 9 (S.map oS), .own 72 (W.map oP)]
def oMp (l : List Row) : List V := [.own 81 (l.map oRow)]
theorem toDss_oMp (l : Map) : toDss (l.map oMp) = some (l.map eMp) := toDss_map (fun x => by simp [oMp, eMp, toDs, V.toD, toDss_oRow]) l
theorem noSlss_oMp (l : Map) : noSlss (l.map oMp) = true := noSlss_map (fun x => by simp [oMp, noSls, V.noSl, noSlss_oRow]) l
attribute [push_cast] toDss_oMp noSlss_oMp
set_option maxHeartbeats 2000000 in
theorem f17 {a b : Map} (ha : smM a) (hb : smM b) : Fun G 17 [.one (.d (.sl (a.map eMp))), .one (.d (.sl (b.map eMp)))] (.bool (decide (a = b)), []) := by
  refine Fun.of_run (g := g17) (pf := pf17) rfl rfl rfl rfl ?_
  obtain ⟨ha, ha2⟩ := ha
  obtain ⟨hb, hb2⟩ := hb
  simp (maxSteps := 1000000) (disch := first | assumption | ((try simp only [LEN, LEN2]); omega)) only [push_cast, sevalprocAttr, g17, pf17, b17]
  refine If.dec (fun h => ?_) (fun h => ?_)
  · have : a ≠ b := fun e => h (by rw [e])
    simp (maxSteps := 1000000) (disch := first | assumption | ((try simp only [LEN, LEN2]); omega)) only [push_cast, sevalprocAttr, g17, pf17, b17]
    simp [this]
  simp (maxSteps := 1000000) (disch := first | assumption | ((try simp only [LEN, LEN2]); omega)) only [push_cast, sevalprocAttr, g17, pf17, b17]
  have hl : a.length = b.length := by omega
  refine run_loop' (fun i : Nat => [(0, T.one (.d (.sl (a.map eMp)))), (1, T.one (.d (.sl (b.map eMp)))), (5, T.int .i64 i)]) (fun i => i ≤ a.length ∧ a.take i = b.take i) (fun i => a.length - i) 0 rfl ⟨Nat.zero_le _, by simp⟩ (fun i hi => ?_)
  obtain ⟨hi, ht⟩ := hi
  simp (maxSteps := 1000000) (disch := first | assumption | ((try simp only [LEN, LEN2]); omega)) only [push_cast, sevalprocAttr, g17, pf17, b17]
  refine If.dec (fun h => ?_) (fun h => ?_)
  · replace h : i < a.length := by omega
    have h' : i < b.length := by omega
    have h1 := (ha2 a[i] (List.getElem_mem h)).1
    have h2 := (hb2 b[i] (List.getElem_mem h')).1
    simp (maxSteps := 1000000) (disch := first | assumption | ((try simp only [LEN, LEN2]); omega)) only [push_cast, sevalprocAttr, g17, pf17, b17, eMp]
    by_cases he : a[i] = b[i]
    · simp (maxSteps := 1000000) (disch := first | assumption | ((try simp only [LEN, LEN2]); omega)) only [push_cast, sevalprocAttr, g17, pf17, b17, he]
      refine ⟨i + 1, rfl, ⟨by omega, ?_⟩, by omega⟩
      rw [List.take_succ_eq_append_getElem h, List.take_succ_eq_append_getElem h', ht, he]
    · have hne : a ≠ b := fun e => he (by subst e; rfl)
      simp (maxSteps := 1000000) (disch := first | assumption | ((try simp only [LEN, LEN2]); omega)) only [push_cast, sevalprocAttr, g17, pf17, b17, he]
      simp [hne]
  · obtain rfl : i = a.length := by omega
    have : a = b := by rw [List.take_length] at ht; rw [ht, hl, List.take_length]
    simp (maxSteps := 1000000) (disch := first | assumption | ((try simp only [LEN, LEN2]); omega)) only [push_cast, sevalprocAttr, g17, pf17, b17]
    simp [this]
theorem f17c {a b : Map} (ha : smM a) (hb : smM b) : type_of% (cE (f17 (a := a) (b := b) ha hb)) := cE (f17 (a := a) (b := b) ha hb)
attribute [push_cast] f17c
set_option maxHeartbeats 2000000 in
theorem f96 {b : Bool}  : Fun G 96 [.bool b] (.int .u8 (if b then 1 else 0), []) := by
  refine Fun.of_run (g := g96) (pf := pf96) rfl rfl rfl rfl ?_
  cases b <;> simp (maxSteps := 1000000) (disch := first | assumption | ((try simp only [LEN, LEN2]); omega)) only [push_cast, sevalprocAttr, g96, pf96, b96]
theorem f96c {b : Bool}  : type_of% (cE (f96 (b := b) )) := cE (f96 (b := b) )
attribute [push_cast] f96c
set_option maxHeartbeats 2000000 in
theorem f74 {s : List UInt8} (h : s.length ≤ 9223372036854775807) : Fun G 74 [.str (bs s)] (.bool (decide (1 ≤ s.length ∧ s.length ≤ 12)), []) := by
  refine Fun.of_run (g := g74) (pf := pf74) rfl rfl rfl rfl ?_
  simp (maxSteps := 1000000) (disch := first | assumption | ((try simp only [LEN, LEN2]); omega)) only [push_cast, sevalprocAttr, g74, pf74, b74]
  exact boolRes (by omega)
theorem f74c {s : List UInt8} (h : s.length ≤ 9223372036854775807) : type_of% (cE (f74 (s := s) h)) := cE (f74 (s := s) h)
attribute [push_cast] f74c
set_option maxHeartbeats 2000000 in
theorem f75 {s : List UInt8}  : Fun G 75 [.str (bs s)] (.bool (decide (s.length ≤ 20)), []) := by
  refine Fun.of_run (g := g75) (pf := pf75) rfl rfl rfl rfl ?_
  simp (maxSteps := 1000000) (disch := first | assumption | ((try simp only [LEN, LEN2]); omega)) only [push_cast, sevalprocAttr, g75, pf75, b75]
  exact boolRes (by omega)
theorem f75c {s : List UInt8}  : type_of% (cE (f75 (s := s) )) := cE (f75 (s := s) )
attribute [push_cast] f75c
set_option maxHeartbeats 2000000 in
theorem f115 {s : List UInt8}  : Fun G 115 [.str (bs s)] (.bool (decide (s.length ≤ 20)), []) := by
  refine Fun.of_run (g := g115) (pf := pf115) rfl rfl rfl rfl ?_
  simp (maxSteps := 1000000) (disch := first | assumption | ((try simp only [LEN, LEN2]); omega)) only [push_cast, sevalprocAttr, g115, pf115, b115]
  exact boolRes (by omega)
theorem f115c {s : List UInt8}  : type_of% (cE (f115 (s := s) )) := cE (f115 (s := s) )
attribute [push_cast] f115c
set_option maxHeartbeats 2000000 in
theorem f113 {t : Int}  : Fun G 113 [.int .i64 t] (.bool (decide (0 ≤ t ∧ t < 3)), []) := by
  refine Fun.of_run (g := g113) (pf := pf113) rfl rfl rfl rfl ?_
  by_cases h : 0 ≤ t <;> by_cases h' : t < 3 <;> simp (maxSteps := 1000000) (disch := first | assumption | ((try simp only [LEN, LEN2]); omega)) only [push_cast, sevalprocAttr, g113, pf113, b113, h, h']
theorem f113c {t : Int}  : type_of% (cE (f113 (t := t) )) := cE (f113 (t := t) )
attribute [push_cast] f113c
set_option maxHeartbeats 2000000 in
theorem f114 {s : List UInt8}  : Fun G 114 [.str (bs s)] (.bool (decide (s ≠ [] ∧ s.length ≤ 12)), []) := by
  refine Fun.of_run (g := g114) (pf := pf114) rfl rfl rfl rfl ?_
  by_cases h : s = [] <;> by_cases h' : (s.length : Int) ≤ 12 <;> simp (maxSteps := 1000000) (disch := first | assumption | ((try simp only [LEN, LEN2]); omega)) only [push_cast, sevalprocAttr, g114, pf114, b114, h, h'] <;> simp <;> omega
theorem f114c {s : List UInt8}  : type_of% (cE (f114 (s := s) )) := cE (f114 (s := s) )
attribute [push_cast] f114c
set_option maxHeartbeats 2000000 in
theorem f93 {t : Int} {k v : List UInt8} {d : Bool}  : Fun G 93 [.vs true (cW t k v d)] (.bool (okW ⟨t, k, v, d⟩), []) := by
  refine Fun.of_run (g := g93) (pf := pf93) rfl rfl rfl rfl ?_
  by_cases h1 : 0 ≤ t ∧ t < 3
  · by_cases h2 : k = []
    · simp (maxSteps := 1000000) (disch := first | assumption | ((try simp only [LEN, LEN2]); omega)) only [push_cast, sevalprocAttr, g93, pf93, b93, h1, h2]
      simp [okW]
    · by_cases h3 : k.length ≤ 12
      · by_cases h4 : v.length ≤ 20
        · cases d <;> by_cases h5 : v = [] <;> simp (maxSteps := 1000000) (disch := first | assumption | ((try simp only [LEN, LEN2]); omega)) only [push_cast, sevalprocAttr, g93, pf93, b93, h1, h2, h3, h4, h5] <;> simp [okW, *]
        · simp (maxSteps := 1000000) (disch := first | assumption | ((try simp only [LEN, LEN2]); omega)) only [push_cast, sevalprocAttr, g93, pf93, b93, h1, h2, h3, h4]
          simp [okW, *]
      · simp (maxSteps := 1000000) (disch := first | assumption | ((try simp only [LEN, LEN2]); omega)) only [push_cast, sevalprocAttr, g93, pf93, b93, h1, h2, h3]
        simp [okW, *]
  · simp (maxSteps := 1000000) (disch := first | assumption | ((try simp only [LEN, LEN2]); omega)) only [push_cast, sevalprocAttr, g93, pf93, b93, h1]
    have : okW ⟨t, k, v, d⟩ = false := by simp only [okW, decide_eq_false_iff_not]; omega
    rw [this]
theorem f93c {t : Int} {k v : List UInt8} {d : Bool}  : type_of% (cE (f93 (t := t) (k := k) (v := v) (d := d) )) := cE (f93 (t := t) (k := k) (v := v) (d := d) )
attribute [push_cast] f93c
set_option maxHeartbeats 2000000 in
theorem f91 {t : Int} {k v : List UInt8} {d : Bool} (h : k.length ≤ 9223372036854775807) : Fun G 91 [.vs true (cW t k v d)] (.bool (okW ⟨t, k, v, d⟩), []) := by
  refine Fun.of_run (g := g91) (pf := pf91) rfl rfl rfl rfl ?_
  by_cases h1 : 0 ≤ t ∧ t ≤ 2
  · by_cases h2 : 1 ≤ k.length ∧ k.length ≤ 12
    · have h0 : k ≠ [] := by intro hk; subst hk; simp at h2
      by_cases h4 : v.length ≤ 20
      · cases d <;> by_cases h5 : v = [] <;> simp (maxSteps := 1000000) (disch := first | assumption | ((try simp only [LEN, LEN2]); omega)) only [push_cast, sevalprocAttr, g91, pf91, b91, h1, h2, h4, h5] <;> simp [okW, *] <;> omega
      · simp (maxSteps := 1000000) (disch := first | assumption | ((try simp only [LEN, LEN2]); omega)) only [push_cast, sevalprocAttr, g91, pf91, b91, h1, h2, h4]
        simp [okW, *]
    · have : okW ⟨t, k, v, d⟩ = false := by
        simp only [okW, decide_eq_false_iff_not]
        rintro ⟨_, _, hk, hl, _⟩
        have := List.length_pos_iff.2 hk
        omega
      simp (maxSteps := 1000000) (disch := first | assumption | ((try simp only [LEN, LEN2]); omega)) only [push_cast, sevalprocAttr, g91, pf91, b91, h1, h2]
      rw [this]
  · simp (maxSteps := 1000000) (disch := first | assumption | ((try simp only [LEN, LEN2]); omega)) only [push_cast, sevalprocAttr, g91, pf91, b91, h1]
    have : okW ⟨t, k, v, d⟩ = false := by simp only [okW, decide_eq_false_iff_not]; omega
    rw [this]
theorem f91c {t : Int} {k v : List UInt8} {d : Bool} (h : k.length ≤ 9223372036854775807) : type_of% (cE (f91 (t := t) (k := k) (v := v) (d := d) h)) := cE (f91 (t := t) (k := k) (v := v) (d := d) h)
attribute [push_cast] f91c
set_option maxHeartbeats 2000000 in
theorem f92 {t : Int} {k v : List UInt8} {d : Bool}  : Fun G 92 [.vs true (cW t k v d)] (.bool (!okW ⟨t, k, v, d⟩), []) := by
  refine Fun.of_run (g := g92) (pf := pf92) rfl rfl rfl rfl ?_
  simp (maxSteps := 1000000) (disch := first | assumption | ((try simp only [LEN, LEN2]); omega)) only [push_cast, sevalprocAttr, g92, pf92, b92]
theorem f92c {t : Int} {k v : List UInt8} {d : Bool}  : type_of% (cE (f92 (t := t) (k := k) (v := v) (d := d) )) := cE (f92 (t := t) (k := k) (v := v) (d := d) )
attribute [push_cast] f92c
theorem f73 {l : List (List UInt8)} (hl : l.length ≤ 1048576) (h : ∀ s ∈ l, s.length ≤ 1048576) : ∃ n : Int, Fun G 73 [.one (.d (.sl (l.map eS)))] (.int .i64 n, []) ∧ 0 ≤ n ∧ n ≤ 2097152 := by
  obtain ⟨r, h1, n, rfl, h2⟩ := Fun.ex_of_run (G := G) (f := 73) (args := [.one (.d (.sl (l.map eS)))]) (Q := fun r => ∃ n : Int, r = (.int .i64 n, []) ∧ 0 ≤ n ∧ n ≤ 2097152) (g := g73) (pf := pf73) rfl rfl rfl rfl (by
    simp (maxSteps := 1000000) (disch := first | assumption | ((try simp only [LEN, LEN2]); omega)) only [push_cast, sevalprocAttr, g73, pf73, b73]
    refine run_loop' (fun x : Nat × Int => [(0, T.one (.d (.sl (l.map eS)))), (3, T.int .i64 x.2), (4, T.int .i64 x.1)]) (fun x => x.1 ≤ l.length ∧ 0 ≤ x.2 ∧ x.2 ≤ 2097152) (fun x => l.length - x.1) (0, l.length) rfl (by simp only; omega) (fun ⟨i, n⟩ hi => ?_)
    simp only at hi
    by_cases h1 : (i : Int) < l.length
    · have hi' : i < l.length := by omega
      have hs := h l[i] (List.getElem_mem hi')
      simp (maxSteps := 1000000) (disch := first | assumption | ((try simp only [LEN, LEN2]); omega)) only [push_cast, sevalprocAttr, g73, pf73, b73, h1]
      refine If.dec (fun h2 => ?_) (fun h2 => ?_)
      · simp (maxSteps := 1000000) (disch := first | assumption | ((try simp only [LEN, LEN2]); omega)) only [push_cast, sevalprocAttr, g73, pf73, b73, eS]
        exact ⟨(i + 1, n + l[i].length), rfl, by simp only; omega, by simp only; omega⟩
      · simp (maxSteps := 1000000) (disch := first | assumption | ((try simp only [LEN, LEN2]); omega)) only [push_cast, sevalprocAttr, g73, pf73, b73]
        exact ⟨n, rfl, hi.2⟩
    · simp (maxSteps := 1000000) (disch := first | assumption | ((try simp only [LEN, LEN2]); omega)) only [push_cast, sevalprocAttr, g73, pf73, b73, h1]
      exact ⟨n, rfl, hi.2⟩)
  exact ⟨n, h1, h2⟩
theorem f106 {l : List Write} (hl : smW l) : ∃ n : Int, Fun G 106 [.one (.d (.sl (l.map eW)))] (.int .i64 n, []) ∧ 0 ≤ n ∧ n ≤ 2097152 := by
  obtain ⟨hl, h⟩ := hl
  obtain ⟨r, h1, n, rfl, h2⟩ := Fun.ex_of_run (G := G) (f := 106) (args := [.one (.d (.sl (l.map eW)))]) (Q := fun r => ∃ n : Int, r = (.int .i64 n, []) ∧ 0 ≤ n ∧ n ≤ 2097152) (g := g106) (pf := pf106) rfl rfl rfl rfl (by
    simp (maxSteps := 1000000) (disch := first | assumption | ((try simp only [LEN, LEN2]); omega)) only [push_cast, sevalprocAttr, g106, pf106, b106]
    refine run_loop' (fun x : Nat × Int => [(0, T.one (.d (.sl (l.map eW)))), (3, T.int .i64 x.2), (4, T.int .i64 x.1)]) (fun x => x.1 ≤ l.length ∧ 0 ≤ x.2 ∧ x.2 ≤ 2097152) (fun x => l.length - x.1) (0, l.length) rfl (by simp only; omega) (fun ⟨i, n⟩ hi => ?_)
    simp only at hi
    by_cases h1 : (i : Int) < l.length
    · have hi' : i < l.length := by omega
      have hs := h l[i] (List.getElem_mem hi')
      simp (maxSteps := 1000000) (disch := first | assumption | ((try simp only [LEN, LEN2]); omega)) only [push_cast, sevalprocAttr, g106, pf106, b106, h1]
      refine If.dec (fun h2 => ?_) (fun h2 => ?_)
      · simp (maxSteps := 1000000) (disch := first | assumption | ((try simp only [LEN, LEN2]); omega)) only [push_cast, sevalprocAttr, g106, pf106, b106, eW]
        exact ⟨(i + 1, n + ((l[i].Key.length : Int) + l[i].Value.length) / 8), rfl, by simp only; omega, by simp only; omega⟩
      · simp (maxSteps := 1000000) (disch := first | assumption | ((try simp only [LEN, LEN2]); omega)) only [push_cast, sevalprocAttr, g106, pf106, b106]
        exact ⟨n, rfl, hi.2⟩
    · simp (maxSteps := 1000000) (disch := first | assumption | ((try simp only [LEN, LEN2]); omega)) only [push_cast, sevalprocAttr, g106, pf106, b106, h1]
      exact ⟨n, rfl, hi.2⟩)
  exact ⟨n, h1, h2⟩
theorem f72 {l : List Record} (hl : smR l) : ∃ n : Int, Fun G 72 [.one (.d (.sl (l.map eR)))] (.int .i64 n, []) ∧ 0 ≤ n ∧ n ≤ 4194304 := by
  obtain ⟨hl, h⟩ := hl
  obtain ⟨r, h1, n, rfl, h2⟩ := Fun.ex_of_run (G := G) (f := 72) (args := [.one (.d (.sl (l.map eR)))]) (Q := fun r => ∃ n : Int, r = (.int .i64 n, []) ∧ 0 ≤ n ∧ n ≤ 4194304) (g := g72) (pf := pf72) rfl rfl rfl rfl (by
    simp (maxSteps := 1000000) (disch := first | assumption | ((try simp only [LEN, LEN2]); omega)) only [push_cast, sevalprocAttr, g72, pf72, b72]
    refine run_loop' (fun x : Nat × Int => [(0, T.one (.d (.sl (l.map eR)))), (3, T.int .i64 x.2), (4, T.int .i64 x.1)]) (fun x => x.1 ≤ l.length ∧ 0 ≤ x.2 ∧ x.2 ≤ 4194304) (fun x => l.length - x.1) (0, l.length) rfl (by simp only; omega) (fun ⟨i, n⟩ hi => ?_)
    simp only at hi
    by_cases h1 : (i : Int) < l.length
    · have hi' : i < l.length := by omega
      obtain ⟨m, hm, hm1, hm2⟩ := f106 (h l[i] (List.getElem_mem hi')).1
      simp (maxSteps := 1000000) (disch := first | assumption | ((try simp only [LEN, LEN2]); omega)) only [push_cast, sevalprocAttr, g72, pf72, b72, h1]
      refine If.dec (fun h2 => ?_) (fun h2 => ?_)
      · simp (maxSteps := 1000000) (disch := first | assumption | ((try simp only [LEN, LEN2]); omega)) only [push_cast, sevalprocAttr, g72, pf72, b72, eR, callC_eq hm]
        exact ⟨(i + 1, n + m), rfl, by simp only; omega, by simp only; omega⟩
      · simp (maxSteps := 1000000) (disch := first | assumption | ((try simp only [LEN, LEN2]); omega)) only [push_cast, sevalprocAttr, g72, pf72, b72]
        exact ⟨n, rfl, hi.2⟩
    · simp (maxSteps := 1000000) (disch := first | assumption | ((try simp only [LEN, LEN2]); omega)) only [push_cast, sevalprocAttr, g72, pf72, b72, h1]
      exact ⟨n, rfl, hi.2⟩)
  exact ⟨n, h1, h2⟩
theorem f29 {R : List Record} {S : List (List UInt8)} {N : List Int} {L : List (List (List UInt8))} (hR : smR R) (hS : smS S) (hN : N.length ≤ 1048576) (hL : L.length ≤ 1048576 ∧ ∀ l ∈ L, smS l) :
    ∃ b : Bool, Fun G 29 [.vs true [.d (.sl (R.map eR)), .d (.sl (S.map eS)), .d (.sl (N.map eN)), .d (.sl (L.map fun l => [.sl (l.map eS)]))]] (.bool b, []) := by
  obtain ⟨a, ha, ha1, ha2⟩ := f72 hR
  obtain ⟨c, hc, hc1, hc2⟩ := f73 hS.1 hS.2
  obtain ⟨r, h1, b, rfl⟩ := Fun.ex_of_run (G := G) (f := 29) (args := [.vs true [.d (.sl (R.map eR)), .d (.sl (S.map eS)), .d (.sl (N.map eN)), .d (.sl (L.map fun l => [.sl (l.map eS)]))]]) (Q := fun r => ∃ b : Bool, r = (.bool b, [])) (g := g29) (pf := pf29) rfl rfl rfl rfl (by
    simp (maxSteps := 1000000) (disch := first | assumption | ((try simp only [LEN, LEN2]); omega)) only [push_cast, sevalprocAttr, g29, pf29, b29, callC_eq ha, callC_eq hc]
    refine run_loop' (fun x : Nat × Int => [(1, T.one (.box [.d (.sl (R.map eR)), .d (.sl (S.map eS)), .d (.sl (N.map eN)), .d (.sl (L.map fun l => [.sl (l.map eS)]))])), (3, T.int .i64 x.2), (4, T.int .i64 x.1)]) (fun x => x.1 ≤ L.length ∧ 0 ≤ x.2 ∧ x.2 ≤ 1099511627776) (fun x => L.length - x.1) (0, a * 8 + c + N.length + L.length) rfl (by simp only; omega) (fun ⟨i, n⟩ hi => ?_)
    simp only at hi
    by_cases h1 : (i : Int) < L.length
    · have hi' : i < L.length := by omega
      have hs := hL.2 L[i] (List.getElem_mem hi')
      obtain ⟨m, hm, hm1, hm2⟩ := f73 hs.1 hs.2
      simp (maxSteps := 1000000) (disch := first | assumption | ((try simp only [LEN, LEN2]); omega)) only [push_cast, sevalprocAttr, g29, pf29, b29, h1]
      refine If.dec (fun h2 => ?_) (fun h2 => ?_)
      · simp (maxSteps := 1000000) (disch := first | assumption | ((try simp only [LEN, LEN2]); omega)) only [push_cast, sevalprocAttr, g29, pf29, b29, callC_eq hm]
        exact ⟨(i + 1, n + m), rfl, by simp only; omega, by simp only; omega⟩
      · simp (maxSteps := 1000000) (disch := first | assumption | ((try simp only [LEN, LEN2]); omega)) only [push_cast, sevalprocAttr, g29, pf29, b29]
        exact ⟨_, rfl⟩
    · simp (maxSteps := 1000000) (disch := first | assumption | ((try simp only [LEN, LEN2]); omega)) only [push_cast, sevalprocAttr, g29, pf29, b29, h1]
      exact ⟨_, rfl⟩)
  exact ⟨b, h1⟩
end Go.Mir.Tryz

set_option linter.unusedVariables false
set_option linter.unusedSimpArgs false
set_option maxRecDepth 100000
namespace Go.Mir.Tryz
open Go.Proofs Go.Mir.Q
set_option maxHeartbeats 2000000 in
theorem f95 {b : List UInt8} {n : Int} (hb : b.length ≤ 1000000000) : Fun G 95 [.one (.own 5 (b.map oB)), .int .i64 n] (.one (.own 5 ((b ++ be 4 n).map oB)), []) := by
  refine Fun.of_run (g := g95) (pf := pf95) rfl rfl rfl rfl ?_
  simp (maxSteps := 1000000) (disch := first | assumption | ((try simp only [LEN, LEN2]); omega)) only [push_cast, sevalprocAttr, g95, pf95, b95]
  simp only [be4, List.map_append, List.map_cons, List.map_nil, oB_byt]
theorem f95t {b : List UInt8} {n : Int} (hb : b.length ≤ 1000000000) : type_of% (tE (f95 (b := b) (n := n) hb)) := tE (f95 (b := b) (n := n) hb)
attribute [push_cast] f95t
theorem f98 {l : List (Write)} {f : FuncId} {caps : List T} {p : (Write) → Bool} (hl : l.length ≤ 1000000000) (hpm : G.pm f = [.ro] ∨ G.pm f = [.ro, .ro] ∨ G.pm f = [.ro, .ro, .ro] ∨ G.pm f = [.ro, .ro, .ro, .ro]) (hcap : capsData caps = true) (hf : ∀ w ∈ l, Fun G f (.vs true (oW w) :: caps) (.bool (p w), [])) :
    Fun G 98 [.one (.d (.sl (l.map eW))), .fn f caps] (.int .i64 (idx p l), []) := by
  refine Fun.of_run (g := g98) (pf := pf98) rfl rfl rfl rfl ?_
  have hcap2 := capsRo_data (caps := caps) hcap
  have hcap3 := rootsL_data (caps := caps) hcap
  simp (maxSteps := 1000000) (disch := first | assumption | ((try simp only [LEN, LEN2]); omega)) only [push_cast, sevalprocAttr, g98, pf98, b98, hcap2, hcap3, List.all_nil]
  refine run_loop' (fun i : Nat => [(0, T.one (.d (.sl (l.map eW)))), (1, T.fn f caps), (7, T.int .i64 l.length), (8, T.int .i64 i)]) (fun i => i ≤ l.length ∧ ∀ x ∈ l.take i, p x = false) (fun i => l.length - i) 0 rfl ⟨Nat.zero_le _, by simp⟩ (fun i hi => ?_)
  obtain ⟨hi, ht⟩ := hi
  simp (maxSteps := 1000000) (disch := first | assumption | ((try simp only [LEN, LEN2]); omega)) only [push_cast, sevalprocAttr, g98, pf98, b98, hcap2, hcap3, List.all_nil]
  refine If.dec (fun h => ?_) (fun h => ?_)
  · replace h : i < l.length := by omega
    have h2 := hf l[i] (List.getElem_mem h)
    try simp only [oW] at h2
    by_cases hp : p l[i] = true
    · rcases hpm with hpm | hpm | hpm | hpm <;> simp (maxSteps := 1000000) (disch := first | assumption | ((try simp only [LEN, LEN2]); omega)) only [push_cast, sevalprocAttr, g98, pf98, b98, hcap2, hcap3, List.all_nil, hpm, eW, callT_eq h2, hp] <;> rw [idx_some h ht hp]
    · rw [Bool.not_eq_true] at hp
      rcases hpm with hpm | hpm | hpm | hpm <;> simp (maxSteps := 1000000) (disch := first | assumption | ((try simp only [LEN, LEN2]); omega)) only [push_cast, sevalprocAttr, g98, pf98, b98, hcap2, hcap3, List.all_nil, hpm, eW, callT_eq h2, hp]
      all_goals
        refine ⟨i + 1, rfl, ⟨by omega, fun x hx => ?_⟩, by omega⟩
        rw [List.take_succ_eq_append_getElem h, List.mem_append, List.mem_singleton] at hx
        rcases hx with hx | rfl
        · exact ht x hx
        · exact hp
  · obtain rfl : i = l.length := by omega
    simp (maxSteps := 1000000) (disch := first | assumption | ((try simp only [LEN, LEN2]); omega)) only [push_cast, sevalprocAttr, g98, pf98, b98, hcap2, hcap3, List.all_nil]
    rw [idx_none (fun x hx => ht x (by rw [List.take_length]; exact hx))]
theorem f67 {l : List (Write)} {f : FuncId} {caps : List T} {p : (Write) → Bool} (hl : l.length ≤ 1000000000) (hpm : G.pm f = [.ro] ∨ G.pm f = [.ro, .ro] ∨ G.pm f = [.ro, .ro, .ro] ∨ G.pm f = [.ro, .ro, .ro, .ro]) (hcap : capsData caps = true) (hf : ∀ w ∈ l, Fun G f (.vs true (oW w) :: caps) (.bool (p w), [])) :
    Fun G 67 [.one (.d (.sl (l.map eW))), .fn f caps] (.bool (l.any p), []) := by
  refine Fun.of_run (g := g67) (pf := pf67) rfl rfl rfl rfl ?_
  have hcap2 := capsRo_data (caps := caps) hcap
  have hcap3 := rootsL_data (caps := caps) hcap
  simp (maxSteps := 1000000) (disch := first | assumption | ((try simp only [LEN, LEN2]); omega)) only [push_cast, sevalprocAttr, g67, pf67, b67, hcap2, hcap3, List.all_nil, callC_eq (f98 hl hpm hcap hf)]
  rw [← idx_nonneg]
set_option maxHeartbeats 2000000 in
theorem f63 {n : Int} {l : List Write} (hl : l.length ≤ 1000000000) : Fun G 63 [.vs true [.d (.sc (.int .i64 n)), .d (.sl (l.map eW))]] (.bool (okR ⟨n, l⟩), []) := by
  refine Fun.of_run (g := g63) (pf := pf63) rfl rfl rfl rfl ?_
  have h := f67 (l := l) (f := 92) (caps := []) (p := fun w => !okW w) hl (.inl rfl) rfl (fun w _ => f92)
  by_cases h1 : 1 ≤ n
  · by_cases h2 : n ≤ 1073741824
    · by_cases h3 : (l.length : Int) ≤ 64
      · simp (maxSteps := 1000000) (disch := first | assumption | ((try simp only [LEN, LEN2]); omega)) only [push_cast, sevalprocAttr, g63, pf63, b63, h1, h2, h3, callC_eq h]
        simp only [okR]
        have : l.length ≤ 64 := by omega
        simp [h1, h2, this, List.not_any_eq_all_not]
      · simp (maxSteps := 1000000) (disch := first | assumption | ((try simp only [LEN, LEN2]); omega)) only [push_cast, sevalprocAttr, g63, pf63, b63, h1, h2, h3]
        simp [okR, show ¬ l.length ≤ 64 by omega]
    · simp (maxSteps := 1000000) (disch := first | assumption | ((try simp only [LEN, LEN2]); omega)) only [push_cast, sevalprocAttr, g63, pf63, b63, h1, h2]
      simp [okR, h2]
  · simp (maxSteps := 1000000) (disch := first | assumption | ((try simp only [LEN, LEN2]); omega)) only [push_cast, sevalprocAttr, g63, pf63, b63, h1]
    simp [okR, h1]
theorem f63c {n : Int} {l : List Write} (hl : l.length ≤ 1000000000) : type_of% (cE (f63 (n := n) (l := l) hl)) := cE (f63 (n := n) (l := l) hl)
attribute [push_cast] f63c
set_option maxHeartbeats 2000000 in
theorem f62 {n : Int} {l : List Write} (hs : smW l) : Fun G 62 [.vs true [.d (.sc (.int .i64 n)), .d (.sl (l.map eW))]] (.bool (okR ⟨n, l⟩), []) := by
  refine Fun.of_run (g := g62) (pf := pf62) rfl rfl rfl rfl ?_
  obtain ⟨hl, hs⟩ := hs
  by_cases h1 : 1 ≤ n ∧ n ≤ 1073741824
  · by_cases h3 : 64 < (l.length : Int)
    · simp (maxSteps := 1000000) (disch := first | assumption | ((try simp only [LEN, LEN2]); omega)) only [push_cast, sevalprocAttr, g62, pf62, b62, h1, h3]
      simp [okR, show ¬ l.length ≤ 64 by omega]
    simp (maxSteps := 1000000) (disch := first | assumption | ((try simp only [LEN, LEN2]); omega)) only [push_cast, sevalprocAttr, g62, pf62, b62, h1, h3]
    refine run_loop' (fun i : Nat => [(1, T.one (.box [.d (.sc (.int .i64 n)), .d (.sl (l.map eW))])), (3, T.int .i64 i)]) (fun i => i ≤ l.length ∧ (l.take i).all okW = true) (fun i => l.length - i) 0 rfl ⟨Nat.zero_le _, by simp⟩ (fun i hi => ?_)
    obtain ⟨hi, ht⟩ := hi
    simp (maxSteps := 1000000) (disch := first | assumption | ((try simp only [LEN, LEN2]); omega)) only [push_cast, sevalprocAttr, g62, pf62, b62]
    refine If.dec (fun h => ?_) (fun h => ?_)
    · replace h : i < l.length := by omega
      have hk := (hs l[i] (List.getElem_mem h)).1
      simp (maxSteps := 1000000) (disch := first | assumption | ((try simp only [LEN, LEN2]); omega)) only [push_cast, sevalprocAttr, g62, pf62, b62, eW]
      by_cases hp : okW l[i] = true
      · simp (maxSteps := 1000000) (disch := first | assumption | ((try simp only [LEN, LEN2]); omega)) only [push_cast, sevalprocAttr, g62, pf62, b62, hp]
        refine ⟨i + 1, rfl, ⟨by omega, ?_⟩, by omega⟩
        rw [List.take_succ_eq_append_getElem h, List.all_append, ht, List.all_cons, hp]; rfl
      · have : okR ⟨n, l⟩ = false := by
          simp only [okR, Bool.and_eq_false_iff]
          exact .inr (by rw [← Bool.not_eq_true, List.all_eq_true]; exact fun hh => hp (hh _ (List.getElem_mem h)))
        rw [Bool.not_eq_true] at hp
        simp (maxSteps := 1000000) (disch := first | assumption | ((try simp only [LEN, LEN2]); omega)) only [push_cast, sevalprocAttr, g62, pf62, b62, hp, this]
    · obtain rfl : i = l.length := by omega
      rw [List.take_length] at ht
      have : okR ⟨n, l⟩ = true := by
        simp only [okR, ht, Bool.and_true, decide_eq_true_eq]; omega
      simp (maxSteps := 1000000) (disch := first | assumption | ((try simp only [LEN, LEN2]); omega)) only [push_cast, sevalprocAttr, g62, pf62, b62]
      rw [this]
  · have : okR ⟨n, l⟩ = false := by
      simp only [okR, Bool.and_eq_false_iff, decide_eq_false_iff_not]; left; omega
    simp (maxSteps := 1000000) (disch := first | assumption | ((try simp only [LEN, LEN2]); omega)) only [push_cast, sevalprocAttr, g62, pf62, b62, h1, this]
theorem f62c {n : Int} {l : List Write} (hs : smW l) : type_of% (cE (f62 (n := n) (l := l) hs)) := cE (f62 (n := n) (l := l) hs)
attribute [push_cast] f62c
set_option maxHeartbeats 2000000 in
theorem f94 {n : Int} {l : List Write} (hs : smW l) (h64 : l.length ≤ 64) : Fun G 94 [.vs true [.d (.sc (.int .i64 n)), .d (.sl (l.map eW))]] (.str (bs (spelt ⟨n, l⟩)), []) := by
  refine Fun.of_run (g := g94) (pf := pf94) rfl rfl rfl rfl ?_
  obtain ⟨hl, hs⟩ := hs
  have f0 := @f95t [] n (by simp)
  simp only [List.map_nil] at f0
  simp (maxSteps := 1000000) (disch := first | assumption | ((try simp only [LEN, LEN2]); omega)) only [push_cast, sevalprocAttr, g94, pf94, b94, f0]
  refine run_loop' (fun i : Nat => [(1, T.one (.box [.d (.sc (.int .i64 n)), .d (.sl (l.map eW))])), (3, T.one (.own 5 ((be 4 n ++ be 4 l.length ++ wrs (l.take i)).map oB))), (14, T.one (.d (.sl (l.map eW)))), (15, T.int .i64 l.length), (16, T.int .i64 i)]) (fun i => i ≤ l.length) (fun i => l.length - i) 0 ?_ (Nat.zero_le _) (fun i hi => ?_)
  · simp [wrs]
  have hw := wrs_len (l.take i) fun w hw => hs w (List.mem_of_mem_take hw)
  rw [List.length_take] at hw
  simp (maxSteps := 1000000) (disch := first | assumption | ((try simp only [LEN, LEN2]); omega)) only [push_cast, sevalprocAttr, g94, pf94, b94]
  refine If.dec (fun h => ?_) (fun h => ?_)
  · replace h : i < l.length := by omega
    have hk := hs l[i] (List.getElem_mem h)
    simp (maxSteps := 1000000) (disch := first | assumption | ((try simp only [LEN, LEN2]); omega)) only [push_cast, sevalprocAttr, g94, pf94, b94, eW]
    refine ⟨i + 1, ?_, by omega, by omega⟩
    rw [List.take_succ_eq_append_getElem h, wrs_snoc]
    have e1 : ∀ n : Int, be 1 n = [byt n] := fun n => by simp [be]
    have e2 : ∀ b : Bool, (if b then (1 : Int) else 0) % 256 = if b then 1 else 0 := fun b => by cases b <;> rfl
    simp [wr, e1, oB_byt, e2, List.map_append]
  · obtain rfl : i = l.length := by omega
    simp (maxSteps := 1000000) (disch := first | assumption | ((try simp only [LEN, LEN2]); omega)) only [push_cast, sevalprocAttr, g94, pf94, b94]
    simp [spelt]
theorem f94c {n : Int} {l : List Write} (hs : smW l) (h64 : l.length ≤ 64) : type_of% (cE (f94 (n := n) (l := l) hs h64)) := cE (f94 (n := n) (l := l) hs h64)
attribute [push_cast] f94c
end Go.Mir.Tryz

set_option linter.unusedVariables false
set_option linter.unusedSimpArgs false
set_option maxRecDepth 100000
namespace Go.Mir.Tryz
open Go.Proofs Go.Mir.Q
set_option maxHeartbeats 2000000 in
theorem f127 {s : List UInt8} {b : Bool} {n : Int} (h0 : 0 ≤ n) (hs : s.length ≤ 1000000000) : Fun G 127 [.one (.box [.d (.sc (.string (bs s))), .d (.sc (.bool b))]), .int .i64 n] (.str (bs (tk n.toNat (s, b)).1), [bR (tk n.toNat (s, b)).2]) := by
  refine Fun.of_run (g := g127) (pf := pf127) rfl rfl rfl rfl ?_
  cases b with
  | true =>
    simp (maxSteps := 1000000) (disch := first | assumption | ((try simp only [LEN, LEN2]); omega)) only [push_cast, sevalprocAttr, g127, pf127, b127]
    simp [tk]
  | false =>
    by_cases h : (s.length : Int) < n
    · simp (maxSteps := 1000000) (disch := first | assumption | ((try simp only [LEN, LEN2]); omega)) only [push_cast, sevalprocAttr, g127, pf127, b127, h]
      have : s.length < n.toNat := by omega
      simp [tk, this]
    · simp (maxSteps := 1000000) (disch := first | assumption | ((try simp only [LEN, LEN2]); omega)) only [push_cast, sevalprocAttr, g127, pf127, b127, h]
      have : ¬ s.length < n.toNat := by omega
      simp [tk, this]
theorem f127t {s : List UInt8} {b : Bool} {n : Int} (h0 : 0 ≤ n) (hs : s.length ≤ 1000000000) : type_of% (tE (f127 (s := s) (b := b) (n := n) h0 hs)) := tE (f127 (s := s) (b := b) (n := n) h0 hs)
attribute [push_cast] f127t
set_option maxHeartbeats 2000000 in
theorem f111 {s : List UInt8} {b : Bool} {n : Int} (h0 : 0 ≤ n) (h6 : n ≤ 6) (hs : s.length ≤ 1000000000) : Fun G 111 [.one (.box [.d (.sc (.string (bs s))), .d (.sc (.bool b))]), .int .i64 n] (.int .i64 (num (tk n.toNat (s, b)).1), [bR (tk n.toNat (s, b)).2]) := by
  refine Fun.of_run (g := g111) (pf := pf111) rfl rfl rfl rfl ?_
  simp (maxSteps := 1000000) (disch := first | assumption | ((try simp only [LEN, LEN2]); omega)) only [push_cast, sevalprocAttr, g111, pf111, b111]
  obtain ⟨t, ht⟩ : ∃ t, t = (tk n.toNat (s, b)).1 := ⟨_, rfl⟩
  have hl : t.length ≤ 6 := by have := (tk_len n.toNat (s, b)).1; rw [← ht] at this; omega
  rw [← ht]
  refine run_loop' (fun i : Nat => [(0, T.one (bR (tk n.toNat (s, b)).2)), (5, T.int .i64 (num (t.take i))), (11, T.one (.row (t.map oB))), (12, T.int .i64 t.length), (13, T.int .i64 i)]) (fun i => i ≤ t.length) (fun i => t.length - i) 0 rfl (Nat.zero_le _) (fun i hi => ?_)
  have hb := num_bd6 (t.take i) (by simp; omega)
  simp (maxSteps := 1000000) (disch := first | assumption | ((try simp only [LEN, LEN2]); omega)) only [push_cast, sevalprocAttr, g111, pf111, b111]
  refine If.dec (fun h => ?_) (fun h => ?_)
  · replace h : i < t.length := by omega
    have e := or_byte (a := num (t.take i)) (b := t[i].toNat) hb.1 (by omega) (by omega) (by have := t[i].toNat_lt; omega)
    simp (maxSteps := 1000000) (disch := first | assumption | ((try simp only [LEN, LEN2]); omega)) only [push_cast, sevalprocAttr, g111, pf111, b111, oB, e]
    refine ⟨i + 1, ?_, by omega, by omega⟩
    rw [List.take_succ_eq_append_getElem h, num_snoc]; rfl
  · obtain rfl : i = t.length := by omega
    simp (maxSteps := 1000000) (disch := first | assumption | ((try simp only [LEN, LEN2]); omega)) only [push_cast, sevalprocAttr, g111, pf111, b111]
    simp
theorem f111t {s : List UInt8} {b : Bool} {n : Int} (h0 : 0 ≤ n) (h6 : n ≤ 6) (hs : s.length ≤ 1000000000) : type_of% (tE (f111 (s := s) (b := b) (n := n) h0 h6 hs)) := tE (f111 (s := s) (b := b) (n := n) h0 h6 hs)
attribute [push_cast] f111t
set_option maxHeartbeats 2000000 in
theorem f112 {s : List UInt8} {b : Bool} (hs : s.length ≤ 1000000000) : Fun G 112 [.one (.box [.d (.sc (.string (bs s))), .d (.sc (.bool b))])] (.vs true (cW (rdW (s, b)).1.Table (rdW (s, b)).1.Key (rdW (s, b)).1.Value (rdW (s, b)).1.Gone), [bR (rdW (s, b)).2]) := by
  refine Fun.of_run (g := g112) (pf := pf112) rfl rfl rfl rfl ?_
  obtain ⟨⟨a1, s1, b1⟩, e1⟩ : ∃ x, tk 1 (s, b) = x := ⟨_, rfl⟩
  obtain ⟨⟨a2, s2, b2⟩, e2⟩ : ∃ x, tk 1 (s1, b1) = x := ⟨_, rfl⟩
  obtain ⟨c, ec⟩ : ∃ c, c = (b2 || decide (1 < num a2)) := ⟨_, rfl⟩
  obtain ⟨⟨a3, s3, b3⟩, e3⟩ : ∃ x, tk 1 (s2, c) = x := ⟨_, rfl⟩
  obtain ⟨⟨a4, s4, b4⟩, e4⟩ : ∃ x, tk (num a3).toNat (s3, b3) = x := ⟨_, rfl⟩
  obtain ⟨⟨a5, s5, b5⟩, e5⟩ : ∃ x, tk 1 (s4, b4) = x := ⟨_, rfl⟩
  obtain ⟨⟨a6, s6, b6⟩, e6⟩ : ∃ x, tk (num a5).toNat (s5, b5) = x := ⟨_, rfl⟩
  have hr : rdW (s, b) = (⟨num a1, a4, a6, decide (num a2 = 1)⟩, s6, b6) := by simp only [rdW, rdK, rdG, e1, e2, ← ec, e3, e4, e5, e6]
  have l1 := (tk_len 1 (s, b)).2
  have l2 := (tk_len 1 (s1, b1)).2
  have l3 := (tk_len 1 (s2, c)).2
  have l4 := (tk_len (num a3).toNat (s3, b3)).2
  have l5 := (tk_len 1 (s4, b4)).2
  have n3 := num_one 1 (by omega) (s2, c)
  have n5 := num_one 1 (by omega) (s4, b4)
  rw [e1] at l1; rw [e2] at l2; rw [e3] at l3 n3; rw [e4] at l4; rw [e5] at l5 n5
  simp only at l1 l2 l3 l4 l5 n3 n5
  obtain ⟨n3, n3'⟩ := n3
  obtain ⟨n5, n5'⟩ := n5
  rw [hr]
  cases b2 with
  | true =>
    obtain rfl : c = true := by simpa using ec
    simp (maxSteps := 1000000) (disch := first | assumption | ((try simp only [LEN, LEN2]); omega)) only [push_cast, sevalprocAttr, g112, pf112, b112, e1, e2, e3, e4, e5, e6]
  | false =>
    rw [Bool.false_or] at ec
    simp (maxSteps := 1000000) (disch := first | assumption | ((try simp only [LEN, LEN2]); omega)) only [push_cast, sevalprocAttr, g112, pf112, b112, e1, e2, ← ec, e3, e4, e5, e6]
theorem f112t {s : List UInt8} {b : Bool} (hs : s.length ≤ 1000000000) : type_of% (tE (f112 (s := s) (b := b) hs)) := tE (f112 (s := s) (b := b) hs)
attribute [push_cast] f112t
set_option maxHeartbeats 2000000 in
theorem f84 {s : List UInt8} (hs : s.length ≤ 100000000) : Fun G 84 [.str (bs s)] (.tup [(true, [.d (.sc (.int .i64 (rc s).Commit)), .own 78 ((rc s).Writes.map oW)]), (false, [.d (.sc (.int .i64 (if (take s).isSome then 0 else 10)))])], []) := by
  refine Fun.of_run (g := g84) (pf := pf84) rfl rfl rfl rfl ?_
  obtain ⟨⟨a1, s1, b1⟩, e1⟩ : ∃ x, tk 4 (s, false) = x := ⟨_, rfl⟩
  obtain ⟨⟨a2, s2, b2⟩, e2⟩ : ∃ x, tk 4 (s1, b1) = x := ⟨_, rfl⟩
  have l1 := (tk_len 4 (s, false)).2
  have l2 := (tk_len 4 (s1, b1)).2
  rw [e1] at l1; rw [e2] at l2
  simp only at l1 l2
  obtain ⟨ws, hws⟩ : ∃ x, x = rdWs (num a2).toNat (s2, b2) := ⟨_, rfl⟩
  have hrec : rdRec s = (⟨num a1, ws.1⟩, ws.2) := by simp only [rdRec, e1, e2, ← hws]
  have hn2 : 0 ≤ num a2 ∧ num a2 < 281474976710656 := num_bd6 a2 (by have := (tk_len 4 (s1, b1)).1; rw [e2] at this; simp only at this; omega)
  simp (maxSteps := 1000000) (disch := first | assumption | ((try simp only [LEN, LEN2]); omega)) only [push_cast, sevalprocAttr, g84, pf84, b84, e1, e2]
  refine run_loop' (fun x : Nat × List Write × Rdr => [(2, T.one (.box [.d (.sc (.int .i64 0)), .own 78 []])), (4, T.one (bR x.2.2)), (5, T.one (.box [.d (.sc (.int .i64 (num a1))), .own 78 (x.2.1.map oW)])), (6, T.int .i64 x.1)])
    (fun x => x.1 < 281474976710656 ∧ (x.2.1 ++ (rdWs x.1 x.2.2).1, (rdWs x.1 x.2.2).2) = ws ∧ x.2.2.1.length ≤ s.length ∧ (x.2.2.2 = false → x.2.1.length + x.2.2.1.length ≤ s.length) ∧ x.2.1.length ≤ s.length + 1)
    (fun x => x.1) ((num a2).toNat, [], (s2, b2)) ?_ ?_ (fun ⟨n, l, s3, b3⟩ hi => ?_)
  · simp only [Int.toNat_of_nonneg hn2.1]; rfl
  · simp only [List.nil_append, hws]; simp; omega
  obtain ⟨hn, hw, hs3, hl, hl2⟩ := hi
  simp only at hn hw hs3 hl hl2
  by_cases hx : 0 < n ∧ b3 = false
  · obtain ⟨m, rfl⟩ : ∃ m, n = m + 1 := ⟨n - 1, by omega⟩
    obtain ⟨h0, rfl⟩ := hx
    have hl := hl rfl
    have h1 : (0 : Int) < (m : Int) + 1 := by omega
    have g1 := @rdW_good (s3, false)
    have g2 := rdW_len (s3, false)
    have e3 : (m : Int) + 1 - 1 = m := by omega
    simp only at g1 g2
    simp (maxSteps := 1000000) (disch := first | assumption | ((try simp only [LEN, LEN2]); omega)) only [push_cast, sevalprocAttr, g84, pf84, b84, h1, e3]
    refine ⟨(m, l ++ [(rdW (s3, false)).1], (rdW (s3, false)).2), ?_, ⟨by simp only; omega, ?_, by simp only; omega, fun hf => ?_, by simp only [List.length_append, List.length_singleton]; omega⟩, by simp only; omega⟩
    · simp only [List.map_append, List.map_cons, List.map_nil, oW]
    · rw [← hw]; simp [rdWs]
    · have := g1 hf; simp only [List.length_append, List.length_singleton]; omega
  · have hw' : ws = (l, s3, b3) := by
      rw [← hw]
      cases n with
      | zero => simp [rdWs]
      | succ n =>
        have : b3 = true := by
          cases b3 with
          | true => rfl
          | false => exact (hx ⟨by omega, rfl⟩).elim
        subst this; simp [rdWs]
    have hrec' : rdRec s = (⟨num a1, l⟩, s3, b3) := by rw [hrec, hw']
    have ex : (decide (0 < (n : Int)) = false) ∨ (decide (0 < (n : Int)) = true ∧ b3 = true) := by
      by_cases h : 0 < n
      · right
        refine ⟨by simpa using h, ?_⟩
        cases b3 with
        | true => rfl
        | false => exact (hx ⟨h, rfl⟩).elim
      · left; simp; omega
    by_cases hb : b3 = true
    · have ht : take s = none := by simp [take, hrec', hb]
      subst hb
      rcases ex with h | ⟨h, _⟩ <;> simp (maxSteps := 1000000) (disch := first | assumption | ((try simp only [LEN, LEN2]); omega)) only [push_cast, sevalprocAttr, g84, pf84, b84, h, ht, rc] <;> try rfl
    · rw [Bool.not_eq_true] at hb
      subst hb
      have h : decide (0 < (n : Int)) = false := by rcases ex with h | ⟨_, h⟩; exact h; cases h
      by_cases h3 : s3 = []
      · by_cases hr : okR ⟨num a1, l⟩ = true
        · have ht : take s = some ⟨num a1, l⟩ := by simp [take, hrec', h3, hr]
          simp (maxSteps := 1000000) (disch := first | assumption | ((try simp only [LEN, LEN2]); omega)) only [push_cast, sevalprocAttr, g84, pf84, b84, h, h3, hr, ht, rc]
          try rfl
        · rw [Bool.not_eq_true] at hr
          have ht : take s = none := by simp [take, hrec', h3, hr]
          simp (maxSteps := 1000000) (disch := first | assumption | ((try simp only [LEN, LEN2]); omega)) only [push_cast, sevalprocAttr, g84, pf84, b84, h, h3, hr, ht, rc]
          try rfl
      · have ht : take s = none := by simp [take, hrec', h3]
        simp (maxSteps := 1000000) (disch := first | assumption | ((try simp only [LEN, LEN2]); omega)) only [push_cast, sevalprocAttr, g84, pf84, b84, h, h3, ht, rc]
        try rfl
theorem f84c {s : List UInt8} (hs : s.length ≤ 100000000) : type_of% (cE (f84 (s := s) hs)) := cE (f84 (s := s) hs)
attribute [push_cast] f84c
theorem f84t {s : List UInt8} (hs : s.length ≤ 100000000) : type_of% (tE (f84 (s := s) hs)) := tE (f84 (s := s) hs)
attribute [push_cast] f84t
end Go.Mir.Tryz

set_option linter.unusedVariables false
set_option linter.unusedSimpArgs false
set_option maxRecDepth 100000
namespace Go.Mir.Tryz
open Go.Proofs Go.Mir.Q
end Go.Mir.Tryz

set_option linter.unusedVariables false
set_option linter.unusedSimpArgs false
set_option maxRecDepth 100000
namespace Go.Mir.Tryz
open Go.Proofs Go.Mir.Q
theorem f97 {c : Int} (h0 : 0 ≤ c) (h1 : c ≤ 20) : Fun G 97 [.str (bs [0]), .int .i64 c] (.str (bs (List.replicate c.toNat 0)), []) := by
  refine ⟨1, ?_⟩
  show repGiven.2 _ = _
  simp only [repGiven]
  have hs : (bs [0]).size = 1 := rfl
  refine (if_pos ⟨h0, by rw [hs]; omega, by omega⟩).trans ?_
  have e : ∀ k : Nat, (List.replicate k (bs [0]).data.toList).flatten = List.replicate k 0 := by
    intro k
    induction k with
    | zero => rfl
    | succ k ih => rw [List.replicate_succ, List.flatten_cons, ih, List.replicate_succ]; rfl
  rw [e]
set_option maxHeartbeats 2000000 in
theorem f85 {a b : List (List UInt8)} (ha : a.length ≤ 1000000000) (hb : b.length ≤ 1000000000) : Fun G 85 [.one (.d (.sl (a.map eS))), .one (.d (.sl (b.map eS)))] (.bool (decide (a = b)), []) := by
  refine Fun.of_run (g := g85) (pf := pf85) rfl rfl rfl rfl ?_
  simp (maxSteps := 1000000) (disch := first | assumption | ((try simp only [LEN, LEN2]); omega)) only [push_cast, sevalprocAttr, g85, pf85, b85]
  refine If.dec (fun h => ?_) (fun h => ?_)
  · have : a ≠ b := fun e => h (by rw [e])
    simp (maxSteps := 1000000) (disch := first | assumption | ((try simp only [LEN, LEN2]); omega)) only [push_cast, sevalprocAttr, g85, pf85, b85]
    simp [this]
  simp (maxSteps := 1000000) (disch := first | assumption | ((try simp only [LEN, LEN2]); omega)) only [push_cast, sevalprocAttr, g85, pf85, b85]
  have hl : a.length = b.length := by omega
  refine run_loop' (fun i : Nat => [(0, T.one (.d (.sl (a.map eS)))), (1, T.one (.d (.sl (b.map eS)))), (12, T.int .i64 a.length), (13, T.int .i64 i)]) (fun i => i ≤ a.length ∧ a.take i = b.take i) (fun i => a.length - i) 0 rfl ⟨Nat.zero_le _, by simp⟩ (fun i hi => ?_)
  obtain ⟨hi, ht⟩ := hi
  simp (maxSteps := 1000000) (disch := first | assumption | ((try simp only [LEN, LEN2]); omega)) only [push_cast, sevalprocAttr, g85, pf85, b85]
  refine If.dec (fun h => ?_) (fun h => ?_)
  · replace h : i < a.length := by omega
    have h' : i < b.length := by omega
    by_cases he : a[i] = b[i]
    · simp (maxSteps := 1000000) (disch := first | assumption | ((try simp only [LEN, LEN2]); omega)) only [push_cast, sevalprocAttr, g85, pf85, b85, eS, he]
      refine ⟨i + 1, rfl, ⟨by omega, ?_⟩, by omega⟩
      rw [List.take_succ_eq_append_getElem h, List.take_succ_eq_append_getElem h', ht, he]
    · have hne : a ≠ b := fun e => he (by subst e; rfl)
      simp (maxSteps := 1000000) (disch := first | assumption | ((try simp only [LEN, LEN2]); omega)) only [push_cast, sevalprocAttr, g85, pf85, b85, eS, he]
      simp [hne]
  · obtain rfl : i = a.length := by omega
    have : a = b := by rw [List.take_length] at ht; rw [ht, hl, List.take_length]
    simp (maxSteps := 1000000) (disch := first | assumption | ((try simp only [LEN, LEN2]); omega)) only [push_cast, sevalprocAttr, g85, pf85, b85]
    simp [this]
theorem f85c {a b : List (List UInt8)} (ha : a.length ≤ 1000000000) (hb : b.length ≤ 1000000000) : type_of% (cE (f85 (a := a) (b := b) ha hb)) := cE (f85 (a := a) (b := b) ha hb)
attribute [push_cast] f85c
theorem foldB (x p : List UInt8) (a c d : Int) (b : Bool) : x.map oB ++ [[V.d (.sc (.int .u8 (a % 256)))], [V.d (.sc (.int .u8 (c % 256)))], [V.d (.sc (.int .u8 (if b = true then 1 else 0)))], [V.d (.sc (.int .u8 (d % 256)))]] ++ p.map oB = (x ++ [byt a, byt c, if b then 1 else 0, byt d] ++ p).map oB := by
  cases b <;> simp [oB_byt] <;> rfl
theorem foldS1 (l : List (List UInt8)) (x : List UInt8) : l.map oS ++ [[V.d (.sc (.string (bs x)))]] = (l ++ [x]).map oS := by simp [oS]
set_option maxHeartbeats 2000000 in
theorem f64 {n run num' : Int} {l : List Write} (hs : smW l) (hr : okR ⟨n, l⟩ = true) : Fun G 64 [.vs true [.d (.sc (.int .i64 n)), .d (.sl (l.map eW))], .int .i64 run, .int .i64 num'] (.one (.own 9 ((cuts run num' (spelt ⟨n, l⟩)).map oS)), []) := by
  refine Fun.of_run (g := g64) (pf := pf64) rfl rfl rfl rfl ?_
  have h64 : l.length ≤ 64 := by simp [okR] at hr; omega
  simp (maxSteps := 1000000) (disch := first | assumption | ((try simp only [LEN, LEN2]); omega)) only [push_cast, sevalprocAttr, g64, pf64, b64]
  obtain ⟨s, hsd⟩ : ∃ s, spelt ⟨n, l⟩ = s := ⟨_, rfl⟩
  obtain ⟨hl1, hl2⟩ := okR_len hr
  obtain ⟨hc1, hc2⟩ := cnt_pos hr
  rw [hsd] at hl1 hl2 hc1 hc2 ⊢
  refine run_loop' (fun i : Nat => [(1, T.int .i64 run), (2, T.int .i64 num'), (6, T.one (.own 9 ((cutK run num' s i).map oS))), (7, T.str (bs (s.drop (20 * i)))), (8, T.int .i64 i)]) (fun i => i ≤ cnt s) (fun i => cnt s - i) 0 rfl (Nat.zero_le _) (fun i hi => ?_)
  have hkl : (cutK run num' s i).length = i := by simp [cutK]
  have hf := @f95t [] run (by simp)
  simp only [List.map_nil] at hf
  by_cases h : i < cnt s
  · have hdr : (s.drop (20 * i)).drop (piece s i).length = s.drop (20 * (i + 1)) := by
      rw [List.drop_drop, piece, List.length_take, List.length_drop]
      by_cases h2 : 20 ≤ s.length - 20 * i
      · rw [Nat.min_eq_left h2]; rfl
      · rw [List.drop_of_length_le (by omega), List.drop_of_length_le (by omega)]
    have hb : decide (((piece s i).length : Int) = (s.drop (20 * i)).length) = decide (i + 1 = cnt s) := by
      apply decide_eq_decide.2
      unfold cnt at *
      simp only [piece, List.length_take, List.length_drop]
      omega
    have hm : (if ((s.drop (20 * i)).length : Int) < 20 then ((s.drop (20 * i)).length : Int) else 20) = (piece s i).length := by
      simp only [piece, List.length_take]
      split <;> omega
    have hp := piece_len s i
    have htk : (s.drop (20 * i)).take (piece s i).length = piece s i := by
      simp only [piece, List.length_take]
      by_cases h2 : 20 ≤ (s.drop (20 * i)).length
      · rw [Nat.min_eq_left h2]
      · rw [Nat.min_eq_right (by omega), List.take_of_length_le (Nat.le_refl _), List.take_of_length_le (by omega)]
    have hpd : (piece s i).length ≤ (s.drop (20 * i)).length := by simp only [piece, List.length_take]; omega
    have hdl : (s.drop (20 * i)).length ≤ 3000 := by rw [List.length_drop]; omega
    have hne : s.drop (20 * i) ≠ [] := by
      intro he
      have := congrArg List.length he
      simp [cnt] at this h
      omega
    have hr64 := @f97 (20 - (piece s i).length) (by omega) (by omega)
    have e20 : (20 - ((piece s i).length : Int)).toNat = 20 - (piece s i).length := by omega
    obtain ⟨d, hd⟩ : ∃ d, s.drop (20 * i) = d := ⟨_, rfl⟩
    obtain ⟨p, hpp⟩ : ∃ p, piece s i = p := ⟨_, rfl⟩
    rw [hd, hpp] at hdr hb hm htk hpd
    rw [hd] at hdl hne ⊢
    rw [hpp] at hp hr64 e20
    simp (maxSteps := 1000000) (disch := first | assumption | ((try simp only [LEN, LEN2]); omega)) only [push_cast, sevalprocAttr, g64, pf64, b64, hne, hf, hm, hb, htk, foldB]
    simp (maxSteps := 1000000) (disch := first | assumption | ((try simp only [LEN, LEN2]); omega)) only [push_cast, sevalprocAttr, g64, pf64, b64, callC_eq hr64, foldS1, hdr, e20]
    refine ⟨i + 1, ?_, by omega, by omega⟩
    rw [cutK_succ, hpp]
    simp [sec, hdr]
  · obtain rfl : i = cnt s := by omega
    have hz : s.drop (20 * cnt s) = [] := List.drop_of_length_le (by unfold cnt; omega)
    have hz0 : ((cnt s : Int) = 0) = False := by simp; omega
    simp (maxSteps := 1000000) (disch := first | assumption | ((try simp only [LEN, LEN2]); omega)) only [push_cast, sevalprocAttr, g64, pf64, b64, hz, hz0]
    rfl
theorem f64c {n run num' : Int} {l : List Write} (hs : smW l) (hr : okR ⟨n, l⟩ = true) : type_of% (cE (f64 (n := n) (run := run) (num' := num') (l := l) hs hr)) := cE (f64 (n := n) (run := run) (num' := num') (l := l) hs hr)
attribute [push_cast] f64c
set_option maxHeartbeats 2000000 in
theorem f42 {run nn : Int} {L : List (List UInt8)} (hL : L.length ≤ 4000000) : Fun G 42 [.one (.d (.sl (L.map eS))), .int .i64 run, .int .i64 nn] (.tup [(true, [.d (.sc (.int .i64 (whole1 run nn L).1.Commit)), .own 78 ((whole1 run nn L).1.Writes.map oW)]), (false, [.d (.sc (.int .i64 (whole1 run nn L).2))])], []) := by
  refine Fun.of_run (g := g42) (pf := pf42) rfl rfl rfl rfl ?_
  simp (maxSteps := 1000000) (disch := first | assumption | ((try simp only [LEN, LEN2]); omega)) only [push_cast, sevalprocAttr, g42, pf42, b42]
  obtain ⟨W, hW⟩ : ∃ W, whole1 run nn L = W := ⟨_, rfl⟩
  rw [hW]
  refine run_loop' (fun x : Nat × List UInt8 => [(0, T.one (.d (.sl (L.map eS)))), (1, T.int .i64 run), (2, T.int .i64 nn), (6, T.one (.box [.d (.sc (.int .i64 0)), .own 78 []])), (8, T.str (bs x.2)), (14, T.one (.d (.sl (L.map eS)))), (15, T.int .i64 L.length), (16, T.int .i64 x.1)])
    (fun x => x.1 ≤ L.length ∧ x.2.length ≤ 20 * x.1 ∧ W = whole run nn L (L.drop x.1) x.1 x.2) (fun x => L.length - x.1) (0, []) rfl ⟨Nat.zero_le _, by simp, hW.symm⟩ (fun ⟨i, b⟩ hi => ?_)
  obtain ⟨hi, hb, hw⟩ := hi
  simp only at hi hb hw
  by_cases h : (i : Int) < L.length
  · have hi' : i < L.length := by omega
    rw [List.drop_eq_getElem_cons hi', whole] at hw
    obtain ⟨s, hs⟩ : ∃ s, L[i] = s := ⟨_, rfl⟩
    rw [hs] at hw
    by_cases h32 : s.length = 32
    · rw [if_neg (by omega)] at hw
      obtain ⟨k, hk⟩ : ∃ k, s[11] = k := ⟨_, rfl⟩
      obtain ⟨z, hz⟩ : ∃ z, s[10] = z := ⟨_, rfl⟩
      have hk' : s[11]?.getD 0 = k := by rw [List.getElem?_eq_getElem (by omega), hk]; rfl
      have hz' : s[10]?.getD 0 = z := by rw [List.getElem?_eq_getElem (by omega), hz]; rfl
      rw [hk', hz'] at hw
      by_cases h20 : 20 < k.toNat
      · rw [if_pos h20] at hw
        have hI : ((20 : Int) < k.toNat) = True := by simp; omega
        simp (maxSteps := 1000000) (disch := first | assumption | ((try simp only [LEN, LEN2]); omega)) only [push_cast, sevalprocAttr, g42, pf42, b42, h, eS, hs, h32, hk, hI, hw]
      · rw [if_neg h20] at hw
        have hI : ((20 : Int) < k.toNat) = False := by simp; omega
        have hk20 : (12 + (k.toNat : Int)).toNat = 12 + k.toNat := by omega
        obtain ⟨p, hp⟩ : ∃ p, (s.drop 12).take k.toNat = p := ⟨_, rfl⟩
        have hpl : p.length ≤ 20 := by rw [← hp, List.length_take]; omega
        rw [hp] at hw
        have hp2 : (s.take (12 + k.toNat)).drop 12 = p := by rw [← hp, List.drop_take]; congr 1; omega
        by_cases h0 : z = 0
        · rw [if_pos h0] at hw
          have hz0 : ((z.toNat : Int) = 0) = True := by subst h0; simp
          simp (maxSteps := 1000000) (disch := first | assumption | ((try simp only [LEN, LEN2]); omega)) only [push_cast, sevalprocAttr, g42, pf42, b42, h, eS, hs, h32, hk, hI, hz, hz0, hk20, hp2]
          exact ⟨(i + 1, b ++ p), rfl, ⟨by simp only; omega, by simp only [List.length_append]; omega, hw⟩, by simp only; omega⟩
        · have hz0 : ((z.toNat : Int) = 0) = False := by
            simp only [eq_iff_iff, iff_false]
            intro hz0
            exact h0 (UInt8.toNat_inj.1 (by simpa using hz0))
          rw [if_neg h0] at hw
          have hbl : (b ++ p).length ≤ 100000000 := by rw [List.length_append]; omega
          cases ht : take (b ++ p) with
          | none =>
            rw [ht] at hw
            simp (maxSteps := 1000000) (disch := first | assumption | ((try simp only [LEN, LEN2]); omega)) only [push_cast, sevalprocAttr, g42, pf42, b42, h, eS, hs, h32, hk, hI, hz, hz0, hk20, hp2, ht, hw]
          | some r =>
            rw [ht] at hw
            simp only at hw
            have hr := take_ok ht
            have hws := okR_smW hr
            have hcl : (cuts run nn (spelt r)).length ≤ 1000000000 := by have := (cnt_pos hr).2; rw [cuts_len]; omega
            have htl : (L.take (i + 1)).length ≤ 1000000000 := by rw [List.length_take]; omega
            have ei : ((i : Int) + 1).toNat = i + 1 := by omega
            obtain ⟨c, ws⟩ := r
            simp only at hws
            by_cases hc : cuts run nn (spelt ⟨c, ws⟩) = L.take (i + 1)
            · rw [if_pos hc] at hw
              simp (maxSteps := 1000000) (disch := first | assumption | ((try simp only [LEN, LEN2]); omega)) only [push_cast, sevalprocAttr, g42, pf42, b42, h, hs, h32, hk, hI, hz, hz0, hk20, hp2, ht, hw, rc, eS, ei, hc]
              done
            · rw [if_neg hc] at hw
              simp (maxSteps := 1000000) (disch := first | assumption | ((try simp only [LEN, LEN2]); omega)) only [push_cast, sevalprocAttr, g42, pf42, b42, h, hs, h32, hk, hI, hz, hz0, hk20, hp2, ht, hw, rc, eS, ei, hc]
              done
    · rw [if_pos h32] at hw
      have hn : ((s.length : Int) = 32) = False := by simp; omega
      simp (maxSteps := 1000000) (disch := first | assumption | ((try simp only [LEN, LEN2]); omega)) only [push_cast, sevalprocAttr, g42, pf42, b42, h, eS, hs, hn, hw]
  · obtain rfl : i = L.length := by omega
    rw [List.drop_length, whole] at hw
    simp (maxSteps := 1000000) (disch := first | assumption | ((try simp only [LEN, LEN2]); omega)) only [push_cast, sevalprocAttr, g42, pf42, b42, h, hw]
theorem f42c {run nn : Int} {L : List (List UInt8)} (hL : L.length ≤ 4000000) : type_of% (cE (f42 (run := run) (nn := nn) (L := L) hL)) := cE (f42 (run := run) (nn := nn) (L := L) hL)
attribute [push_cast] f42c
theorem f42t {run nn : Int} {L : List (List UInt8)} (hL : L.length ≤ 4000000) : type_of% (tE (f42 (run := run) (nn := nn) (L := L) hL)) := tE (f42 (run := run) (nn := nn) (L := L) hL)
attribute [push_cast] f42t
theorem toDs_oR (c : Int) (ws : List Write) : toDs [.d (.sc (.int .i64 c)), .own 78 (ws.map oW)] = some [.sc (.int .i64 c), .sl (ws.map eW)] := by simp [toDs, V.toD, toDss_oW]
def oR (r : Record) : List V := [.d (.sc (.int .i64 r.Commit)), .own 78 (r.Writes.map oW)]
theorem toDss_oR (l : List Record) : toDss (l.map oR) = some (l.map eR) := toDss_map (fun _ => toDs_oR _ _) l
theorem noSlss_oR (l : List Record) : noSlss (l.map oR) = true := noSlss_map (fun x => by simp [oR, noSls, V.noSl, noSlss_oW]) l
attribute [push_cast] toDss_oR noSlss_oR
set_option maxHeartbeats 2000000 in
theorem f44 {run n0 : Int} {L : List (List UInt8)} (hL : L.length ≤ 4000000) (h0 : okN n0) : Fun G 44 [.one (.d (.sl (L.map eS))), .int .i64 run, .int .i64 n0] (.tup [(false, [.own 70 ((rd run n0 L).1.map oR)]), (false, [.d (.sc (.int .i64 (rd run n0 L).2))])], []) := by
  refine Fun.of_run (g := g44) (pf := pf44) rfl rfl rfl rfl ?_
  simp (maxSteps := 1000000) (disch := first | assumption | ((try simp only [LEN, LEN2]); omega)) only [push_cast, sevalprocAttr, g44, pf44, b44]
  obtain ⟨W, hW⟩ : ∃ W, rd run n0 L = W := ⟨_, rfl⟩
  rw [hW]
  refine run_loop' (fun x : Nat × Int × Nat × List Record => [(0, T.one (.d (.sl (L.map eS)))), (1, T.int .i64 run), (2, T.int .i64 x.2.1), (6, T.one (.own 70 (x.2.2.2.map oR))), (7, T.int .i64 x.2.2.1)])
    (fun x => x.2.2.1 ≤ L.length ∧ L.length - x.2.2.1 < x.1 ∧ x.2.2.2.length ≤ x.2.2.1 ∧ okN x.2.1 ∧ W = (x.2.2.2 ++ (runF run L x.1 x.2.1 x.2.2.1).1, (runF run L x.1 x.2.1 x.2.2.1).2)) (fun x => x.1) (L.length + 1, n0, 0, []) rfl ⟨Nat.zero_le _, by simp only; omega, Nat.zero_le _, h0, hW.symm⟩ (fun ⟨j, n, m, x⟩ hi => ?_)
  obtain ⟨hm, hj, hx, hn, hw⟩ := hi
  simp only at hm hj hx hn hw
  obtain ⟨j, rfl⟩ : ∃ k, j = k + 1 := ⟨j - 1, by omega⟩
  obtain ⟨hn1, hn2⟩ := hn
  rw [runF] at hw
  by_cases h : n ≤ 1073741824
  · rw [if_neg (by omega)] at hw
    have hdl : (L.drop m).length ≤ 4000000 := by rw [List.length_drop]; omega
    have hle := whole1_le run n (L.drop m)
    rw [List.length_drop] at hle
    obtain ⟨⟨⟨c, ws⟩, k⟩, hk⟩ : ∃ x, whole1 run n (L.drop m) = x := ⟨_, rfl⟩
    rw [hk] at hw hle
    simp only at hw hle
    by_cases hk0 : k = 0
    · rw [if_pos hk0] at hw
      subst hk0
      simp (maxSteps := 1000000) (disch := first | assumption | ((try simp only [LEN, LEN2]); omega)) only [push_cast, sevalprocAttr, g44, pf44, b44, h, hk, hw, List.take_length]
      try rfl
      done
    · rw [if_neg hk0] at hw
      have hk1 : ((k : Int) = 0) = False := by simp; omega
      simp (maxSteps := 1000000) (disch := first | assumption | ((try simp only [LEN, LEN2]); omega)) only [push_cast, sevalprocAttr, g44, pf44, b44, h, hk, hk1, List.take_length]
      exact ⟨(j, n + 1, m + k, x ++ [⟨c, ws⟩]), by simp [oR], ⟨by simp only; omega, by simp only; omega, by simp only [List.length_append, List.length_singleton]; omega, ⟨by simp only; omega, by simp only; omega⟩, by rw [hw]; simp⟩, by simp only; omega⟩
  · rw [if_pos (by omega)] at hw
    simp (maxSteps := 1000000) (disch := first | assumption | ((try simp only [LEN, LEN2]); omega)) only [push_cast, sevalprocAttr, g44, pf44, b44, h, hw]
    done
theorem f44c {run n0 : Int} {L : List (List UInt8)} (hL : L.length ≤ 4000000) (h0 : okN n0) : type_of% (cE (f44 (run := run) (n0 := n0) (L := L) hL h0)) := cE (f44 (run := run) (n0 := n0) (L := L) hL h0)
attribute [push_cast] f44c
end Go.Mir.Tryz

set_option linter.unusedVariables false
set_option linter.unusedSimpArgs false
set_option maxRecDepth 100000
namespace Go.Mir.Tryz
open Go.Proofs Go.Mir.Q
theorem f109 {l : List (List UInt8)} {f : FuncId} {caps : List T} {p : (List UInt8) → Bool} (hl : l.length ≤ 1000000000) (hpm : G.pm f = [.ro] ∨ G.pm f = [.ro, .ro] ∨ G.pm f = [.ro, .ro, .ro] ∨ G.pm f = [.ro, .ro, .ro, .ro]) (hcap : capsData caps = true) (hf : ∀ w ∈ l, Fun G f (.str (bs w) :: caps) (.bool (p w), [])) :
    Fun G 109 [.one (.d (.sl (l.map eS))), .fn f caps] (.int .i64 (idx p l), []) := by
  refine Fun.of_run (g := g109) (pf := pf109) rfl rfl rfl rfl ?_
  have hcap2 := capsRo_data (caps := caps) hcap
  have hcap3 := rootsL_data (caps := caps) hcap
  simp (maxSteps := 1000000) (disch := first | assumption | ((try simp only [LEN, LEN2]); omega)) only [push_cast, sevalprocAttr, g109, pf109, b109, hcap2, hcap3, List.all_nil]
  refine run_loop' (fun i : Nat => [(0, T.one (.d (.sl (l.map eS)))), (1, T.fn f caps), (7, T.int .i64 l.length), (8, T.int .i64 i)]) (fun i => i ≤ l.length ∧ ∀ x ∈ l.take i, p x = false) (fun i => l.length - i) 0 rfl ⟨Nat.zero_le _, by simp⟩ (fun i hi => ?_)
  obtain ⟨hi, ht⟩ := hi
  simp (maxSteps := 1000000) (disch := first | assumption | ((try simp only [LEN, LEN2]); omega)) only [push_cast, sevalprocAttr, g109, pf109, b109, hcap2, hcap3, List.all_nil]
  refine If.dec (fun h => ?_) (fun h => ?_)
  · replace h : i < l.length := by omega
    have h2 := hf l[i] (List.getElem_mem h)
    skip
    by_cases hp : p l[i] = true
    · rcases hpm with hpm | hpm | hpm | hpm <;> simp (maxSteps := 1000000) (disch := first | assumption | ((try simp only [LEN, LEN2]); omega)) only [push_cast, sevalprocAttr, g109, pf109, b109, hcap2, hcap3, List.all_nil, hpm, eS, callT_eq h2, hp] <;> rw [idx_some h ht hp]
    · rw [Bool.not_eq_true] at hp
      rcases hpm with hpm | hpm | hpm | hpm <;> simp (maxSteps := 1000000) (disch := first | assumption | ((try simp only [LEN, LEN2]); omega)) only [push_cast, sevalprocAttr, g109, pf109, b109, hcap2, hcap3, List.all_nil, hpm, eS, callT_eq h2, hp]
      all_goals
        refine ⟨i + 1, rfl, ⟨by omega, fun x hx => ?_⟩, by omega⟩
        rw [List.take_succ_eq_append_getElem h, List.mem_append, List.mem_singleton] at hx
        rcases hx with hx | rfl
        · exact ht x hx
        · exact hp
  · obtain rfl : i = l.length := by omega
    simp (maxSteps := 1000000) (disch := first | assumption | ((try simp only [LEN, LEN2]); omega)) only [push_cast, sevalprocAttr, g109, pf109, b109, hcap2, hcap3, List.all_nil]
    rw [idx_none (fun x hx => ht x (by rw [List.take_length]; exact hx))]
theorem f78 {l : List (List UInt8)} {f : FuncId} {caps : List T} {p : (List UInt8) → Bool} (hl : l.length ≤ 1000000000) (hpm : G.pm f = [.ro] ∨ G.pm f = [.ro, .ro] ∨ G.pm f = [.ro, .ro, .ro] ∨ G.pm f = [.ro, .ro, .ro, .ro]) (hcap : capsData caps = true) (hf : ∀ w ∈ l, Fun G f (.str (bs w) :: caps) (.bool (p w), [])) :
    Fun G 78 [.one (.d (.sl (l.map eS))), .fn f caps] (.bool (l.any p), []) := by
  refine Fun.of_run (g := g78) (pf := pf78) rfl rfl rfl rfl ?_
  have hcap2 := capsRo_data (caps := caps) hcap
  have hcap3 := rootsL_data (caps := caps) hcap
  simp (maxSteps := 1000000) (disch := first | assumption | ((try simp only [LEN, LEN2]); omega)) only [push_cast, sevalprocAttr, g78, pf78, b78, hcap2, hcap3, List.all_nil, callC_eq (f109 hl hpm hcap hf)]
  rw [← idx_nonneg]
theorem f110 {l : List (Put)} {f : FuncId} {caps : List T} {p : (Put) → Bool} (hl : l.length ≤ 1000000000) (hpm : G.pm f = [.ro] ∨ G.pm f = [.ro, .ro] ∨ G.pm f = [.ro, .ro, .ro] ∨ G.pm f = [.ro, .ro, .ro, .ro]) (hcap : capsData caps = true) (hf : ∀ w ∈ l, Fun G f (.vs true (oP w) :: caps) (.bool (p w), [])) :
    Fun G 110 [.one (.d (.sl (l.map eP))), .fn f caps] (.int .i64 (idx p l), []) := by
  refine Fun.of_run (g := g110) (pf := pf110) rfl rfl rfl rfl ?_
  have hcap2 := capsRo_data (caps := caps) hcap
  have hcap3 := rootsL_data (caps := caps) hcap
  simp (maxSteps := 1000000) (disch := first | assumption | ((try simp only [LEN, LEN2]); omega)) only [push_cast, sevalprocAttr, g110, pf110, b110, hcap2, hcap3, List.all_nil]
  refine run_loop' (fun i : Nat => [(0, T.one (.d (.sl (l.map eP)))), (1, T.fn f caps), (7, T.int .i64 l.length), (8, T.int .i64 i)]) (fun i => i ≤ l.length ∧ ∀ x ∈ l.take i, p x = false) (fun i => l.length - i) 0 rfl ⟨Nat.zero_le _, by simp⟩ (fun i hi => ?_)
  obtain ⟨hi, ht⟩ := hi
  simp (maxSteps := 1000000) (disch := first | assumption | ((try simp only [LEN, LEN2]); omega)) only [push_cast, sevalprocAttr, g110, pf110, b110, hcap2, hcap3, List.all_nil]
  refine If.dec (fun h => ?_) (fun h => ?_)
  · replace h : i < l.length := by omega
    have h2 := hf l[i] (List.getElem_mem h)
    try simp only [oP] at h2
    by_cases hp : p l[i] = true
    · rcases hpm with hpm | hpm | hpm | hpm <;> simp (maxSteps := 1000000) (disch := first | assumption | ((try simp only [LEN, LEN2]); omega)) only [push_cast, sevalprocAttr, g110, pf110, b110, hcap2, hcap3, List.all_nil, hpm, eP, callT_eq h2, hp] <;> rw [idx_some h ht hp]
    · rw [Bool.not_eq_true] at hp
      rcases hpm with hpm | hpm | hpm | hpm <;> simp (maxSteps := 1000000) (disch := first | assumption | ((try simp only [LEN, LEN2]); omega)) only [push_cast, sevalprocAttr, g110, pf110, b110, hcap2, hcap3, List.all_nil, hpm, eP, callT_eq h2, hp]
      all_goals
        refine ⟨i + 1, rfl, ⟨by omega, fun x hx => ?_⟩, by omega⟩
        rw [List.take_succ_eq_append_getElem h, List.mem_append, List.mem_singleton] at hx
        rcases hx with hx | rfl
        · exact ht x hx
        · exact hp
  · obtain rfl : i = l.length := by omega
    simp (maxSteps := 1000000) (disch := first | assumption | ((try simp only [LEN, LEN2]); omega)) only [push_cast, sevalprocAttr, g110, pf110, b110, hcap2, hcap3, List.all_nil]
    rw [idx_none (fun x hx => ht x (by rw [List.take_length]; exact hx))]
theorem f81 {l : List (Put)} {f : FuncId} {caps : List T} {p : (Put) → Bool} (hl : l.length ≤ 1000000000) (hpm : G.pm f = [.ro] ∨ G.pm f = [.ro, .ro] ∨ G.pm f = [.ro, .ro, .ro] ∨ G.pm f = [.ro, .ro, .ro, .ro]) (hcap : capsData caps = true) (hf : ∀ w ∈ l, Fun G f (.vs true (oP w) :: caps) (.bool (p w), [])) :
    Fun G 81 [.one (.d (.sl (l.map eP))), .fn f caps] (.bool (l.any p), []) := by
  refine Fun.of_run (g := g81) (pf := pf81) rfl rfl rfl rfl ?_
  have hcap2 := capsRo_data (caps := caps) hcap
  have hcap3 := rootsL_data (caps := caps) hcap
  simp (maxSteps := 1000000) (disch := first | assumption | ((try simp only [LEN, LEN2]); omega)) only [push_cast, sevalprocAttr, g81, pf81, b81, hcap2, hcap3, List.all_nil, callC_eq (f110 hl hpm hcap hf)]
  rw [← idx_nonneg]
set_option maxHeartbeats 2000000 in
theorem f80 {s : List UInt8}  : Fun G 80 [.str (bs s)] (.bool (decide (s.length = 32)), []) := by
  refine Fun.of_run (g := g80) (pf := pf80) rfl rfl rfl rfl ?_
  simp (maxSteps := 1000000) (disch := first | assumption | ((try simp only [LEN, LEN2]); omega)) only [push_cast, sevalprocAttr, g80, pf80, b80]
  exact boolRes (by omega)
theorem f80c {s : List UInt8}  : type_of% (cE (f80 (s := s) )) := cE (f80 (s := s) )
attribute [push_cast] f80c
set_option maxHeartbeats 2000000 in
theorem f79 {s : List UInt8}  : Fun G 79 [.str (bs s)] (.bool (!decide (s.length = 32)), []) := by
  refine Fun.of_run (g := g79) (pf := pf79) rfl rfl rfl rfl ?_
  simp (maxSteps := 1000000) (disch := first | assumption | ((try simp only [LEN, LEN2]); omega)) only [push_cast, sevalprocAttr, g79, pf79, b79]
theorem f79c {s : List UInt8}  : type_of% (cE (f79 (s := s) )) := cE (f79 (s := s) )
attribute [push_cast] f79c
set_option maxHeartbeats 2000000 in
theorem f83 {S : List (List UInt8)} {W : List Put} {i : Int} (h : S.length ≤ 1000000000) : Fun G 83 [.vs true (cT S W), .int .i64 i] (.bool (decide (0 ≤ i ∧ i < S.length)), []) := by
  refine Fun.of_run (g := g83) (pf := pf83) rfl rfl rfl rfl ?_
  by_cases h1 : 0 ≤ i
  · simp (maxSteps := 1000000) (disch := first | assumption | ((try simp only [LEN, LEN2]); omega)) only [push_cast, sevalprocAttr, g83, pf83, b83, h1]
  · simp (maxSteps := 1000000) (disch := first | assumption | ((try simp only [LEN, LEN2]); omega)) only [push_cast, sevalprocAttr, g83, pf83, b83, h1]
theorem f83c {S : List (List UInt8)} {W : List Put} {i : Int} (h : S.length ≤ 1000000000) : type_of% (cE (f83 (S := S) (W := W) (i := i) h)) := cE (f83 (S := S) (W := W) (i := i) h)
attribute [push_cast] f83c
set_option maxHeartbeats 2000000 in
theorem f82 {S : List (List UInt8)} {W : List Put} {p : Put} (h : S.length ≤ 1000000000) : Fun G 82 [.vs true (oP p), .adr [.sl (S.map eS), .sl (W.map eP)]] (.bool (!(decide (0 ≤ p.At ∧ p.At < S.length ∧ p.Text.length = 32))), []) := by
  refine Fun.of_run (g := g82) (pf := pf82) rfl rfl rfl rfl ?_
  by_cases h1 : 0 ≤ p.At ∧ p.At < S.length
  · simp (maxSteps := 1000000) (disch := first | assumption | ((try simp only [LEN, LEN2]); omega)) only [push_cast, sevalprocAttr, g82, pf82, b82, oP, h1]
  · simp (maxSteps := 1000000) (disch := first | assumption | ((try simp only [LEN, LEN2]); omega)) only [push_cast, sevalprocAttr, g82, pf82, b82, oP, h1]
    have : ¬ (0 ≤ p.At ∧ p.At < S.length ∧ p.Text.length = 32) := fun h => h1 ⟨h.1, h.2.1⟩
    simp [this]
theorem f82c {S : List (List UInt8)} {W : List Put} {p : Put} (h : S.length ≤ 1000000000) : type_of% (cE (f82 (S := S) (W := W) (p := p) h)) := cE (f82 (S := S) (W := W) (p := p) h)
attribute [push_cast] f82c
set_option maxHeartbeats 2000000 in
theorem f39 {S : List (List UInt8)} {W : List Put} (hS : S.length ≤ 1000000000) (hW : W.length ≤ 1000000000) : Fun G 39 [.vs true (cT S W)] (.bool (okT S W), []) := by
  refine Fun.of_run (g := g39) (pf := pf39) rfl rfl rfl rfl ?_
  have h1 := f78 (l := S) (f := 79) (caps := []) (p := fun s => !decide (s.length = 32)) hS (.inl rfl) rfl (fun w _ => f79)
  have h2 := f81 (l := W) (f := 82) (caps := [.adr [.sl (S.map eS), .sl (W.map eP)]]) (p := fun p => !(decide (0 ≤ p.At ∧ p.At < S.length ∧ p.Text.length = 32))) hW (.inr (.inl rfl)) rfl (fun w _ => f82 hS)
  by_cases h3 : (S.length : Int) < 1
  · simp (maxSteps := 1000000) (disch := first | assumption | ((try simp only [LEN, LEN2]); omega)) only [push_cast, sevalprocAttr, g39, pf39, b39, h3]
    simp [okT]; omega
  by_cases h4 : (512 : Int) < S.length
  · simp (maxSteps := 1000000) (disch := first | assumption | ((try simp only [LEN, LEN2]); omega)) only [push_cast, sevalprocAttr, g39, pf39, b39, h3, h4]
    simp [okT]; omega
  by_cases h5 : (2048 : Int) < W.length
  · simp (maxSteps := 1000000) (disch := first | assumption | ((try simp only [LEN, LEN2]); omega)) only [push_cast, sevalprocAttr, g39, pf39, b39, h3, h4, h5]
    simp [okT]; omega
  have e1 : okT S W = (S.all (fun s => decide (s.length = 32)) && W.all (okP S.length)) := by
    simp only [okT]
    rw [show decide (1 ≤ S.length ∧ S.length ≤ 512 ∧ W.length ≤ 2048) = true by simp; omega, Bool.true_and]
  have e2 : (S.any fun s => !decide (s.length = 32)) = !(S.all fun s => decide (s.length = 32)) := by rw [List.not_all_eq_any_not]
  have e3 : (W.any fun p => !decide (0 ≤ p.At ∧ p.At < S.length ∧ p.Text.length = 32)) = !(W.all (okP S.length)) := by rw [List.not_all_eq_any_not]; rfl
  rw [e2] at h1
  rw [e3] at h2
  rw [e1]
  cases h6 : S.all (fun s => decide (s.length = 32))
  · simp only [h6, Bool.not_false] at h1
    simp (maxSteps := 1000000) (disch := first | assumption | ((try simp only [LEN, LEN2]); omega)) only [push_cast, sevalprocAttr, g39, pf39, b39, h3, h4, h5, callC_eq h1]
  · simp only [h6, Bool.not_true] at h1
    simp (maxSteps := 1000000) (disch := first | assumption | ((try simp only [LEN, LEN2]); omega)) only [push_cast, sevalprocAttr, g39, pf39, b39, h3, h4, h5, callC_eq h1, callC_eq h2]
    rw [Bool.not_not]
theorem f39c {S : List (List UInt8)} {W : List Put} (hS : S.length ≤ 1000000000) (hW : W.length ≤ 1000000000) : type_of% (cE (f39 (S := S) (W := W) hS hW)) := cE (f39 (S := S) (W := W) hS hW)
attribute [push_cast] f39c
theorem zeroB (n : Nat) : List.replicate n [V.d (D.sc (Value.int IntKind.u8 0))] = (List.replicate n (0 : UInt8)).map oB := by simp [oB]
set_option maxHeartbeats 2000000 in
theorem f30 {n : Nat} (h : n ≤ 1000000) : Fun G 30 [.int .i64 n] (.str (bs (List.replicate n 0)), []) := by
  refine Fun.of_run (g := g30) (pf := pf30) rfl rfl rfl rfl ?_
  simp (maxSteps := 1000000) (disch := first | assumption | ((try simp only [LEN, LEN2]); omega)) only [push_cast, sevalprocAttr, g30, pf30, b30, zeroB]
theorem f30c {n : Nat} (h : n ≤ 1000000) : type_of% (cE (f30 (n := n) h)) := cE (f30 (n := n) h)
attribute [push_cast] f30c
set_option maxHeartbeats 2000000 in
theorem f7 {n : Nat} (h : n ≤ 1000000) : Fun G 7 [.int .i64 n] (.vs true (oT (List.replicate n zeros) []), []) := by
  refine Fun.of_run (g := g7) (pf := pf7) rfl rfl rfl rfl ?_
  simp (maxSteps := 1000000) (disch := first | assumption | ((try simp only [LEN, LEN2]); omega)) only [push_cast, sevalprocAttr, g7, pf7, b7]
  refine run_loop' (fun i : Nat => [(0, T.int .i64 n), (2, T.one (.box [.own 9 [], .own 72 []])), (3, T.one (.box (oT (List.replicate i zeros) []))), (4, T.int .i64 i)]) (fun i => i ≤ n) (fun i => n - i) 0 rfl (Nat.zero_le _) (fun i hi => ?_)
  simp (maxSteps := 1000000) (disch := first | assumption | ((try simp only [LEN, LEN2]); omega)) only [push_cast, sevalprocAttr, g7, pf7, b7]
  refine If.dec (fun h => ?_) (fun h => ?_)
  · replace h : i < n := by omega
    have hz : Fun G 30 [.int .i64 32] (.str (bs zeros), []) := f30 (n := 32) (by omega)
    simp (maxSteps := 1000000) (disch := first | assumption | ((try simp only [LEN, LEN2]); omega)) only [push_cast, sevalprocAttr, g7, pf7, b7, callC_eq hz]
    refine ⟨i + 1, ?_, by omega, by omega⟩
    simp only [List.replicate_succ', List.map_append, List.map_cons, List.map_nil, oS, oT, Int.natCast_add, Int.cast_ofNat_Int]
  · obtain rfl : i = n := by omega
    simp (maxSteps := 1000000) (disch := first | assumption | ((try simp only [LEN, LEN2]); omega)) only [push_cast, sevalprocAttr, g7, pf7, b7]
    try simp
theorem f7c {n : Nat} (h : n ≤ 1000000) : type_of% (cE (f7 (n := n) h)) := cE (f7 (n := n) h)
attribute [push_cast] f7c
end Go.Mir.Tryz
