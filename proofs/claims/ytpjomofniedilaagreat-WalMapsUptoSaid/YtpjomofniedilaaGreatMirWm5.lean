/- The law WalMaps holds: a map with records one by one is that with all of them, with what was written last, or without what is gone, for inputs up to the stated size. Part 5 of its proof. -/
import Derived.Test.YtpjomofniedilaaGreatMirWm4
import Derived.WalkKit
import Derived.ProofKit
import Derived.OpenShut
import Derived.JoinedCond
import Derived.Below
set_option linter.unusedVariables false
set_option linter.unusedSimpArgs false
set_option maxRecDepth 100000
namespace Go.Mir.Tryz
open Go.Proofs Go.Mir.Q
theorem Fun.given {f : FuncId} {pm : List PM} {h : List T → Option Res} {args : List T} {r : Res} (hg : G.given f = some (pm, h)) (hr : h args = some r) : Fun G f args r := ⟨1, by simp [callK, hg, hr]⟩
theorem f88 {S : List (List UInt8)} (h : S.length ≤ 1000000) : Fun G 88 [.one (.d (.sl (S.map eS)))] (.one (.own 9 (S.map oS)), []) := by
  refine Fun.given rfl ?_
  simp only [cloneGiven]
  rw [if_pos ⟨by rw [show Tryz.prog.cellsOf 9 = 1 by decide +kernel]; simp [eS], by rw [show Tryz.prog.bytesOf 9 = 16 by decide +kernel]; simp; omega, by simp; omega⟩, dV_eS]
theorem f89 {S : List Put} (h : S.length ≤ 1000000) : Fun G 89 [.one (.d (.sl (S.map eP)))] (.one (.own 72 (S.map oP)), []) := by
  refine Fun.given rfl ?_
  simp only [cloneGiven]
  rw [if_pos ⟨by rw [show Tryz.prog.cellsOf 72 = 2 by decide +kernel]; simp [eP], by rw [show Tryz.prog.bytesOf 72 = 24 by decide +kernel]; simp; omega, by simp; omega⟩, dV_eP]
set_option maxHeartbeats 2000000 in
theorem f59 {S : List (List UInt8)} {W : List Put} (h1 : S.length ≤ 1000000) (h2 : W.length ≤ 1000000) : Fun G 59 [.vs true (cT S W)] (.vs true (oT S W), []) := by
  refine Fun.of_run (g := g59) (pf := pf59) rfl rfl rfl rfl ?_
  simp (maxSteps := 1000000) (disch := first | assumption | ((try simp only [LEN, LEN2]); omega)) only [push_cast, sevalprocAttr, g59, pf59, b59, callC_eq (f88 h1), callC_eq (f89 h2)]
theorem f59c {S : List (List UInt8)} {W : List Put} (h1 : S.length ≤ 1000000) (h2 : W.length ≤ 1000000) : type_of% (cE (f59 (S := S) (W := W) h1 h2)) := cE (f59 (S := S) (W := W) h1 h2)
attribute [push_cast] f59c
abbrev cDo (d : Do) : List V := [.d (.sc (.bool d.Sync)), .d (.sc (.int .i64 d.Put.At)), .d (.sc (.string (bs d.Put.Text)))]
set_option maxHeartbeats 2000000 in
theorem f60 {S : List (List UInt8)} {W : List Put} {d : Do} (hok : okT S W = true) (hd : d.Put.Text.length ≤ 1000000000) : Fun G 60 [.one (.box (oT S W)), .vs true (cDo d)] (.int .i64 (Q.stepT ⟨S, W⟩ d).1, [.box (oT (Q.stepT ⟨S, W⟩ d).2.Sectors (Q.stepT ⟨S, W⟩ d).2.Waits)]) := by
  refine Fun.of_run (g := g60) (pf := pf60) rfl rfl rfl rfl ?_
  have hok1 := okT_iff.1 hok
  cases hsync : d.Sync with
  | true =>
    rw [step_sync hsync]
    simp (maxSteps := 1000000) (disch := first | assumption | ((try simp only [LEN, LEN2]); omega)) only [push_cast, sevalprocAttr, g60, pf60, b60, hsync]
    refine run_loop' (fun i : Nat => [(0, T.one (.box (oT (flush S (W.take i)) W))), (24, T.ref 0 0 [(0, 1)]), (25, T.int .i64 W.length), (26, T.int .i64 i)]) (fun i => i ≤ W.length) (fun i => W.length - i) 0 rfl (Nat.zero_le _) (fun i hi => ?_)
    simp (maxSteps := 1000000) (disch := first | assumption | ((try simp only [LEN, LEN2]); omega)) only [push_cast, sevalprocAttr, g60, pf60, b60]
    refine If.dec (fun h => ?_) (fun h => ?_)
    · replace h : i < W.length := by omega
      have hp := hok1.2.2 W[i] (List.getElem_mem h)
      have hcl := flush_length (W.take i) S
      obtain ⟨n, hn⟩ := Int.eq_ofNat_of_zero_le hp.1
      have hn2 : n < (flush S (W.take i)).length := by omega
      simp (maxSteps := 1000000) (disch := first | assumption | ((try simp only [LEN, LEN2]); omega)) only [push_cast, sevalprocAttr, g60, pf60, b60, oP, oS, hn]
      refine ⟨i + 1, ?_, by omega, by omega⟩
      rw [List.take_succ_eq_append_getElem h, flush_snoc]
      simp only [put1, oT, List.map_set, hn, Int.toNat_natCast, oS, Int.natCast_add, Int.cast_ofNat_Int]
    · obtain rfl : i = W.length := by omega
      simp (maxSteps := 1000000) (disch := first | assumption | ((try simp only [LEN, LEN2]); omega)) only [push_cast, sevalprocAttr, g60, pf60, b60]
      simp
  | false =>
    by_cases hat : 0 ≤ d.Put.At ∧ d.Put.At < S.length
    · by_cases hlen : d.Put.Text.length = 32
      · by_cases hlim : 2048 ≤ W.length
        · have hlim' : (2048 : Int) ≤ W.length := by omega
          rw [step_limit (T := ⟨S, W⟩) hsync hat hlen hlim]
          simp (maxSteps := 1000000) (disch := first | assumption | ((try simp only [LEN, LEN2]); omega)) only [push_cast, sevalprocAttr, g60, pf60, b60, hsync, hat, hlen, hlim']
        · have hlim' : ¬ (2048 : Int) ≤ W.length := by omega
          rw [step_ok (T := ⟨S, W⟩) hsync hat hlen hlim]
          simp (maxSteps := 1000000) (disch := first | assumption | ((try simp only [LEN, LEN2]); omega)) only [push_cast, sevalprocAttr, g60, pf60, b60, hsync, hat, hlen, hlim', oP]
          simp [oP]
      · rw [step_form (T := ⟨S, W⟩) hsync hat hlen]
        simp (maxSteps := 1000000) (disch := first | assumption | ((try simp only [LEN, LEN2]); omega)) only [push_cast, sevalprocAttr, g60, pf60, b60, hsync, hat, hlen]
    · rw [step_none (T := ⟨S, W⟩) hsync hat]
      simp (maxSteps := 1000000) (disch := first | assumption | ((try simp only [LEN, LEN2]); omega)) only [push_cast, sevalprocAttr, g60, pf60, b60, hsync, hat]
theorem f60t {S : List (List UInt8)} {W : List Put} {d : Do} (hok : okT S W = true) (hd : d.Put.Text.length ≤ 1000000000) : type_of% (tE (f60 (S := S) (W := W) (d := d) hok hd)) := tE (f60 (S := S) (W := W) (d := d) hok hd)
attribute [push_cast] f60t
abbrev tErr' (e : Int) (t : Q.Tape) : T := .tup [(true, oT t.Sectors t.Waits), (false, [.d (.sc (.int .i64 e))])]
def playP (S : List (List UInt8)) (W : List Put) (n : Int) (l : List Do) : Int × Q.Tape :=
  if okT S W = true ∧ -1 ≤ n then playT ⟨S, W⟩ (upto n l) else (1, ⟨[], []⟩)
set_option maxHeartbeats 2000000 in
theorem f22 {S : List (List UInt8)} {W : List Put} {n : Int} {l : List Do} (hS : S.length ≤ 1000000000) (hW : W.length ≤ 1000000000) (hl : smDo l) : Fun G 22 [.vs true (cT S W), .int .i64 n, .one (.d (.sl (l.map eDo)))] (tErr' (playP S W n l).1 (playP S W n l).2, []) := by
  refine Fun.of_run (g := g22) (pf := pf22) rfl rfl rfl rfl ?_
  obtain ⟨hl, hl2⟩ := hl
  cases hok : okT S W with
  | false =>
    have : playP S W n l = (1, ⟨[], []⟩) := by simp [playP, hok]
    simp (maxSteps := 1000000) (disch := first | assumption | ((try simp only [LEN, LEN2]); omega)) only [push_cast, sevalprocAttr, g22, pf22, b22, hok]
    rw [this]; simp
  | true =>
  by_cases hn : n < -1
  · have : playP S W n l = (1, ⟨[], []⟩) := by unfold playP; rw [if_neg (by omega)]
    simp (maxSteps := 1000000) (disch := first | assumption | ((try simp only [LEN, LEN2]); omega)) only [push_cast, sevalprocAttr, g22, pf22, b22, hok, hn]
    rw [this]; simp
  have hpl : playP S W n l = playT ⟨S, W⟩ (upto n l) := by unfold playP; rw [if_pos ⟨hok, by omega⟩]
  rw [hpl]
  have hok0 := okT_iff.1 hok
  simp (maxSteps := 1000000) (disch := first | assumption | ((try simp only [LEN, LEN2]); omega)) only [push_cast, sevalprocAttr, g22, pf22, b22, hok, hn]
  refine run_loop' (fun i : Nat => [(1, T.int .i64 n), (3, T.one (.box (oT (playT ⟨S, W⟩ (l.take i)).2.Sectors (playT ⟨S, W⟩ (l.take i)).2.Waits))), (6, T.one (.box [.own 9 [], .own 72 []])), (21, T.one (.d (.sl (l.map eDo)))), (22, T.int .i64 l.length), (23, T.int .i64 i)]) (fun i => i ≤ (upto n l).length ∧ (playT ⟨S, W⟩ (l.take i)).1 = 0) (fun i => l.length - i) 0 rfl ⟨Nat.zero_le _, rfl⟩ (fun i hi => ?_)
  obtain ⟨hi, h0⟩ := hi
  have hoki := okT_play hok h0
  obtain ⟨S', W', hT⟩ : ∃ S' W', (playT ⟨S, W⟩ (l.take i)).2 = ⟨S', W'⟩ := ⟨_, _, rfl⟩
  simp only [hT] at hoki
  have hok1 := okT_iff.1 hoki
  have hle := upto_le n l
  by_cases hin : i < (upto n l).length
  · obtain ⟨hin1, hin2⟩ := (upto_len n l i).1 hin
    have hd := hl2 l[i] (List.getElem_mem hin1)
    obtain ⟨d, hd0⟩ : ∃ d, d = l[i] := ⟨_, rfl⟩
    have hsn := playT_snoc (d := l[i]) h0
    rw [← List.take_succ_eq_append_getElem hin1, hT, ← hd0] at hsn
    have hui : (upto n l).take (i + 1) = l.take (i + 1) := upto_take n l hin
    have hend : (playT ⟨S, W⟩ (l.take (i + 1))).1 ≠ 0 → playT ⟨S, W⟩ (upto n l) = playT ⟨S, W⟩ (l.take (i + 1)) := fun hne => by
      conv => lhs; rw [← List.take_append_drop (i + 1) (upto n l), hui]
      exact playT_err hne
    have hc1 : (i : Int) < l.length := by omega
    rw [← hd0] at hd
    obtain ⟨e, t, het⟩ : ∃ e t, Q.stepT ⟨S', W'⟩ d = (e, t) := ⟨_, _, rfl⟩
    have hst := f60 (d := d) hoki (by omega)
    rw [het] at hsn hst
    have hni : ¬ (i : Int) = n := by omega
    by_cases he : e = 0
    · subst he
      simp only [if_true] at hsn
      simp (maxSteps := 1000000) (disch := first | assumption | ((try simp only [LEN, LEN2]); omega)) only [push_cast, sevalprocAttr, g22, pf22, b22, hT, hc1, hni, eDo, ← hd0, callT_eq hst]
      refine ⟨i + 1, ?_, ⟨by omega, by rw [hsn]⟩, by omega⟩
      rw [hsn]; simp
    · simp only [he, if_false] at hsn
      have := hend (by rw [hsn]; exact he)
      simp (maxSteps := 1000000) (disch := first | assumption | ((try simp only [LEN, LEN2]); omega)) only [push_cast, sevalprocAttr, g22, pf22, b22, hT, hc1, hni, eDo, ← hd0, callT_eq hst, he]
      rw [this, hsn]; simp
  · have hii : i = (upto n l).length := by omega
    have hfin : playT ⟨S, W⟩ (upto n l) = (0, ⟨S', W'⟩) := by
      have h1 := upto_take n l (Nat.le_of_eq hii)
      rw [hii, List.take_length, ← hii] at h1
      rw [h1]
      exact Prod.ext h0 hT
    have hnot := mt (upto_len n l i).2 hin
    by_cases hc1 : (i : Int) < l.length
    · have hni : n = (i : Int) := by
        have : i ≤ n.toNat := by
          rw [hii]; unfold upto; split
          · omega
          · rw [List.length_take]; omega
        omega
      subst hni
      simp (maxSteps := 1000000) (disch := first | assumption | ((try simp only [LEN, LEN2]); omega)) only [push_cast, sevalprocAttr, g22, pf22, b22, hT, hc1, eDo, eq_self]
      rw [hfin]
    · simp (maxSteps := 1000000) (disch := first | assumption | ((try simp only [LEN, LEN2]); omega)) only [push_cast, sevalprocAttr, g22, pf22, b22, hT, hc1]
      rw [hfin]
theorem f22c {S : List (List UInt8)} {W : List Put} {n : Int} {l : List Do} (hS : S.length ≤ 1000000000) (hW : W.length ≤ 1000000000) (hl : smDo l) : type_of% (cE (f22 (S := S) (W := W) (n := n) (l := l) hS hW hl)) := cE (f22 (S := S) (W := W) (n := n) (l := l) hS hW hl)
attribute [push_cast] f22c
end Go.Mir.Tryz

set_option linter.unusedVariables false
set_option linter.unusedSimpArgs false
set_option maxRecDepth 100000
namespace Go.Mir.Tryz
open Go.Proofs Go.Mir.Q
theorem okRows_one {l : List Row} (h : 0 < l.length) : okRows (l.take 1) = okRow l[0] := by
  obtain ⟨a, l', rfl⟩ : ∃ a l', l = a :: l' := List.exists_cons_of_length_pos h
  simp [okRows, rising]
theorem okRows_next {l : List Row} {j : Nat} (h : j + 1 < l.length) : okRows (l.take (j + 2)) = (okRows (l.take (j + 1)) && (okRow l[j + 1] && Op.bytesLess l[j].Key l[j + 1].Key)) := by
  rw [List.take_succ_eq_append_getElem h, okRows_snoc]
  have : (l.take (j + 1)).getLast? = some l[j] := by
    rw [List.take_succ_eq_append_getElem (by omega), List.getLast?_concat]
  rw [this]
theorem okRows_bad {l : List Row} {k : Nat} (h : okRows (l.take k) = false) : okRows l = false := by
  rw [← Bool.not_eq_true]
  intro hh
  rw [← List.take_append_drop k l] at hh
  rw [okRows_pre hh] at h
  cases h
set_option maxHeartbeats 2000000 in
theorem f101 {l : List Row} (hl : l.length ≤ 1000000000) : Fun G 101 [.one (.d (.sl (l.map eRow)))] (.bool (okRows l), []) := by
  refine Fun.of_run (g := g101) (pf := pf101) rfl rfl rfl rfl ?_
  simp (maxSteps := 1000000) (disch := first | assumption | ((try simp only [LEN, LEN2]); omega)) only [push_cast, sevalprocAttr, g101, pf101, b101]
  refine run_loop' (fun i : Nat => [(0, T.one (.d (.sl (l.map eRow)))), (5, T.one (.d (.sl (l.map eRow)))), (6, T.int .i64 l.length), (7, T.int .i64 i)]) (fun i => i ≤ l.length ∧ okRows (l.take i) = true) (fun i => l.length - i) 0 rfl ⟨Nat.zero_le _, rfl⟩ (fun i hi => ?_)
  obtain ⟨hi, ht⟩ := hi
  by_cases h : (i : Int) < l.length
  · have hi' : i < l.length := by omega
    have hno : okRow l[i] = false → okRows l = false := fun hx => by
      rw [← Bool.not_eq_true]
      intro hh
      simp only [okRows, Bool.and_eq_true, List.all_eq_true] at hh
      rw [hh.1 _ (List.getElem_mem hi')] at hx
      cases hx
    by_cases hk : l[i].Key ≠ [] ∧ l[i].Key.length ≤ 12
    · by_cases hv : l[i].Value.length ≤ 20
      · have hx : okRow l[i] = true := by
          have := List.length_pos_iff.2 hk.1
          simp only [okRow, decide_eq_true_eq]; omega
        by_cases h0 : (0 : Int) < i
        · have e1 : ((i : Int) - 1).toNat = i - 1 := by omega
          have hn : okRows (l.take (i + 1)) = Op.bytesLess l[i - 1].Key l[i].Key := by
            obtain ⟨j, rfl⟩ : ∃ j, i = j + 1 := ⟨i - 1, by omega⟩
            have hn := okRows_next hi'
            rw [ht, hx, Bool.true_and, Bool.true_and] at hn
            exact hn
          cases hb : Op.bytesLess l[i - 1].Key l[i].Key with
          | true =>
            simp (maxSteps := 1000000) (disch := first | assumption | ((try simp only [LEN, LEN2]); omega)) only [push_cast, sevalprocAttr, g101, pf101, b101, h, eRow, hk, hv, h0, e1, less_total, hb]
            exact ⟨i + 1, by simp, ⟨by omega, by rw [hn, hb]⟩, by omega⟩
          | false =>
            rw [hb] at hn
            simp (maxSteps := 1000000) (disch := first | assumption | ((try simp only [LEN, LEN2]); omega)) only [push_cast, sevalprocAttr, g101, pf101, b101, h, eRow, hk, hv, h0, e1, less_total, hb, okRows_bad hn]
        · have hn : okRows (l.take (i + 1)) = true := by
            obtain rfl : i = 0 := by omega
            rw [okRows_one hi', hx]
          simp (maxSteps := 1000000) (disch := first | assumption | ((try simp only [LEN, LEN2]); omega)) only [push_cast, sevalprocAttr, g101, pf101, b101, h, eRow, hk, hv, h0]
          exact ⟨i + 1, by simp, ⟨by omega, hn⟩, by omega⟩
      · have := hno (by simp only [okRow, decide_eq_false_iff_not]; omega)
        simp (maxSteps := 1000000) (disch := first | assumption | ((try simp only [LEN, LEN2]); omega)) only [push_cast, sevalprocAttr, g101, pf101, b101, h, eRow, hk, hv, this]
    · have := hno (by
        simp only [okRow, decide_eq_false_iff_not]
        intro hh
        exact hk ⟨List.length_pos_iff.1 (by omega), by omega⟩)
      simp (maxSteps := 1000000) (disch := first | assumption | ((try simp only [LEN, LEN2]); omega)) only [push_cast, sevalprocAttr, g101, pf101, b101, h, eRow, hk, this]
  · obtain rfl : i = l.length := by omega
    rw [List.take_length] at ht
    simp (maxSteps := 1000000) (disch := first | assumption | ((try simp only [LEN, LEN2]); omega)) only [push_cast, sevalprocAttr, g101, pf101, b101, h, ht]
theorem f101c {l : List Row} (hl : l.length ≤ 1000000000) : type_of% (cE (f101 (l := l) hl)) := cE (f101 (l := l) hl)
attribute [push_cast] f101c
set_option maxHeartbeats 2000000 in
theorem f100 {l : List Row} (hl : l.length ≤ 1000000000) : Fun G 100 [.one (.d (.sl (l.map eRow)))] (.bool (!okRows l), []) := by
  refine Fun.of_run (g := g100) (pf := pf100) rfl rfl rfl rfl ?_
  simp (maxSteps := 1000000) (disch := first | assumption | ((try simp only [LEN, LEN2]); omega)) only [push_cast, sevalprocAttr, g100, pf100, b100]
theorem f100c {l : List Row} (hl : l.length ≤ 1000000000) : type_of% (cE (f100 (l := l) hl)) := cE (f100 (l := l) hl)
attribute [push_cast] f100c
end Go.Mir.Tryz

set_option linter.unusedVariables false
set_option linter.unusedSimpArgs false
set_option maxRecDepth 100000
namespace Go.Mir.Tryz
open Go.Proofs Go.Mir.Q
theorem f122 {l : List (List Row)} {f : FuncId} {caps : List T} {p : (List Row) → Bool} (hl : l.length ≤ 1000000000) (hpm : G.pm f = [.ro] ∨ G.pm f = [.ro, .ro] ∨ G.pm f = [.ro, .ro, .ro] ∨ G.pm f = [.ro, .ro, .ro, .ro]) (hcap : capsData caps = true) (hf : ∀ w ∈ l, Fun G f (.one (.d (.sl (w.map eRow))) :: caps) (.bool (p w), [])) :
    Fun G 122 [.one (.d (.sl (l.map eMp))), .fn f caps] (.int .i64 (idx p l), []) := by
  refine Fun.of_run (g := g122) (pf := pf122) rfl rfl rfl rfl ?_
  have hcap2 := capsRo_data (caps := caps) hcap
  have hcap3 := rootsL_data (caps := caps) hcap
  simp (maxSteps := 1000000) (disch := first | assumption | ((try simp only [LEN, LEN2]); omega)) only [push_cast, sevalprocAttr, g122, pf122, b122, hcap2, hcap3, List.all_nil]
  refine run_loop' (fun i : Nat => [(0, T.one (.d (.sl (l.map eMp)))), (1, T.fn f caps), (7, T.int .i64 l.length), (8, T.int .i64 i)]) (fun i => i ≤ l.length ∧ ∀ x ∈ l.take i, p x = false) (fun i => l.length - i) 0 rfl ⟨Nat.zero_le _, by simp⟩ (fun i hi => ?_)
  obtain ⟨hi, ht⟩ := hi
  simp (maxSteps := 1000000) (disch := first | assumption | ((try simp only [LEN, LEN2]); omega)) only [push_cast, sevalprocAttr, g122, pf122, b122, hcap2, hcap3, List.all_nil]
  refine If.dec (fun h => ?_) (fun h => ?_)
  · replace h : i < l.length := by omega
    have h2 := hf l[i] (List.getElem_mem h)
    skip
    by_cases hp : p l[i] = true
    · rcases hpm with hpm | hpm | hpm | hpm <;> simp (maxSteps := 1000000) (disch := first | assumption | ((try simp only [LEN, LEN2]); omega)) only [push_cast, sevalprocAttr, g122, pf122, b122, hcap2, hcap3, List.all_nil, hpm, eMp, callT_eq h2, hp] <;> rw [idx_some h ht hp]
    · rw [Bool.not_eq_true] at hp
      rcases hpm with hpm | hpm | hpm | hpm <;> simp (maxSteps := 1000000) (disch := first | assumption | ((try simp only [LEN, LEN2]); omega)) only [push_cast, sevalprocAttr, g122, pf122, b122, hcap2, hcap3, List.all_nil, hpm, eMp, callT_eq h2, hp]
      all_goals
        refine ⟨i + 1, rfl, ⟨by omega, fun x hx => ?_⟩, by omega⟩
        rw [List.take_succ_eq_append_getElem h, List.mem_append, List.mem_singleton] at hx
        rcases hx with hx | rfl
        · exact ht x hx
        · exact hp
  · obtain rfl : i = l.length := by omega
    simp (maxSteps := 1000000) (disch := first | assumption | ((try simp only [LEN, LEN2]); omega)) only [push_cast, sevalprocAttr, g122, pf122, b122, hcap2, hcap3, List.all_nil]
    rw [idx_none (fun x hx => ht x (by rw [List.take_length]; exact hx))]
theorem f99 {l : List (List Row)} {f : FuncId} {caps : List T} {p : (List Row) → Bool} (hl : l.length ≤ 1000000000) (hpm : G.pm f = [.ro] ∨ G.pm f = [.ro, .ro] ∨ G.pm f = [.ro, .ro, .ro] ∨ G.pm f = [.ro, .ro, .ro, .ro]) (hcap : capsData caps = true) (hf : ∀ w ∈ l, Fun G f (.one (.d (.sl (w.map eRow))) :: caps) (.bool (p w), [])) :
    Fun G 99 [.one (.d (.sl (l.map eMp))), .fn f caps] (.bool (l.any p), []) := by
  refine Fun.of_run (g := g99) (pf := pf99) rfl rfl rfl rfl ?_
  have hcap2 := capsRo_data (caps := caps) hcap
  have hcap3 := rootsL_data (caps := caps) hcap
  simp (maxSteps := 1000000) (disch := first | assumption | ((try simp only [LEN, LEN2]); omega)) only [push_cast, sevalprocAttr, g99, pf99, b99, hcap2, hcap3, List.all_nil, callC_eq (f122 hl hpm hcap hf)]
  rw [← idx_nonneg]
set_option maxHeartbeats 2000000 in
theorem f69 {m : Map} (hm : smM m) : Fun G 69 [.one (.d (.sl (m.map eMp)))] (.bool (okM m), []) := by
  refine Fun.of_run (g := g69) (pf := pf69) rfl rfl rfl rfl ?_
  obtain ⟨hm, hm2⟩ := hm
  have h := f99 (l := m) (f := 100) (caps := []) (p := fun w => !okRows w) (by omega) (.inl rfl) rfl (fun w hw => f100 (by have := (hm2 w hw).1; omega))
  rw [List.not_all_eq_any_not.symm] at h
  by_cases h3 : (m.length : Int) ≤ 3
  · simp (maxSteps := 1000000) (disch := first | assumption | ((try simp only [LEN, LEN2]); omega)) only [push_cast, sevalprocAttr, g69, pf69, b69, h3, callC_eq h]
    have : m.length ≤ 3 := by omega
    simp [okM, this]
  · simp (maxSteps := 1000000) (disch := first | assumption | ((try simp only [LEN, LEN2]); omega)) only [push_cast, sevalprocAttr, g69, pf69, b69, h3]
    have : ¬ m.length ≤ 3 := by omega
    simp [okM, this]
theorem f69c {m : Map} (hm : smM m) : type_of% (cE (f69 (m := m) hm)) := cE (f69 (m := m) hm)
attribute [push_cast] f69c
set_option maxHeartbeats 2000000 in
theorem f31 {m : Map} (hm : smM m) : Fun G 31 [.one (.d (.sl (m.map eMp)))] (.bool (okM m), []) := by
  refine Fun.of_run (g := g31) (pf := pf31) rfl rfl rfl rfl ?_
  obtain ⟨hm, hm2⟩ := hm
  have hbad : ∀ l ∈ m, okRows l = false → okM m = false := fun l hl hb => by
    simp only [okM, Bool.and_eq_false_iff]
    right
    rw [← Bool.not_eq_true, List.all_eq_true]
    intro hh
    rw [hh l hl] at hb
    cases hb
  simp (maxSteps := 1000000) (disch := first | assumption | ((try simp only [LEN, LEN2]); omega)) only [push_cast, sevalprocAttr, g31, pf31, b31]
  refine run_loop' (fun i : Nat => [(0, T.one (.d (.sl (m.map eMp)))), (3, T.int .i64 i)]) (fun i => i ≤ m.length ∧ i ≤ 4 ∧ ∀ x ∈ m.take i, okRows x = true) (fun i => m.length - i) 0 rfl ⟨Nat.zero_le _, by omega, by simp⟩ (fun i hi => ?_)
  obtain ⟨hi, hi4, ht⟩ := hi
  by_cases h1 : (i : Int) < m.length
  · by_cases h2 : (i : Int) ≤ 3
    · have hi' : i < m.length := by omega
      have hlm := List.getElem_mem hi'
      obtain ⟨hl1, hl2⟩ := hm2 m[i] hlm
      obtain ⟨l, hl0⟩ : ∃ l, l = m[i] := ⟨_, rfl⟩
      rw [← hl0] at hl1 hl2 hlm
      simp (maxSteps := 1000000) (disch := first | assumption | ((try simp only [LEN, LEN2]); omega)) only [push_cast, sevalprocAttr, g31, pf31, b31, h1, h2]
      refine run_loop' (fun k : Nat => [(0, T.one (.d (.sl (m.map eMp)))), (3, T.int .i64 i), (4, T.int .i64 k)]) (fun k => k ≤ l.length ∧ okRows (l.take k) = true) (fun k => l.length - k) 0 rfl ⟨Nat.zero_le _, rfl⟩ (fun k hk => ?_)
      obtain ⟨hkl, hko⟩ := hk
      by_cases h : (k : Int) < l.length
      · have hk' : k < l.length := by omega
        have hsz := hl2 l[k] (List.getElem_mem hk')
        have hno : okRow l[k] = false → okM m = false := fun hx => hbad l hlm (by
          rw [← Bool.not_eq_true]
          intro hh
          simp only [okRows, Bool.and_eq_true, List.all_eq_true] at hh
          rw [hh.1 _ (List.getElem_mem hk')] at hx
          cases hx)
        by_cases hkk : 1 ≤ l[k].Key.length ∧ l[k].Key.length ≤ 12
        · by_cases hv : l[k].Value.length ≤ 20
          · have hx : okRow l[k] = true := by simp only [okRow, decide_eq_true_eq]; omega
            by_cases h0 : (0 : Int) < k
            · have e1 : ((k : Int) - 1).toNat = k - 1 := by omega
              have hn : okRows (l.take (k + 1)) = Op.bytesLess l[k - 1].Key l[k].Key := by
                obtain ⟨j, rfl⟩ : ∃ j, k = j + 1 := ⟨k - 1, by omega⟩
                have hn := okRows_next hk'
                rw [hko, hx, Bool.true_and, Bool.true_and] at hn
                exact hn
              cases hb : Op.bytesLess l[k - 1].Key l[k].Key with
              | true =>
                simp (maxSteps := 1000000) (disch := first | assumption | ((try simp only [LEN, LEN2]); omega)) only [push_cast, sevalprocAttr, g31, pf31, b31, h, eMp, eRow, ← hl0, hkk, hv, h0, e1, hb]
                exact ⟨k + 1, by simp, ⟨by omega, by rw [hn, hb]⟩, by omega⟩
              | false =>
                rw [hb] at hn
                simp (maxSteps := 1000000) (disch := first | assumption | ((try simp only [LEN, LEN2]); omega)) only [push_cast, sevalprocAttr, g31, pf31, b31, h, eMp, eRow, ← hl0, hkk, hv, h0, e1, hb, hbad l hlm (okRows_bad hn)]
            · have hn : okRows (l.take (k + 1)) = true := by
                obtain rfl : k = 0 := by omega
                rw [okRows_one hk', hx]
              simp (maxSteps := 1000000) (disch := first | assumption | ((try simp only [LEN, LEN2]); omega)) only [push_cast, sevalprocAttr, g31, pf31, b31, h, eMp, eRow, ← hl0, hkk, hv, h0]
              exact ⟨k + 1, by simp, ⟨by omega, hn⟩, by omega⟩
          · have := hno (by simp only [okRow, decide_eq_false_iff_not]; omega)
            simp (maxSteps := 1000000) (disch := first | assumption | ((try simp only [LEN, LEN2]); omega)) only [push_cast, sevalprocAttr, g31, pf31, b31, h, eMp, eRow, ← hl0, hkk, hv, this]
        · have := hno (by simp only [okRow, decide_eq_false_iff_not]; omega)
          simp (maxSteps := 1000000) (disch := first | assumption | ((try simp only [LEN, LEN2]); omega)) only [push_cast, sevalprocAttr, g31, pf31, b31, h, eMp, eRow, ← hl0, hkk, this]
      · obtain rfl : k = l.length := by omega
        rw [List.take_length] at hko
        simp (maxSteps := 1000000) (disch := first | assumption | ((try simp only [LEN, LEN2]); omega)) only [push_cast, sevalprocAttr, g31, pf31, b31, h, eMp, ← hl0]
        refine ⟨i + 1, by simp, ⟨by omega, by omega, fun x hx => ?_⟩, by omega⟩
        rw [List.take_succ_eq_append_getElem hi', List.mem_append, List.mem_singleton, ← hl0] at hx
        rcases hx with hx | rfl
        · exact ht x hx
        · exact hko
    · have : okM m = false := by
        simp only [okM, Bool.and_eq_false_iff, decide_eq_false_iff_not]; left; omega
      have h3 : ¬ (m.length : Int) ≤ 3 := by omega
      simp (maxSteps := 1000000) (disch := first | assumption | ((try simp only [LEN, LEN2]); omega)) only [push_cast, sevalprocAttr, g31, pf31, b31, h1, h2, h3, this]
  · obtain rfl : i = m.length := by omega
    rw [List.take_length] at ht
    by_cases h3 : (m.length : Int) ≤ 3
    · have : okM m = true := by
        simp only [okM, Bool.and_eq_true, decide_eq_true_eq, List.all_eq_true]; exact ⟨by omega, ht⟩
      simp (maxSteps := 1000000) (disch := first | assumption | ((try simp only [LEN, LEN2]); omega)) only [push_cast, sevalprocAttr, g31, pf31, b31, h1, h3, this]
    · have : okM m = false := by
        simp only [okM, Bool.and_eq_false_iff, decide_eq_false_iff_not]; left; omega
      simp (maxSteps := 1000000) (disch := first | assumption | ((try simp only [LEN, LEN2]); omega)) only [push_cast, sevalprocAttr, g31, pf31, b31, h1, h3, this]
theorem f31c {m : Map} (hm : smM m) : type_of% (cE (f31 (m := m) hm)) := cE (f31 (m := m) hm)
attribute [push_cast] f31c
end Go.Mir.Tryz

set_option linter.unusedVariables false
set_option linter.unusedSimpArgs false
set_option maxRecDepth 100000
namespace Go.Mir.Tryz
open Go.Proofs Go.Mir.Q
theorem imageF_snoc (l : List Row) : ∀ (m : Map) (t : Nat), imageF t (m ++ [l]) = imageF t m ++ l.map (wrRow (t + m.length))
  | [], t => by simp [imageF]
  | x :: m, t => by
    have := imageF_snoc l m (t + 1)
    simp only [List.cons_append, imageF, this, List.append_assoc, List.length_cons]
    rw [show t + 1 + m.length = t + (m.length + 1) by omega]
theorem image_len : ∀ {m : Map} {t : Nat}, (∀ l ∈ m, l.length ≤ 1048576) → (imageF t m).length ≤ m.length * 1048576
  | [], t, _ => by simp [imageF]
  | l :: m, t, h => by
    have h1 := h l (by simp)
    have h2 := image_len (m := m) (t := t + 1) fun x hx => h x (List.mem_cons_of_mem _ hx)
    simp only [imageF, List.length_append, List.length_map, List.length_cons]
    omega
theorem oW_wrRow (i : Nat) (x : Row) : oW (wrRow i x) = [.d (.sc (.int .i64 i)), .d (.sc (.string (bs x.Key))), .d (.sc (.string (bs x.Value))), .d (.sc (.bool false))] := rfl
set_option maxHeartbeats 2000000 in
theorem f87 {m : Map} (hm : smM m) : Fun G 87 [.one (.d (.sl (m.map eMp)))] (.vs true [.d (.sc (.int .i64 1)), .own 78 ((image m).map oW)], []) := by
  refine Fun.of_run (g := g87) (pf := pf87) rfl rfl rfl rfl ?_
  obtain ⟨hm, hm2⟩ := hm
  simp (maxSteps := 1000000) (disch := first | assumption | ((try simp only [LEN, LEN2]); omega)) only [push_cast, sevalprocAttr, g87, pf87, b87]
  refine run_loop' (fun i : Nat => [(2, T.one (.box [.d (.sc (.int .i64 0)), .own 78 []])), (3, T.one (.box [.d (.sc (.int .i64 1)), .own 78 ((image (m.take i)).map oW)])), (9, T.one (.d (.sl (m.map eMp)))), (10, T.int .i64 m.length), (11, T.int .i64 i)]) (fun i => i ≤ m.length) (fun i => m.length - i) 0 rfl (Nat.zero_le _) (fun i hi => ?_)
  by_cases h1 : (i : Int) < m.length
  · have hi' : i < m.length := by omega
    obtain ⟨hl1, hl2⟩ := hm2 m[i] (List.getElem_mem hi')
    obtain ⟨l, hl0⟩ : ∃ l, l = m[i] := ⟨_, rfl⟩
    rw [← hl0] at hl1 hl2
    have hil := image_len (m := m.take i) (t := 0) fun x hx => (hm2 x (List.mem_of_mem_take hx)).1
    rw [List.length_take, Nat.min_eq_left hi] at hil
    have hil2 : (image (m.take i)).length ≤ 1099511627776 := by simp only [image]; omega
    simp (maxSteps := 1000000) (disch := first | assumption | ((try simp only [LEN, LEN2]); omega)) only [push_cast, sevalprocAttr, g87, pf87, b87, h1, eMp, ← hl0]
    refine run_loop' (fun k : Nat => [(2, T.one (.box [.d (.sc (.int .i64 0)), .own 78 []])), (3, T.one (.box [.d (.sc (.int .i64 1)), .own 78 ((image (m.take i) ++ (l.take k).map (wrRow i)).map oW)])), (4, T.int .i64 i), (5, T.one (.d (.sl (l.map eRow)))), (9, T.one (.d (.sl (m.map eMp)))), (10, T.int .i64 m.length), (11, T.int .i64 i), (16, T.one (.d (.sl (l.map eRow)))), (17, T.int .i64 l.length), (18, T.int .i64 k)]) (fun k => k ≤ l.length) (fun k => l.length - k) 0 (by simp) (Nat.zero_le _) (fun k hk => ?_)
    by_cases h : (k : Int) < l.length
    · have hk' : k < l.length := by omega
      simp (maxSteps := 1000000) (disch := first | assumption | ((try simp only [LEN, LEN2]); omega)) only [push_cast, sevalprocAttr, g87, pf87, b87, h, eRow]
      refine ⟨k + 1, ?_, by omega, by omega⟩
      rw [List.take_succ_eq_append_getElem hk']
      simp only [List.map_append, List.map_cons, List.map_nil, oW_wrRow, List.append_assoc, Int.natCast_add, Int.cast_ofNat_Int]
    · obtain rfl : k = l.length := by omega
      simp (maxSteps := 1000000) (disch := first | assumption | ((try simp only [LEN, LEN2]); omega)) only [push_cast, sevalprocAttr, g87, pf87, b87, h]
      refine ⟨i + 1, ?_, by omega, by omega⟩
      have : image (m.take (i + 1)) = image (m.take i) ++ l.map (wrRow i) := by
        rw [List.take_succ_eq_append_getElem hi', ← hl0, image, imageF_snoc, List.length_take, Nat.zero_add, Nat.min_eq_left (by omega)]; rfl
      rw [this, List.take_length]
      simp
  · obtain rfl : i = m.length := by omega
    simp (maxSteps := 1000000) (disch := first | assumption | ((try simp only [LEN, LEN2]); omega)) only [push_cast, sevalprocAttr, g87, pf87, b87, h1]
    simp
theorem f87c {m : Map} (hm : smM m) : type_of% (cE (f87 (m := m) hm)) := cE (f87 (m := m) hm)
attribute [push_cast] f87c
end Go.Mir.Tryz

set_option linter.unusedVariables false
set_option linter.unusedSimpArgs false
set_option maxRecDepth 100000
namespace Go.Mir.Tryz
open Go.Proofs Go.Mir.Q
set_option maxHeartbeats 2000000 in
theorem f41 {s : Int}  : Fun G 41 [.int .i64 s] (.int .i64 (startS s), []) := by
  refine Fun.of_run (g := g41) (pf := pf41) rfl rfl rfl rfl ?_
  by_cases h : s = 0
  · simp (maxSteps := 1000000) (disch := first | assumption | ((try simp only [LEN, LEN2]); omega)) only [push_cast, sevalprocAttr, g41, pf41, b41, h]
    simp [startS]
  · simp (maxSteps := 1000000) (disch := first | assumption | ((try simp only [LEN, LEN2]); omega)) only [push_cast, sevalprocAttr, g41, pf41, b41, h]
    simp [startS, h]
theorem f41c {s : Int}  : type_of% (cE (f41 (s := s) )) := cE (f41 (s := s) )
attribute [push_cast] f41c
theorem putsD_snoc (a : Nat) (l : List (List UInt8)) (s : List UInt8) : putsD a (l ++ [s]) = putsD a l ++ [⟨false, ⟨((a + l.length : Nat) : Int), s⟩⟩] := by
  simp [putsD, putsW_app, putsW]
set_option maxHeartbeats 2000000 in
theorem f65 {L : List Do} {a : Nat} {S : List (List UInt8)} (hL : L.length ≤ 1000000) (hS : S.length ≤ 1000000) (ha : a ≤ 1000000) : Fun G 65 [.one (.own 74 (L.map oDo)), .int .i64 a, .one (.d (.sl (S.map eS)))] (.one (.own 74 ((L ++ putsD a S).map oDo)), []) := by
  refine Fun.of_run (g := g65) (pf := pf65) rfl rfl rfl rfl ?_
  simp (maxSteps := 1000000) (disch := first | assumption | ((try simp only [LEN, LEN2]); omega)) only [push_cast, sevalprocAttr, g65, pf65, b65]
  refine run_loop' (fun i : Nat => [(0, T.one (.own 74 ((L ++ putsD a (S.take i)).map oDo))), (1, T.int .i64 a), (9, T.one (.d (.sl (S.map eS)))), (10, T.int .i64 S.length), (11, T.int .i64 i)]) (fun i => i ≤ S.length) (fun i => S.length - i) 0 (by simp [putsD, putsW]) (Nat.zero_le _) (fun i hi => ?_)
  have hpl := putsD_len (S.take i) a
  rw [List.length_take, Nat.min_eq_left hi] at hpl
  by_cases h : (i : Int) < S.length
  · have hi' : i < S.length := by omega
    simp (maxSteps := 1000000) (disch := first | assumption | ((try simp only [LEN, LEN2]); omega)) only [push_cast, sevalprocAttr, g65, pf65, b65, h, eS]
    refine ⟨i + 1, ?_, by omega, by omega⟩
    rw [List.take_succ_eq_append_getElem hi', putsD_snoc, List.length_take, Nat.min_eq_left hi]
    simp only [List.map_append, List.map_cons, List.map_nil, oDo, List.append_assoc, Int.natCast_add, Int.cast_ofNat_Int]
  · obtain rfl : i = S.length := by omega
    simp (maxSteps := 1000000) (disch := first | assumption | ((try simp only [LEN, LEN2]); omega)) only [push_cast, sevalprocAttr, g65, pf65, b65, h]
    simp
theorem f65t {L : List Do} {a : Nat} {S : List (List UInt8)} (hL : L.length ≤ 1000000) (hS : S.length ≤ 1000000) (ha : a ≤ 1000000) : type_of% (tE (f65 (L := L) (a := a) (S := S) hL hS ha)) := tE (f65 (L := L) (a := a) (S := S) hL hS ha)
attribute [push_cast] f65t
end Go.Mir.Tryz

set_option linter.unusedVariables false
set_option linter.unusedSimpArgs false
set_option maxRecDepth 100000
namespace Go.Mir.Tryz
open Go.Proofs Go.Mir.Q
abbrev layT (l : List Do) (w : Wal) (e : Int) : T := .tup [(false, [.own 74 (l.map oDo)]), (true, cWal w), (false, [.d (.sc (.int .i64 e))])]
def layR (run slot : Int) (m : Map) : List Do × Wal × Int :=
  if okM m = false then ([], ⟨0, 0, 0, 0⟩, 1) else if 1073741824 ≤ run then ([], ⟨0, 0, 0, 0⟩, 2) else
  if (image m).length ≤ 64 then (layD run slot m, ⟨run, slot, 255, 1⟩, 0) else ([], ⟨0, 0, 0, 0⟩, 5)
set_option maxHeartbeats 2000000 in
theorem f58 {run slot : Int} {m : Map} (hm : smM m) (hr : okN run) (hs : slot = 0 ∨ slot = 1) : Fun G 58 [.int .i64 run, .int .i64 slot, .one (.d (.sl (m.map eMp)))] (layT (layR run slot m).1 (layR run slot m).2.1 (layR run slot m).2.2, []) := by
  refine Fun.of_run (g := g58) (pf := pf58) rfl rfl rfl rfl ?_
  obtain ⟨hr1, hr2⟩ := hr
  cases hok : okM m with
  | false =>
    have e : layR run slot m = ([], ⟨0, 0, 0, 0⟩, 1) := by unfold layR; rw [if_pos hok]
    simp (maxSteps := 1000000) (disch := first | assumption | ((try simp only [LEN, LEN2]); omega)) only [push_cast, sevalprocAttr, g58, pf58, b58, hok, e]
    rfl
  | true =>
    by_cases h1 : 1073741824 ≤ run
    · have e : layR run slot m = ([], ⟨0, 0, 0, 0⟩, 2) := by unfold layR; rw [if_neg (by rw [hok]; simp), if_pos h1]
      simp (maxSteps := 1000000) (disch := first | assumption | ((try simp only [LEN, LEN2]); omega)) only [push_cast, sevalprocAttr, g58, pf58, b58, hok, h1, e]
      rfl
    · have h3 : m.length ≤ 3 := by have := hok; simp only [okM, Bool.and_eq_true, decide_eq_true_eq] at this; exact this.1
      have hil := image_len (m := m) (t := 0) fun l hl => (hm.2 l hl).1
      have hil2 : (image m).length ≤ 4194304 := by simp only [image]; omega
      by_cases h2 : (image m).length ≤ 64
      · have e : layR run slot m = (layD run slot m, ⟨run, slot, 255, 1⟩, 0) := by unfold layR; rw [if_neg (by rw [hok]; simp), if_neg h1, if_pos h2]
        have hR := image_okR hok h2
        have hc := okR_cnt hR
        have hsw := okR_smW hR
        simp only at hsw
        have hc1 := f64 (num' := 0) (run := run) hsw hR
        have hc2 := f64 (n := slot + 1) (run := 0) (num' := run) (l := []) ⟨by simp, by simp⟩ (okR_super hs)
        rw [cuts_super] at hc2
        obtain ⟨C, hC⟩ : ∃ C, C = cuts run 0 (spelt ⟨1, image m⟩) := ⟨_, rfl⟩
        have hCl : C.length ≤ 116 := by rw [hC, cuts_len]; exact hc
        rw [← hC] at hc1
        have hst := startS_le (slot := slot)
        have hp1 := f65 (L := []) (a := startS slot) (S := C) (by simp) (by omega) (by omega)
        have ef : layD run slot m = putsD (startS slot) C ++ syncD :: (putsD 0 [superS run slot] ++ [syncD]) := by rw [hC]; rfl
        have hpl := putsD_len C (startS slot)
        obtain ⟨P, hP⟩ : ∃ P, P = putsD (startS slot) C := ⟨_, rfl⟩
        simp only [List.map_nil, List.nil_append] at hp1
        rw [← hP] at hp1 ef hpl
        have hp2 := f65 (L := P ++ [syncD]) (a := 0) (S := [superS run slot]) (by simp; omega) (by simp) (by omega)
        simp only [push_cast, sevalprocAttr, oDo, syncD, eS, oS, putsD, putsW, Int.natCast_zero, List.map_append] at hc2 hp2
        have h127 : ¬ (127 : Int) < C.length := by omega
        simp (maxSteps := 1000000) (disch := first | assumption | ((try simp only [LEN, LEN2]); omega)) only [push_cast, sevalprocAttr, g58, pf58, b58, hok, h1, hR, h127, callC_eq hc1, callC_eq hc2, callT_eq hc1, callT_eq hc2, callT_eq hp1, callT_eq hp2, oDo, oS]
        rw [e, ef]
        simp [layT, oDo, syncD, putsD, putsW]
      · have e : layR run slot m = ([], ⟨0, 0, 0, 0⟩, 5) := by unfold layR; rw [if_neg (by rw [hok]; simp), if_neg h1, if_neg h2]
        have hR : okR ⟨1, image m⟩ = false := by
          simp only [okR, Bool.and_eq_false_iff, decide_eq_false_iff_not]; left; omega
        simp (maxSteps := 1000000) (disch := first | assumption | ((try simp only [LEN, LEN2]); omega)) only [push_cast, sevalprocAttr, g58, pf58, b58, hok, h1, hR, e]
        rfl
theorem f58c {run slot : Int} {m : Map} (hm : smM m) (hr : okN run) (hs : slot = 0 ∨ slot = 1) : type_of% (cE (f58 (run := run) (slot := slot) (m := m) hm hr hs)) := cE (f58 (run := run) (slot := slot) (m := m) hm hr hs)
attribute [push_cast] f58c
end Go.Mir.Tryz

set_option linter.unusedVariables false
set_option linter.unusedSimpArgs false
set_option maxRecDepth 100000
namespace Go.Mir.Tryz
open Go.Proofs Go.Mir.Q
set_option maxHeartbeats 2000000 in
theorem f56 {m : Map} (hm : smM m) : Fun G 56 [.one (.d (.sl (m.map eMp)))] (layT (layR 1 0 m).1 (layR 1 0 m).2.1 (layR 1 0 m).2.2, []) := by
  refine Fun.of_run (g := g56) (pf := pf56) rfl rfl rfl rfl ?_
  have h := f58 (run := 1) (slot := 0) hm ⟨by omega, by omega⟩ (.inl rfl)
  simp only [layT] at h
  simp (maxSteps := 1000000) (disch := first | assumption | ((try simp only [LEN, LEN2]); omega)) only [push_cast, sevalprocAttr, g56, pf56, b56, callC_eq h, callT_eq h]
  try rfl
theorem f56c {m : Map} (hm : smM m) : type_of% (cE (f56 (m := m) hm)) := cE (f56 (m := m) hm)
attribute [push_cast] f56c
end Go.Mir.Tryz

set_option linter.unusedVariables false
set_option linter.unusedSimpArgs false
set_option maxRecDepth 100000
namespace Go.Mir.Tryz
open Go.Proofs Go.Mir.Q
def turnP (s : List UInt8) : Wal × Bool :=
  if runOf s < 1 ∨ 1073741824 ≤ runOf s then (⟨runOf s, 0, 0, 0⟩, false) else
  (⟨runOf s, (whole1 0 (runOf s) [s]).1.Commit - 1, 0, 0⟩, decide ((whole1 0 (runOf s) [s]).2 = 1 ∧ (whole1 0 (runOf s) [s]).1.Writes = [] ∧ ((whole1 0 (runOf s) [s]).1.Commit - 1 = 0 ∨ (whole1 0 (runOf s) [s]).1.Commit - 1 = 1)))
theorem turnP_eq (s : List UInt8) : turnT s = if (turnP s).2 = true then some ((turnP s).1.Run, (turnP s).1.Slot) else none := by
  unfold turnP
  by_cases h : runOf s < 1 ∨ 1073741824 ≤ runOf s
  · rw [if_pos h, turnT, if_neg (by omega)]; simp
  · rw [if_neg h, turn_eq (by omega) (by omega)]
    simp only [decide_eq_true_eq]
theorem runOf_pre {s : List UInt8} {i : Nat} (h : 4 + i < s.length) (hi : i < 4) : num (((s.drop 4).take (i + 1))) = num ((s.drop 4).take i) * 256 + (s[4 + i]).toNat := by
  rw [List.take_succ_eq_append_getElem (by rw [List.length_drop]; omega), num_snoc, List.getElem_drop]
theorem whole_bd {run n : Int} {L : List (List UInt8)} : ∀ {l : List (List UInt8)} {i : Nat} {b : List UInt8}, whole run n L l i b = (⟨0, []⟩, 0) ∨ okR (whole run n L l i b).1 = true
  | [], i, b => .inl rfl
  | s :: ss, i, b => by
    have ih := whole_bd (run := run) (n := n) (L := L) (l := ss) (i := i + 1) (b := b ++ (s.drop 12).take (s[11]?.getD 0).toNat)
    unfold whole
    split
    · exact .inl rfl
    · split
      · exact .inl rfl
      · split
        · exact ih
        · cases ht : take (b ++ (s.drop 12).take (s[11]?.getD 0).toNat) with
          | none => exact .inl rfl
          | some r =>
            simp only
            split
            · exact .inr (take_ok ht)
            · exact .inl rfl
theorem okR_commit {r : Record} (h : okR r = true) : 1 ≤ r.Commit ∧ r.Commit ≤ 1073741824 := by
  simp only [okR, Bool.and_eq_true, decide_eq_true_eq] at h
  omega
set_option maxHeartbeats 2000000 in
theorem f40 {s : List UInt8} (hs : s.length = 32) : Fun G 40 [.str (bs s)] (.tup [(true, cWal (turnP s).1), (false, [.d (.sc (.bool (turnP s).2))])], []) := by
  refine Fun.of_run (g := g40) (pf := pf40) rfl rfl rfl rfl ?_
  simp (maxSteps := 1000000) (disch := first | assumption | ((try simp only [LEN, LEN2]); omega)) only [push_cast, sevalprocAttr, g40, pf40, b40]
  refine run_loop' (fun i : Nat => [(0, T.str (bs s)), (2, T.one (.box [.d (.sc (.int .i64 (num ((s.drop 4).take i)))), .d (.sc (.int .i64 0)), .d (.sc (.int .i64 0)), .d (.sc (.int .i64 0))])), (7, T.int .i64 i)]) (fun i => i ≤ 4) (fun i => 4 - i) 0 rfl (by omega) (fun i hi => ?_)
  have hb := num_bd6 ((s.drop 4).take i) (by rw [List.length_take]; omega)
  by_cases h : (i : Int) < 4
  · have hi' : i < 4 := by omega
    have h2 := runOf_pre (s := s) (i := i) (by omega) hi'
    obtain ⟨n, hn⟩ : ∃ n, n = num ((s.drop 4).take i) := ⟨_, rfl⟩
    rw [← hn] at hb h2
    have e := or_byte (a := n) (b := (s[4 + i]'(by omega)).toNat) hb.1 (by omega) (by omega) (by have := (s[4 + i]'(by omega)).toNat_lt; omega)
    have e4 : (4 + (i : Int)).toNat = 4 + i := by omega
    simp (maxSteps := 1000000) (disch := first | assumption | ((try simp only [LEN, LEN2]); omega)) only [push_cast, sevalprocAttr, g40, pf40, b40, h, ← hn, e, e4]
    refine ⟨i + 1, ?_, by omega, by omega⟩
    rw [h2]
    simp
  · obtain rfl : i = 4 := by omega
    have e : num ((s.drop 4).take 4) = runOf s := rfl
    rw [e] at hb
    unfold turnP
    obtain ⟨n, hn⟩ : ∃ n, n = runOf s := ⟨_, rfl⟩
    rw [e]
    rw [← hn] at hb ⊢
    by_cases h1 : n < 1
    · simp (maxSteps := 1000000) (disch := first | assumption | ((try simp only [LEN, LEN2]); omega)) only [push_cast, sevalprocAttr, g40, pf40, b40, h1]
    · by_cases h2 : 1073741824 ≤ n
      · simp (maxSteps := 1000000) (disch := first | assumption | ((try simp only [LEN, LEN2]); omega)) only [push_cast, sevalprocAttr, g40, pf40, b40, h1, h2]
      · rw [if_neg (by omega)]
        have hw := f42 (run := 0) (nn := n) (L := [s]) (by simp)
        have hle := whole1_le 0 n [s]
        obtain ⟨⟨⟨c, ws⟩, k⟩, hW⟩ : ∃ x, whole1 0 n [s] = x := ⟨_, rfl⟩
        rw [hW] at hw hle ⊢
        have hcb : 0 ≤ c ∧ c ≤ 1073741824 := by
          rcases whole_bd (run := 0) (n := n) (L := [s]) (l := [s]) (i := 0) (b := []) with g | g
          · rw [show whole 0 n [s] [s] 0 [] = whole1 0 n [s] from rfl, hW] at g
            simp only [Prod.mk.injEq, Q.Record.mk.injEq] at g
            omega
          · rw [show whole 0 n [s] [s] 0 [] = whole1 0 n [s] from rfl, hW] at g
            have := okR_commit g
            simp only at this; omega
        simp only [push_cast, sevalprocAttr, eS] at hw hle
        by_cases hk : k = 1
        · subst hk
          by_cases hws : ws = []
          · subst hws
            by_cases h3 : c - 1 = 0
            · simp (maxSteps := 1000000) (disch := first | assumption | ((try simp only [LEN, LEN2]); omega)) only [push_cast, sevalprocAttr, g40, pf40, b40, h1, h2, callC_eq hw, h3, oW]
              done
            · by_cases h4 : c - 1 = 1
              · simp (maxSteps := 1000000) (disch := first | assumption | ((try simp only [LEN, LEN2]); omega)) only [push_cast, sevalprocAttr, g40, pf40, b40, h1, h2, callC_eq hw, h3, h4, oW]
                done
              · simp (maxSteps := 1000000) (disch := first | assumption | ((try simp only [LEN, LEN2]); omega)) only [push_cast, sevalprocAttr, g40, pf40, b40, h1, h2, callC_eq hw, h3, h4, oW]
                done
          · have h5 : ¬ (ws.length : Int) = 0 := fun hh => hws (List.length_eq_zero_iff.1 (by omega))
            simp (maxSteps := 1000000) (disch := first | assumption | ((try simp only [LEN, LEN2]); omega)) only [push_cast, sevalprocAttr, g40, pf40, b40, h1, h2, callC_eq hw, hws, h5]
            done
        · have h6 : ¬ (k : Int) = 1 := by omega
          simp (maxSteps := 1000000) (disch := first | assumption | ((try simp only [LEN, LEN2]); omega)) only [push_cast, sevalprocAttr, g40, pf40, b40, h1, h2, callC_eq hw, hk, h6]
          done
theorem f40c {s : List UInt8} (hs : s.length = 32) : type_of% (cE (f40 (s := s) hs)) := cE (f40 (s := s) hs)
attribute [push_cast] f40c
end Go.Mir.Tryz

set_option linter.unusedVariables false
set_option linter.unusedSimpArgs false
set_option maxRecDepth 100000
namespace Go.Mir.Tryz
open Go.Proofs Go.Mir.Q
def rowsP (tables : Nat) (r : Record) : Map × Bool :=
  if goodP tables 0 r.Writes = true then (groupT tables r.Writes, decide (r.Commit = 1) && okM (groupT tables r.Writes)) else ([], false)
theorem groupT_len (tables : Nat) (ws : List Write) : (groupT tables ws).length = tables := by simp [groupT]
theorem groupT_sm {tables : Nat} {ws : List Write} (ht : tables ≤ 1048576) (h : smW ws) : smM (groupT tables ws) := by
  refine ⟨by rw [groupT_len]; exact ht, fun l hl => ?_⟩
  simp only [groupT, List.mem_map, List.mem_range] at hl
  obtain ⟨t, _, rfl⟩ := hl
  refine ⟨?_, fun x hx => ?_⟩
  · rw [List.length_map]; exact Nat.le_trans (List.length_filter_le _ _) h.1
  · obtain ⟨w, hw, rfl⟩ := List.mem_map.1 hx
    exact h.2 w (List.mem_filter.1 hw).1
theorem goodP_pre {tables : Nat} : ∀ {ws k : List Write} {last : Int}, goodP tables last (ws ++ k) = true → goodP tables last ws = true
  | [], _, _, _ => rfl
  | w :: ws, k, last, h => by
    simp only [List.cons_append, goodP, Bool.and_eq_true] at h ⊢
    exact ⟨h.1, goodP_pre h.2⟩
theorem goodP_bad {tables : Nat} {ws : List Write} {last : Int} {k : Nat} (h : goodP tables last (ws.take k) = false) : goodP tables last ws = false := by
  rw [← Bool.not_eq_true]
  intro hh
  rw [← List.take_append_drop k ws] at hh
  rw [goodP_pre hh] at h
  cases h
theorem groupT_nil (tables : Nat) : groupT tables [] = List.replicate tables [] := by
  simp only [groupT, List.filter_nil, List.map_nil, List.map_const', List.length_range]
def lastT (ws : List Write) : Int := (ws.getLast?.map (·.Table)).getD 0
set_option maxHeartbeats 2000000 in
theorem f43 {n : Int} {l : List Write} {tables : Nat} (hs : smW l) (ht : tables ≤ 1048576) (h0 : ∀ w ∈ l, 0 ≤ w.Table) : Fun G 43 [.vs true [.d (.sc (.int .i64 n)), .d (.sl (l.map eW))], .int .i64 tables] (.tup [(false, [.own 79 ((rowsP tables ⟨n, l⟩).1.map oMp)]), (false, [.d (.sc (.bool (rowsP tables ⟨n, l⟩).2))])], []) := by
  refine Fun.of_run (g := g43) (pf := pf43) rfl rfl rfl rfl ?_
  have hs1 := hs.1
  simp (maxSteps := 1000000) (disch := first | assumption | ((try simp only [LEN, LEN2]); omega)) only [push_cast, sevalprocAttr, g43, pf43, b43]
  refine run_loop' (fun i : Nat => [(1, T.int .i64 tables), (2, T.one (.box [.d (.sc (.int .i64 n)), .d (.sl (l.map eW))])), (6, T.one (.own 79 ((groupT tables (l.take i)).map oMp))), (7, T.int .i64 (lastT (l.take i))), (13, T.one (.d (.sl (l.map eW)))), (14, T.int .i64 l.length), (15, T.int .i64 i)]) (fun i => i ≤ l.length ∧ goodP tables 0 (l.take i) = true) (fun i => l.length - i) 0 (by rw [List.take_zero, groupT_nil, List.map_replicate]; rfl) ⟨Nat.zero_le _, rfl⟩ (fun i hi => ?_)
  obtain ⟨hi, hg⟩ := hi
  by_cases h : (i : Int) < l.length
  · have hi' : i < l.length := by omega
    have ht0 := h0 l[i] (List.getElem_mem hi')
    obtain ⟨w, hw⟩ : ∃ w, w = l[i] := ⟨_, rfl⟩
    have hgs : goodP tables 0 (l.take (i + 1)) = decide (w.Table < tables ∧ lastT (l.take i) ≤ w.Table ∧ w.Gone = false) := by
      rw [List.take_succ_eq_append_getElem hi', goodP_snoc, hg, ← hw]; rfl
    have hno : decide (w.Table < tables ∧ lastT (l.take i) ≤ w.Table ∧ w.Gone = false) = false → rowsP tables ⟨n, l⟩ = ([], false) := fun hx => by
      rw [hx] at hgs
      unfold rowsP
      rw [if_neg (by rw [goodP_bad hgs]; simp)]
    rw [← hw] at ht0
    by_cases h1 : (tables : Int) ≤ w.Table
    · simp (maxSteps := 1000000) (disch := first | assumption | ((try simp only [LEN, LEN2]); omega)) only [push_cast, sevalprocAttr, g43, pf43, b43, h, eW, ← hw, h1, hno (by simp; omega)]
      done
    · by_cases h2 : w.Table < lastT (l.take i)
      · simp (maxSteps := 1000000) (disch := first | assumption | ((try simp only [LEN, LEN2]); omega)) only [push_cast, sevalprocAttr, g43, pf43, b43, h, eW, ← hw, h1, h2, hno (by simp; omega)]
        done
      · cases h3 : w.Gone with
        | true =>
          simp (maxSteps := 1000000) (disch := first | assumption | ((try simp only [LEN, LEN2]); omega)) only [push_cast, sevalprocAttr, g43, pf43, b43, h, eW, ← hw, h1, h2, h3, hno (by simp [h3])]
          done
        | false =>
          obtain ⟨k, hk⟩ : ∃ k : Nat, w.Table = k := Int.eq_ofNat_of_zero_le ht0
          have hkl : k < tables := by omega
          have h1' := h1
          have h2' := h2
          rw [hk] at h1' h2'
          obtain ⟨M, hM⟩ : ∃ M, M = groupT tables (l.take i) := ⟨_, rfl⟩
          have hML : M.length = tables := by rw [hM, groupT_len]
          have hMs := groupT_sm ht (ws := l.take i) ⟨by rw [List.length_take]; omega, fun x hx => hs.2 x (List.mem_of_mem_take hx)⟩
          rw [← hM] at hMs
          have hx := (hMs.2 (M[k]'(by omega)) (List.getElem_mem _)).1
          have hgn := group_snoc (tables := tables) (ws := l.take i) (w := w) (k := k) hk hkl
          rw [← hM, List.getElem?_eq_getElem (by omega), Option.getD_some] at hgn
          simp (maxSteps := 1000000) (disch := first | assumption | ((try simp only [LEN, LEN2]); omega)) only [push_cast, sevalprocAttr, g43, pf43, b43, h, eW, ← hw, h1', h2', h3, ← hM, hk, oMp]
          refine ⟨i + 1, ?_, ⟨by omega, by rw [hgs]; simp only [decide_eq_true_eq]; exact ⟨by omega, by omega, h3⟩⟩, by omega⟩
          rw [List.take_succ_eq_append_getElem hi', ← hw, hgn]
          rw [List.map_set]
          simp [oMp, oRow, lastT, hk]
  · obtain rfl : i = l.length := by omega
    rw [List.take_length] at hg ⊢
    have hsm := groupT_sm (tables := tables) ht hs
    have e : rowsP tables ⟨n, l⟩ = (groupT tables l, decide (n = 1) && okM (groupT tables l)) := by unfold rowsP; rw [if_pos hg]
    have hlen := hsm.1
    by_cases h1 : n = 1
    · subst h1
      simp (maxSteps := 1000000) (disch := first | assumption | ((try simp only [LEN, LEN2]); omega)) only [push_cast, sevalprocAttr, g43, pf43, b43, h, e]
      done
    · simp (maxSteps := 1000000) (disch := first | assumption | ((try simp only [LEN, LEN2]); omega)) only [push_cast, sevalprocAttr, g43, pf43, b43, h, h1, e]
      done
theorem f43c {n : Int} {l : List Write} {tables : Nat} (hs : smW l) (ht : tables ≤ 1048576) (h0 : ∀ w ∈ l, 0 ≤ w.Table) : type_of% (cE (f43 (n := n) (l := l) (tables := tables) hs ht h0)) := cE (f43 (n := n) (l := l) (tables := tables) hs ht h0)
attribute [push_cast] f43c
def openP (S : List (List UInt8)) (W : List Put) (tables : Int) : Map × List Record × Wal × Int :=
  if okT S W = true ∧ S.length = 512 ∧ W = [] ∧ 1 ≤ tables ∧ tables ≤ 3 then
    match openT S tables.toNat with
    | some (m, l, w) => (m, l, w, 0)
    | none => ([], [], ⟨0, 0, 0, 0⟩, 10)
  else ([], [], ⟨0, 0, 0, 0⟩, 1)
theorem runF_cnt (run : Int) (L : List (List UInt8)) : ∀ (j : Nat) (n : Int) (m : Nat), m + (runF run L j n m).1.length ≤ (runF run L j n m).2
  | 0, n, m => by simp [runF]
  | j + 1, n, m => by
    unfold runF
    split
    · simp
    · dsimp only
      split
      · simp
      · have := runF_cnt run L j (n + 1) (m + (whole1 run n (L.drop m)).2); simp only [List.length_cons]; omega
theorem rd_cnt (run n : Int) (L : List (List UInt8)) : (rd run n L).1.length ≤ (rd run n L).2 := by have := runF_cnt run L (L.length + 1) n 0; simp only [rd]; omega
theorem turnP_bd (s : List UInt8) : (turnP s).1.At = 0 ∧ (turnP s).1.Seq = 0 ∧ 0 ≤ (turnP s).1.Run ∧ (turnP s).1.Run < 281474976710656 := by
  have h := num_bd6 ((s.drop 4).take 4) (by rw [List.length_take]; omega)
  unfold turnP
  split <;> exact ⟨rfl, rfl, h.1, h.2⟩
theorem open_none {S : List (List UInt8)} {tables : Nat} (h : turnT (S[0]?.getD []) = none) : openT S tables = none := by simp only [openT, h]
theorem open_some {S : List (List UInt8)} {tables : Nat} {run slot : Int} {r : Record} {k : Nat} {l : List Record} {n : Nat} (h : turnT (S[0]?.getD []) = some (run, slot)) (hw : whole1 run 0 (seg S slot) = (r, k)) (hr : rd run 1 (S.drop 255) = (l, n)) :
    openT S tables = if k = 0 then none else match rowsT tables r with | none => none | some m => some (m, l, ⟨run, slot, 255 + (n : Nat), 1 + (l.length : Nat)⟩) := by
  simp only [openT, h, hw, hr]
  rfl
theorem rowsP_eq {tables : Nat} {r : Record} (hr : okR r = true) : rowsT tables r = if (rowsP tables r).2 = true then some (rowsP tables r).1 else none := by
  rw [rows_eq hr]
  unfold rowsP
  by_cases hg : goodP tables 0 r.Writes = true
  · rw [if_pos hg]
    simp [hg]
  · rw [if_neg hg, if_neg (fun h => hg h.1)]
    rfl
abbrev openR (m : Map) (l : List Record) (w : Wal) (e : Int) : T := .tup [(false, [.own 79 (m.map oMp)]), (false, [.own 70 (l.map oR)]), (true, cWal w), (false, [.d (.sc (.int .i64 e))])]
set_option maxHeartbeats 2000000 in
theorem f12 {S : List (List UInt8)} {W : List Put} {tables : Int} (h1 : S.length ≤ 1048576) (h3 : W.length ≤ 1048576) : Fun G 12 [.vs true (cT S W), .int .i64 tables] (openR (openP S W tables).1 (openP S W tables).2.1 (openP S W tables).2.2.1 (openP S W tables).2.2.2, []) := by
  refine Fun.of_run (g := g12) (pf := pf12) rfl rfl rfl rfl ?_
  cases hok : okT S W with
  | false =>
    have e : openP S W tables = ([], [], ⟨0, 0, 0, 0⟩, 1) := by unfold openP; rw [if_neg (by simp [hok])]
    simp (maxSteps := 1000000) (disch := first | assumption | ((try simp only [LEN, LEN2]); omega)) only [push_cast, sevalprocAttr, g12, pf12, b12, hok, e]
    rfl
  | true =>
    by_cases hl : S.length = 512
    · by_cases hW : W = []
      · subst hW
        have hmay := f39 (S := S) (W := []) (by omega) (by simp)
        simp only [push_cast, sevalprocAttr, cT, hok] at hmay
        by_cases ht1 : tables < 1
        · have e : openP S [] tables = ([], [], ⟨0, 0, 0, 0⟩, 1) := by unfold openP; rw [if_neg (by omega)]
          simp (maxSteps := 1000000) (disch := first | assumption | ((try simp only [LEN, LEN2]); omega)) only [push_cast, sevalprocAttr, g12, pf12, b12, callC_eq hmay, hl, ht1, e]
          rfl
        · by_cases ht3 : 3 < tables
          · have e : openP S [] tables = ([], [], ⟨0, 0, 0, 0⟩, 1) := by unfold openP; rw [if_neg (by omega)]
            simp (maxSteps := 1000000) (disch := first | assumption | ((try simp only [LEN, LEN2]); omega)) only [push_cast, sevalprocAttr, g12, pf12, b12, callC_eq hmay, hl, ht1, ht3, e]
            rfl
          · have e : openP S [] tables = match openT S tables.toNat with | some (m, l, w) => (m, l, w, 0) | none => ([], [], ⟨0, 0, 0, 0⟩, 10) := by unfold openP; rw [if_pos ⟨hok, hl, rfl, by omega, by omega⟩]
            rw [e]
            have h0 : 0 < S.length := by omega
            have h32 := (okT_iff.1 hok).2.1
            have hs0 : (S[0]).length = 32 := h32 _ (List.getElem_mem h0)
            have hte := turnP_eq S[0]
            have hf := f40 hs0
            obtain ⟨⟨⟨run, slot, a0, q0⟩, ok⟩, hp⟩ : ∃ x, turnP S[0] = x := ⟨_, rfl⟩
            have ha0 : a0 = 0 ∧ q0 = 0 ∧ 0 ≤ run ∧ run < 281474976710656 := by
              have := turnP_bd S[0]
              rw [hp] at this
              exact this
            obtain ⟨rfl, rfl, hr0, hr1⟩ := ha0
            rw [hp] at hf hte
            simp only at hf hte
            obtain ⟨s0, hs⟩ : ∃ s, s = S[0] := ⟨_, rfl⟩
            have hs0' : s0 = S[0]?.getD [] := by rw [hs, List.getElem?_eq_getElem h0]; rfl
            rw [← hs] at hf hte
            cases ok with
            | false =>
              rw [if_neg (by simp)] at hte
              rw [open_none (by rw [← hs0']; exact hte)]
              simp (maxSteps := 1000000) (disch := first | assumption | ((try simp only [LEN, LEN2]); omega)) only [push_cast, sevalprocAttr, g12, pf12, b12, callC_eq hmay, hl, ht1, ht3, eS, ← hs, callC_eq hf]
              rfl
            | true =>
              rw [if_pos rfl] at hte
              have hst := startS_le (slot := slot)
              obtain ⟨A, hA⟩ : ∃ A, A = startS slot := ⟨_, rfl⟩
              have eA : ((A : Int) + 127).toNat = A + 127 := by omega
              have hseg : (S.take (A + 127)).drop A = seg S slot := by rw [seg, ← hA, List.drop_take]; congr 1; omega
              obtain ⟨Z, hZ⟩ : ∃ Z, Z = seg S slot := ⟨_, rfl⟩
              rw [← hZ] at hseg
              have hZl : Z.length ≤ 127 := by rw [hZ, seg, List.length_take]; omega
              have hw := f42 (run := run) (nn := 0) (L := Z) (by omega)
              have hbd := whole_bd (run := run) (n := 0) (L := Z) (l := Z) (i := 0) (b := [])
              rw [show whole run 0 Z Z 0 [] = whole1 run 0 Z from rfl] at hbd
              obtain ⟨⟨⟨c, ws⟩, k⟩, hW⟩ : ∃ x, whole1 run 0 Z = x := ⟨_, rfl⟩
              rw [hW] at hw hbd
              have hsm : smW ws ∧ ∀ w ∈ ws, 0 ≤ w.Table := by
                rcases hbd with g | g
                · simp only [Prod.mk.injEq, Q.Record.mk.injEq] at g
                  rw [g.1.2]
                  exact ⟨⟨by simp, by simp⟩, by simp⟩
                · refine ⟨okR_smW g, fun w hw => ?_⟩
                  simp only [okR, Bool.and_eq_true, List.all_eq_true] at g
                  have := g.2 w hw
                  simp only [okW, decide_eq_true_eq] at this
                  omega
              have hdl : (S.drop 255).length ≤ 4000000 := by rw [List.length_drop]; omega
              have hrd := f44 (run := run) (n0 := 1) (L := S.drop 255) hdl ⟨by omega, by omega⟩
              have hcn := rd_cnt run 1 (S.drop 255)
              have hcl := rd_le run 1 (S.drop 255)
              have htk : S.take 512 = S := List.take_of_length_le (by omega)
              obtain ⟨⟨R, n⟩, hR⟩ : ∃ x, rd run 1 (S.drop 255) = x := ⟨_, rfl⟩
              rw [hR] at hrd hcn hcl
              rw [List.length_drop] at hcl
              simp only at hcn hcl
              rw [open_some (r := ⟨c, ws⟩) (k := k) (by rw [← hs0']; exact hte) (by rw [← hZ]; exact hW) hR]
              obtain ⟨tb, htb⟩ : ∃ tb : Nat, tables = tb := Int.eq_ofNat_of_zero_le (by omega)
              subst htb
              have hrw := f43 (n := c) (tables := tb) hsm.1 (by omega) hsm.2
              simp only [push_cast, sevalprocAttr] at hw hrd hrw
              by_cases hk : k = 0
              · subst hk
                rw [if_pos rfl]
                simp (maxSteps := 1000000) (disch := first | assumption | ((try simp only [LEN, LEN2]); omega)) only [push_cast, sevalprocAttr, g12, pf12, b12, callC_eq hmay, hl, ht1, ht3, eS, ← hs, callC_eq hf, ← hA, eA, hseg, callC_eq hw, callC_eq hrd, callC_eq hrw]
                rfl
              · have hk1 : ¬ (k : Int) = 0 := by omega
                rw [if_neg hk, rowsP_eq (whole_sound hW hk).2, Int.toNat_natCast]
                obtain ⟨⟨m, okm⟩, hm⟩ : ∃ x, rowsP tb ⟨c, ws⟩ = x := ⟨_, rfl⟩
                rw [hm] at hrw ⊢
                cases okm with
                | false =>
                  simp (maxSteps := 1000000) (disch := first | assumption | ((try simp only [LEN, LEN2]); omega)) only [push_cast, sevalprocAttr, g12, pf12, b12, callC_eq hmay, hl, ht1, ht3, eS, ← hs, callC_eq hf, ← hA, eA, hseg, callC_eq hw, callC_eq hrd, callC_eq hrw, hk1]
                  rfl
                | true =>
                  simp (maxSteps := 1000000) (disch := first | assumption | ((try simp only [LEN, LEN2]); omega)) only [push_cast, sevalprocAttr, g12, pf12, b12, callC_eq hmay, hl, ht1, ht3, eS, ← hs, callC_eq hf, ← hA, eA, hseg, callC_eq hw, callC_eq hrd, callC_eq hrw, hk1, htk]
      · have e : openP S W tables = ([], [], ⟨0, 0, 0, 0⟩, 1) := by unfold openP; rw [if_neg (fun h => hW h.2.2.1)]
        have hWl : (0 : Int) < W.length := by have := List.length_pos_iff.2 hW; omega
        simp (maxSteps := 1000000) (disch := first | assumption | ((try simp only [LEN, LEN2]); omega)) only [push_cast, sevalprocAttr, g12, pf12, b12, hok, hl, hWl, e]
        rfl
    · have e : openP S W tables = ([], [], ⟨0, 0, 0, 0⟩, 1) := by unfold openP; rw [if_neg (fun h => hl h.2.1)]
      have hl2 : ¬ (S.length : Int) = 512 := by omega
      simp (maxSteps := 1000000) (disch := first | assumption | ((try simp only [LEN, LEN2]); omega)) only [push_cast, sevalprocAttr, g12, pf12, b12, hok, hl2, e]
      rfl
theorem f12c {S : List (List UInt8)} {W : List Put} {tables : Int} (h1 : S.length ≤ 1048576) (h3 : W.length ≤ 1048576) : type_of% (cE (f12 (S := S) (W := W) (tables := tables) h1 h3)) := cE (f12 (S := S) (W := W) (tables := tables) h1 h3)
attribute [push_cast] f12c
end Go.Mir.Tryz

set_option linter.unusedVariables false
set_option linter.unusedSimpArgs false
set_option maxRecDepth 100000
namespace Go.Mir.Tryz
open Go.Proofs Go.Mir.Q
theorem f28 {m : Map} (hm : smM m) : ∃ n : Int, Fun G 28 [.one (.d (.sl (m.map eMp)))] (.int .i64 n, []) ∧ 0 ≤ n ∧ n ≤ 2097152 := by
  obtain ⟨hl, h⟩ := hm
  obtain ⟨r, h1, n, rfl, h2⟩ := Fun.ex_of_run (G := G) (f := 28) (args := [.one (.d (.sl (m.map eMp)))]) (Q := fun r => ∃ n : Int, r = (.int .i64 n, []) ∧ 0 ≤ n ∧ n ≤ 2097152) (g := g28) (pf := pf28) rfl rfl rfl rfl (by
    simp (maxSteps := 1000000) (disch := first | assumption | ((try simp only [LEN, LEN2]); omega)) only [push_cast, sevalprocAttr, g28, pf28, b28]
    refine run_loop' (fun x : Nat × Int => [(0, T.one (.d (.sl (m.map eMp)))), (3, T.int .i64 x.2), (4, T.int .i64 x.1)]) (fun x => x.1 ≤ m.length ∧ 0 ≤ x.2 ∧ x.2 ≤ 2097152) (fun x => m.length - x.1) (0, m.length) rfl (by simp only; omega) (fun ⟨i, n⟩ hi => ?_)
    simp only at hi
    by_cases h1 : (i : Int) < m.length
    · have hi' : i < m.length := by omega
      obtain ⟨hs1, hs2⟩ := h m[i] (List.getElem_mem hi')
      obtain ⟨l, hl0⟩ : ∃ l, l = m[i] := ⟨_, rfl⟩
      rw [← hl0] at hs1 hs2
      by_cases h2 : n < 1048576
      · simp (maxSteps := 1000000) (disch := first | assumption | ((try simp only [LEN, LEN2]); omega)) only [push_cast, sevalprocAttr, g28, pf28, b28, h1, h2, eMp, ← hl0]
        refine run_loop' (fun x : Nat × Int => [(0, T.one (.d (.sl (m.map eMp)))), (3, T.int .i64 x.2), (4, T.int .i64 i), (5, T.int .i64 x.1)]) (fun x => x.1 ≤ l.length ∧ 0 ≤ x.2 ∧ x.2 ≤ 2097152) (fun x => l.length - x.1) (0, n + l.length) rfl (by simp only; omega) (fun ⟨k, n⟩ hk => ?_)
        simp only at hk
        by_cases h3 : (k : Int) < l.length
        · have hk' : k < l.length := by omega
          have hs := hs2 l[k] (List.getElem_mem hk')
          by_cases h4 : n < 1048576
          · simp (maxSteps := 1000000) (disch := first | assumption | ((try simp only [LEN, LEN2]); omega)) only [push_cast, sevalprocAttr, g28, pf28, b28, h3, h4, eMp, ← hl0, eRow]
            exact ⟨(k + 1, n + ((l[k].Key.length : Int) + l[k].Value.length) / 8), rfl, by simp only; omega, by simp only; omega⟩
          · simp (maxSteps := 1000000) (disch := first | assumption | ((try simp only [LEN, LEN2]); omega)) only [push_cast, sevalprocAttr, g28, pf28, b28, h3, h4, eMp, ← hl0]
            exact ⟨(i + 1, n), rfl, by simp only; omega, by simp only; omega⟩
        · simp (maxSteps := 1000000) (disch := first | assumption | ((try simp only [LEN, LEN2]); omega)) only [push_cast, sevalprocAttr, g28, pf28, b28, h3, eMp, ← hl0]
          exact ⟨(i + 1, n), rfl, by simp only; omega, by simp only; omega⟩
      · simp (maxSteps := 1000000) (disch := first | assumption | ((try simp only [LEN, LEN2]); omega)) only [push_cast, sevalprocAttr, g28, pf28, b28, h1, h2]
        exact ⟨n, rfl, hi.2⟩
    · simp (maxSteps := 1000000) (disch := first | assumption | ((try simp only [LEN, LEN2]); omega)) only [push_cast, sevalprocAttr, g28, pf28, b28, h1]
      exact ⟨n, rfl, hi.2⟩)
  exact ⟨n, h1, h2⟩
def eMaps (m : Map) : List D := [.sl (m.map eMp)]
abbrev cAsk (M : List Map) (R : List Record) (S : List (List UInt8)) (N1 : List Int) (L : List (List (List UInt8))) (W : List Wal) (K N : List Int) : List V :=
  [.d (.sl (M.map eMaps)), .d (.sl (R.map eR)), .d (.sl (S.map eS)), .d (.sl (N1.map eN)), .d (.sl (L.map fun l => [.sl (l.map eS)])), .d (.sl (W.map eWal)), .d (.sl (K.map eN)), .d (.sl (N.map eN))]
structure smAsk (M : List Map) (R : List Record) (S : List (List UInt8)) (N1 : List Int) (L : List (List (List UInt8))) (W : List Wal) (K N : List Int) : Prop where
  m : M.length ≤ 1048576
  mm : ∀ m ∈ M, smM m
  r : smR R
  s : smS S
  n1 : N1.length ≤ 1048576
  l : L.length ≤ 1048576 ∧ ∀ l ∈ L, smS l
  w : W.length ≤ 1048576
  k : K.length ≤ 1048576 ∧ ∀ x ∈ K, okN x
  n : N.length ≤ 1048576 ∧ ∀ x ∈ N, okN x
theorem f6 {M : List Map} {R : List Record} {S : List (List UInt8)} {N1 : List Int} {L : List (List (List UInt8))} {W : List Wal} {K N : List Int} (h : smAsk M R S N1 L W K N) : ∃ b : Bool, Fun G 6 [.vs true (cAsk M R S N1 L W K N)] (.bool b, []) := by
  obtain ⟨b17, h17⟩ := f29 h.r h.s h.n1 h.l
  have hm := h.m
  have hw := h.w
  have hk := h.k.1
  have hn := h.n.1
  obtain ⟨r, h1, b, rfl⟩ := Fun.ex_of_run (G := G) (f := 6) (args := [.vs true (cAsk M R S N1 L W K N)]) (Q := fun r => ∃ b : Bool, r = (.bool b, [])) (g := g6) (pf := pf6) rfl rfl rfl rfl (by
    simp (maxSteps := 1000000) (disch := first | assumption | ((try simp only [LEN, LEN2]); omega)) only [push_cast, sevalprocAttr, g6, pf6, b6]
    refine run_loop' (fun x : Nat × Int => [(1, T.one (.box (cAsk M R S N1 L W K N))), (3, T.int .i64 x.2), (4, T.int .i64 x.1)]) (fun x => x.1 ≤ M.length ∧ 0 ≤ x.2 ∧ x.2 ≤ 8388608) (fun x => M.length - x.1) (0, M.length + W.length + K.length + N.length) rfl (by simp only; omega) (fun ⟨i, n⟩ hi => ?_)
    simp only at hi
    by_cases h1 : (i : Int) < M.length
    · have hi' : i < M.length := by omega
      by_cases h2 : n < 1048576
      · obtain ⟨w, hw1, hw2, hw3⟩ := f28 (h.mm M[i] (List.getElem_mem hi'))
        simp (maxSteps := 1000000) (disch := first | assumption | ((try simp only [LEN, LEN2]); omega)) only [push_cast, sevalprocAttr, g6, pf6, b6, h1, h2, eMaps, callC_eq hw1]
        exact ⟨(i + 1, n + w), rfl, by simp only; omega, by simp only; omega⟩
      · by_cases h3 : (700 : Int) < n
        · simp (maxSteps := 1000000) (disch := first | assumption | ((try simp only [LEN, LEN2]); omega)) only [push_cast, sevalprocAttr, g6, pf6, b6, h1, h2, h3]
          exact ⟨_, rfl⟩
        · exact absurd h3 (by omega)
    · by_cases h3 : (700 : Int) < n
      · simp (maxSteps := 1000000) (disch := first | assumption | ((try simp only [LEN, LEN2]); omega)) only [push_cast, sevalprocAttr, g6, pf6, b6, h1, h3]
        exact ⟨_, rfl⟩
      · simp (maxSteps := 1000000) (disch := first | assumption | ((try simp only [LEN, LEN2]); omega)) only [push_cast, sevalprocAttr, g6, pf6, b6, h1, h3, callC_eq h17]
        exact ⟨_, rfl⟩)
  exact ⟨b, h1⟩
def mayR (n : Nat) (r : Record) : Bool := okR r && r.Writes.all fun w => decide (w.Table < n)
set_option maxHeartbeats 2000000 in
theorem f25 {m : Map} {R : List Record} (hm : smM m) (hR : smR R) : Fun G 25 [.one (.d (.sl (m.map eMp))), .one (.d (.sl (R.map eR)))] (.bool (R.all (mayR m.length) && okM m), []) := by
  refine Fun.of_run (g := g25) (pf := pf25) rfl rfl rfl rfl ?_
  obtain ⟨hR1, hR2⟩ := hR
  have hm1 := hm.1
  have hbad : ∀ r ∈ R, mayR m.length r = false → (R.all (mayR m.length) && okM m) = false := fun r hr hb => by
    rw [Bool.and_eq_false_iff]
    left
    rw [← Bool.not_eq_true, List.all_eq_true]
    intro hh
    rw [hh r hr] at hb
    cases hb
  simp (maxSteps := 1000000) (disch := first | assumption | ((try simp only [LEN, LEN2]); omega)) only [push_cast, sevalprocAttr, g25, pf25, b25]
  refine run_loop' (fun i : Nat => [(0, T.one (.d (.sl (m.map eMp)))), (1, T.one (.d (.sl (R.map eR)))), (5, T.int .i64 i)]) (fun i => i ≤ R.length ∧ ∀ x ∈ R.take i, mayR m.length x = true) (fun i => R.length - i) 0 rfl ⟨Nat.zero_le _, by simp⟩ (fun i hi => ?_)
  obtain ⟨hi, ht⟩ := hi
  by_cases h1 : (i : Int) < R.length
  · have hi' : i < R.length := by omega
    have hrm := List.getElem_mem hi'
    have hsw := (hR2 R[i] hrm).1
    obtain ⟨r, hr⟩ : ∃ r, r = R[i] := ⟨_, rfl⟩
    rw [← hr] at hsw hrm
    obtain ⟨c, l⟩ := r
    simp only at hsw
    have hsl := hsw.1
    cases hok : okR ⟨c, l⟩ with
    | false =>
      have hb := hbad _ hrm (by simp [mayR, hok])
      simp (maxSteps := 1000000) (disch := first | assumption | ((try simp only [LEN, LEN2]); omega)) only [push_cast, sevalprocAttr, g25, pf25, b25, h1, eR, ← hr, hok, hb]
    | true =>
      simp (maxSteps := 1000000) (disch := first | assumption | ((try simp only [LEN, LEN2]); omega)) only [push_cast, sevalprocAttr, g25, pf25, b25, h1, eR, ← hr, hok]
      refine run_loop' (fun k : Nat => [(0, T.one (.d (.sl (m.map eMp)))), (1, T.one (.d (.sl (R.map eR)))), (5, T.int .i64 i), (6, T.int .i64 k)]) (fun k => k ≤ l.length ∧ ∀ x ∈ l.take k, x.Table < m.length) (fun k => l.length - k) 0 rfl ⟨Nat.zero_le _, by simp⟩ (fun k hk => ?_)
      obtain ⟨hk, htk⟩ := hk
      by_cases h2 : (k : Int) < l.length
      · have hk' : k < l.length := by omega
        by_cases h3 : (m.length : Int) ≤ l[k].Table
        · have hb := hbad _ hrm (by
            simp only [mayR, Bool.and_eq_false_iff]
            right
            rw [← Bool.not_eq_true, List.all_eq_true]
            intro hh
            have := of_decide_eq_true (hh _ (List.getElem_mem hk'))
            omega)
          simp (maxSteps := 1000000) (disch := first | assumption | ((try simp only [LEN, LEN2]); omega)) only [push_cast, sevalprocAttr, g25, pf25, b25, h2, h3, eR, ← hr, eW, hb]
        · simp (maxSteps := 1000000) (disch := first | assumption | ((try simp only [LEN, LEN2]); omega)) only [push_cast, sevalprocAttr, g25, pf25, b25, h2, h3, eR, ← hr, eW]
          refine ⟨k + 1, rfl, ⟨by omega, fun x hx => ?_⟩, by omega⟩
          rw [List.take_succ_eq_append_getElem hk', List.mem_append, List.mem_singleton] at hx
          rcases hx with hx | rfl
          · exact htk x hx
          · omega
      · simp (maxSteps := 1000000) (disch := first | assumption | ((try simp only [LEN, LEN2]); omega)) only [push_cast, sevalprocAttr, g25, pf25, b25, h2, eR, ← hr]
        refine ⟨i + 1, rfl, ⟨by omega, fun x hx => ?_⟩, by omega⟩
        rw [List.take_succ_eq_append_getElem hi', List.mem_append, List.mem_singleton, ← hr] at hx
        rcases hx with hx | rfl
        · exact ht x hx
        · obtain rfl : k = l.length := by omega
          rw [List.take_length] at htk
          simp only [mayR, hok, Bool.true_and, List.all_eq_true, decide_eq_true_eq]
          exact htk
  · obtain rfl : i = R.length := by omega
    rw [List.take_length] at ht
    have e : R.all (mayR m.length) = true := List.all_eq_true.2 ht
    simp (maxSteps := 1000000) (disch := first | assumption | ((try simp only [LEN, LEN2]); omega)) only [push_cast, sevalprocAttr, g25, pf25, b25, h1, e]
theorem f25c {m : Map} {R : List Record} (hm : smM m) (hR : smR R) : type_of% (cE (f25 (m := m) (R := R) hm hR)) := cE (f25 (m := m) (R := R) hm hR)
attribute [push_cast] f25c
end Go.Mir.Tryz

set_option linter.unusedVariables false
set_option linter.unusedSimpArgs false
set_option maxRecDepth 100000
namespace Go.Mir.Tryz
open Go.Proofs Go.Mir.Q
theorem okT_all {S : List (List UInt8)} (hS : S.length = 512) (h32 : all32 S) : okT S [] = true := okT_iff.2 ⟨⟨by omega, by omega, by simp⟩, h32, by simp⟩
theorem fPlay {S S' : List (List UInt8)} {l : List Do} (hS : S.length = 512) (h32 : all32 S) (hl : smDo l) (h : playT ⟨S, []⟩ l = (0, ⟨S', []⟩)) : Fun G 22 [.vs true (cT S []), .int .i64 (-1), .one (.d (.sl (l.map eDo)))] (tErr' 0 ⟨S', []⟩, []) := by
  have hp := f22 (S := S) (W := []) (n := -1) (l := l) (by omega) (by simp) hl
  have e : playP S [] (-1) l = (0, ⟨S', []⟩) := by
    unfold playP
    rw [if_pos ⟨okT_all hS h32, by omega⟩, show upto (-1) l = l from rfl, h]
  rw [e] at hp
  exact hp
theorem smDo_lay {run slot : Int} {m : Map} (hm : okM m = true) (h64 : (image m).length ≤ 64) : smDo (layD run slot m) := by
  have hc := okR_cnt (image_okR hm h64)
  refine ⟨?_, fun d hd => ?_⟩
  · simp only [layD, List.length_append, List.length_cons, putsD_len, cuts_len, List.length_nil]; omega
  · simp only [layD, putsD, List.mem_append, List.mem_cons, List.mem_map, List.not_mem_nil, or_false] at hd
    rcases hd with ⟨p, hp, rfl⟩ | rfl | ⟨p, hp, rfl⟩ | rfl
    · have := cuts_32 _ (putsW_mem hp).2.2; simp only; omega
    · simp [syncD]
    · have := (putsW_mem hp).2.2
      simp only [List.mem_singleton] at this
      simp only [this, super_32]; omega
    · simp [syncD]
theorem fLay {S : List (List UInt8)} {run slot : Int} {m : Map} (hS : S.length = 512) (h32 : all32 S) (hm : okM m = true) (h64 : (image m).length ≤ 64) : Fun G 22 [.vs true (cT S []), .int .i64 (-1), .one (.d (.sl ((layD run slot m).map eDo)))] (tErr' 0 ⟨layS S run slot m, []⟩, []) :=
  fPlay hS h32 (smDo_lay hm h64) (play_lay hS hm h64)
theorem okM_len {m : Map} (hm : okM m = true) : m.length ≤ 3 := by simp only [okM, Bool.and_eq_true, decide_eq_true_eq] at hm; exact hm.1
theorem fOpenT {S : List (List UInt8)} {m m' : Map} {l : List Record} {w : Wal} (hS : S.length = 512) (h32 : all32 S) (hm : okM m = true) (h1 : 1 ≤ m.length) (h : openT S m.length = some (m', l, w)) : Fun G 12 [.vs true (cT S []), .int .i64 m.length] (openR m' l w 0, []) := by
  have h3 := okM_len hm
  have hp := f12 (S := S) (W := []) (tables := m.length) (by omega) (by simp)
  have e : openP S [] m.length = (m', l, w, 0) := by
    unfold openP
    rw [if_pos ⟨okT_all hS h32, hS, rfl, by omega, by omega⟩, Int.toNat_natCast, h]
  rw [e] at hp
  exact hp
theorem fOpen {S : List (List UInt8)} {m : Map} {l : List Record} {w : Wal} (h1 : 1 ≤ m.length) (h : Laid S w m l) : Fun G 12 [.vs true (cT S []), .int .i64 m.length] (openR m l w 0, []) :=
  fOpenT h.len h.a32 h.okm h1 h.open
theorem okM_sm {m : Map} (hm : okM m = true) (h64 : (image m).length ≤ 64) : smM m := by
  simp only [okM, Bool.and_eq_true, decide_eq_true_eq, List.all_eq_true] at hm
  refine ⟨by omega, fun l hl => ?_⟩
  have ho := hm.2 l hl
  simp only [okRows, Bool.and_eq_true, List.all_eq_true] at ho
  refine ⟨?_, fun x hx => ?_⟩
  · have : ∀ (m : Map) (t : Nat), l ∈ m → l.length ≤ (imageF t m).length := by
      intro m
      induction m with
      | nil => intro t h; cases h
      | cons x m ih =>
        intro t h
        simp only [imageF, List.length_append, List.length_map]
        rcases List.mem_cons.1 h with rfl | h
        · omega
        · have := ih (t + 1) h; omega
    have := this m 0 hl
    simp only [image] at h64
    omega
  · have := ho.1 x hx
    simp only [okRow, decide_eq_true_eq] at this
    omega
theorem layR_ok {run slot : Int} {m : Map} (hm : okM m = true) (hr : run < 1073741824) (h64 : (image m).length ≤ 64) : layR run slot m = (layD run slot m, ⟨run, slot, 255, 1⟩, 0) := by
  unfold layR; rw [if_neg (by rw [hm]; simp), if_neg (by omega), if_pos h64]
theorem fFormat {m : Map} (hm : okM m = true) (h64 : (image m).length ≤ 64) : Fun G 56 [.one (.d (.sl (m.map eMp)))] (layT (layD 1 0 m) ⟨1, 0, 255, 1⟩ 0, []) := by
  have h := f56 (okM_sm hm h64)
  rw [layR_ok hm (by omega) h64] at h
  exact h
def tape0 : List (List UInt8) := List.replicate 512 zeros
theorem tape0_len : tape0.length = 512 := List.length_replicate
theorem tape0_32 : all32 tape0 := fun s hs => by rw [List.eq_of_mem_replicate hs]; decide
theorem tape0_z : ∀ s ∈ tape0.drop 255, s = zeros := fun s hs => List.eq_of_mem_replicate (List.mem_of_mem_drop hs)
theorem fNew0 : Fun G 7 [.int .i64 512] (.vs true (oT tape0 []), []) := f7 (n := 512) (by omega)
def m0 : Map := [[⟨[97], [118]⟩]]
theorem m0_ok : okM m0 = true := by decide
theorem m0_64 : (image m0).length ≤ 64 := by decide
set_option maxHeartbeats 2000000 in
theorem f20   : Fun G 20 [] (.bool true, []) := by
  refine Fun.of_run (g := g20) (pf := pf20) rfl rfl rfl rfl ?_
  have h1 := fFormat m0_ok m0_64
  have h2 := fNew0
  have h3 := fLay (run := 1) (slot := 0) tape0_len tape0_32 m0_ok m0_64
  have h4 := fOpen (m := m0) (by decide) (Laid.lay (run := 1) (slot := 0) tape0_len tape0_32 (by omega) (by omega) (.inl rfl) m0_ok m0_64 tape0_z)
  have hsm := okM_sm m0_ok m0_64
  have h5 := f17 hsm hsm
  rw [decide_eq_true rfl] at h5
  have ht := Laid.len (Laid.lay (run := 1) (slot := 0) tape0_len tape0_32 (by omega) (by omega) (.inl rfl) m0_ok m0_64 tape0_z)
  have hd := (smDo_lay (run := 1) (slot := 0) m0_ok m0_64).1
  obtain ⟨T', hT⟩ : ∃ T, T = layS tape0 1 0 m0 := ⟨_, rfl⟩
  rw [← hT] at h3 h4 ht
  obtain ⟨L, hL⟩ : ∃ L, L = layD 1 0 m0 := ⟨_, rfl⟩
  rw [← hL] at hd h1 h3
  obtain ⟨Z, hZ⟩ : ∃ Z, Z = tape0 := ⟨_, rfl⟩
  have hz := tape0_len
  rw [← hZ] at hz h2 h3
  clear hT hL hZ hsm
  simp only [push_cast, sevalprocAttr, cT, oT, tErr', m0, eMp, oMp, eRow, oRow, List.length_cons, List.length_nil] at h1 h2 h3 h4 h5
  simp (maxSteps := 1000000) (disch := first | assumption | ((try simp only [LEN, LEN2]); omega)) only [push_cast, sevalprocAttr, g20, pf20, b20, eRow, oRow, eMp, oMp, callC_eq h1, callT_eq h1, callC_eq h2, callT_eq h2, callC_eq h3, callT_eq h3, callC_eq h4, callT_eq h4, callC_eq h5, callT_eq h5]
theorem f20c   : type_of% (cE (f20 )) := cE (f20 )
attribute [push_cast] f20c
end Go.Mir.Tryz

set_option linter.unusedVariables false
set_option maxRecDepth 100000
namespace Go.Mir.Tryz
open Go.Proofs Go.Mir.Q
theorem decS {n : Nat} : Dec Tryz.prog (n + 1) 9 eS (fun _ => True) := dec_str Tryz.underlying9
theorem decN {n : Nat} : Dec Tryz.prog (n + 1) 3 eN okN := dec_int Tryz.underlying3
theorem decRow {n : Nat} : Dec Tryz.prog (n + 2) 81 eRow (fun _ => True) :=
  dec_struct (fun x => (⟨x.1, x.2.1⟩ : Row)) Tryz.underlying81 (decFs_cons (dec_str Tryz.underlying9) (decFs_cons (dec_str Tryz.underlying9) decFs_nil)) (fun _ => by rfl) (fun _ _ => trivial)
theorem decWrite {n : Nat} : Dec Tryz.prog (n + 2) 78 eW (fun w => okN w.Table) :=
  dec_struct (fun x => (⟨x.1, x.2.1, x.2.2.1, x.2.2.2.1⟩ : Write)) Tryz.underlying78 (decFs_cons (dec_int Tryz.underlying3) (decFs_cons (dec_str Tryz.underlying9) (decFs_cons (dec_str Tryz.underlying9) (decFs_cons (dec_bool Tryz.underlying4) decFs_nil)))) (fun _ => by rfl) (fun _ h => by exact h.1)
theorem decRec {n : Nat} : Dec Tryz.prog (n + 4) 70 eR (fun r => okN r.Commit ∧ ∀ w ∈ r.Writes, okN w.Table) :=
  dec_struct (fun x => (⟨x.1, x.2.1⟩ : Record)) Tryz.underlying70 (decFs_cons (dec_int Tryz.underlying3) (decFs_cons (dec_slice Tryz.underlying68 decWrite) decFs_nil)) (fun _ => by rfl) (fun _ h => by exact ⟨h.1, h.2.1⟩)
theorem decWal {n : Nat} : Dec Tryz.prog (n + 2) 41 eWal (fun w => okN w.Run ∧ okN w.Slot ∧ okN w.At ∧ okN w.Seq) :=
  dec_struct (fun x => (⟨x.1, x.2.1, x.2.2.1, x.2.2.2.1⟩ : Wal)) Tryz.underlying41 (decFs_cons (dec_int Tryz.underlying3) (decFs_cons (dec_int Tryz.underlying3) (decFs_cons (dec_int Tryz.underlying3) (decFs_cons (dec_int Tryz.underlying3) decFs_nil)))) (fun _ => by rfl) (fun _ h => by exact ⟨h.1, h.2.1, h.2.2.1, h.2.2.2.1⟩)
abbrev A17 := List Record × List (List UInt8) × List Int × List (List (List UInt8))
def e17 (s : A17) : List D := [.sl (s.1.map eR), .sl (s.2.1.map eS), .sl (s.2.2.1.map eN), .sl (s.2.2.2.map fun l => [.sl (l.map eS)])]
theorem dec17 {n : Nat} : Dec Tryz.prog (n + 6) 28 e17 (fun s => ∀ r ∈ s.1, okN r.Commit ∧ ∀ w ∈ r.Writes, okN w.Table) :=
  dec_struct (fun x => (x.1, x.2.1, x.2.2.1, x.2.2.2.1)) Tryz.underlying28 (decFs_cons (dec_slice Tryz.underlying23 decRec) (decFs_cons (dec_slice Tryz.underlying24 decS) (decFs_cons (dec_slice Tryz.underlying25 decN) (decFs_cons (dec_slice Tryz.underlying26 (dec_slice Tryz.underlying24 decS)) decFs_nil)))) (fun _ => by rfl) (fun _ h => by exact h.1)
abbrev A19 := List Map × A17 × List Wal × List Int × List Int
def eAsk (s : A19) : List D := [.sl (s.1.map eMaps), .sl (s.2.1.1.map eR), .sl (s.2.1.2.1.map eS), .sl (s.2.1.2.2.1.map eN), .sl (s.2.1.2.2.2.map fun l => [.sl (l.map eS)]), .sl (s.2.2.1.map eWal), .sl (s.2.2.2.1.map eN), .sl (s.2.2.2.2.map eN)]
theorem decAsk {n : Nat} : Dec Tryz.prog (n + 8) 31 eAsk (fun s => (∀ r ∈ s.2.1.1, okN r.Commit ∧ ∀ w ∈ r.Writes, okN w.Table) ∧ (∀ x ∈ s.2.2.2.1, okN x) ∧ ∀ x ∈ s.2.2.2.2, okN x) :=
  dec_struct (fun x => (x.1, x.2.1, x.2.2.1, x.2.2.2.1, x.2.2.2.2.1)) Tryz.underlying31 (decFs_cons (dec_slice Tryz.underlying22 (dec_slice Tryz.underlying39 (dec_slice Tryz.underlying79 decRow))) (decFs_cons dec17 (decFs_cons (dec_slice Tryz.underlying29 decWal) (decFs_cons (dec_slice Tryz.underlying25 decN) (decFs_cons (dec_slice Tryz.underlying25 decN) decFs_nil))))) (fun _ => by rfl) (fun _ h => by exact ⟨h.2.1, h.2.2.2.1, h.2.2.2.2.1⟩)
theorem wt_S {l : List (List UInt8)} (h : wtss (l.map eS) ≤ 1048576) : smS l :=
  ⟨by have := len_wtss (en := eS) (fun x => by simp [eS, wts, D.wt]) l; omega, fun s hs => by have := wtss_map (en := eS) hs; simp only [eS, wts, D.wt, bs_size] at this; omega⟩
theorem wt_W {l : List Write} (h : wtss (l.map eW) ≤ 1048576) : smW l :=
  ⟨by have := len_wtss (en := eW) (fun x => by simp only [eW, wts, D.wt]; omega) l; omega, fun s hs => by have := wtss_map (en := eW) hs; simp only [eW, wts, D.wt, bs_size] at this; omega⟩
theorem wt_Rows {l : List Row} (h : wtss (l.map eRow) ≤ 1048576) : smRows l :=
  ⟨by have := len_wtss (en := eRow) (fun x => by simp only [eRow, wts, D.wt]; omega) l; omega, fun s hs => by have := wtss_map (en := eRow) hs; simp only [eRow, wts, D.wt, bs_size] at this; omega⟩
theorem wt_M {m : Map} (h : wtss (m.map eMp) ≤ 1048576) : smM m :=
  ⟨by have := len_wtss (en := eMp) (fun x => by simp only [eMp, wts, D.wt]; omega) m; omega, fun l hl => wt_Rows (by have := wtss_map (en := eMp) hl; simp only [eMp, wts, D.wt] at this; omega)⟩
theorem wt_R {l : List Record} (h : wtss (l.map eR) ≤ 1048576) (hc : ∀ r ∈ l, okN r.Commit ∧ ∀ w ∈ r.Writes, okN w.Table) : smR l :=
  ⟨by have := len_wtss (en := eR) (fun x => by simp only [eR, wts, D.wt]; omega) l; omega, fun r hr => by
    have := wtss_map (en := eR) hr
    simp only [eR, wts, D.wt] at this
    exact ⟨wt_W (by omega), (hc r hr).1⟩⟩
theorem lawAsk {f : FuncId} (hf : ∀ {M : List Map} {R : List Record} {S : List (List UInt8)} {N1 : List Int} {L : List (List (List UInt8))} {W : List Wal} {K N : List Int}, smAsk M R S N1 L W K N → Fun G f [.vs true (cAsk M R S N1 L W K N)] (.bool true, [])) {ds : List D} (h : Fits Tryz.prog 9 31 ds) (hw : wts ds ≤ 1048576) : ∃ k, callK G k f [.vs true (dsV ds)] = some (.bool true, []) := by
  obtain ⟨⟨M, ⟨R, S, N1, L⟩, W, K, N⟩, rfl, hR, hK, hN⟩ := decAsk (n := 1) ds h
  simp only [eAsk, wts, D.wt] at hw hR hK hN
  have h1 := len_wtss (en := eMaps) (fun x => by simp only [eMaps, wts, D.wt]; omega) M
  have h2 := len_wtss (en := eN) (fun x => by simp [eN, wts, D.wt]) N1
  have h3 := len_wtss (en := fun l : List (List UInt8) => [D.sl (l.map eS)]) (fun x => by simp only [wts, D.wt]; omega) L
  have h4 := len_wtss (en := eWal) (fun x => by simp only [eWal, wts, D.wt]; omega) W
  have h5 := len_wtss (en := eN) (fun x => by simp [eN, wts, D.wt]) K
  have h6 := len_wtss (en := eN) (fun x => by simp [eN, wts, D.wt]) N
  exact hf (M := M) (R := R) (S := S) (N1 := N1) (L := L) (W := W) (K := K) (N := N)
    { m := by omega
      mm := fun m hm => wt_M (by have := wtss_map (en := eMaps) hm; simp only [eMaps, wts, D.wt] at this; omega)
      r := wt_R (by omega) hR
      s := wt_S (by omega)
      n1 := by omega
      l := ⟨by omega, fun l hl => wt_S (by have := wtss_map (en := fun l : List (List UInt8) => [D.sl (l.map eS)]) hl; simp only [wts, D.wt] at this; omega)⟩
      w := by omega
      k := ⟨by omega, hK⟩
      n := ⟨by omega, hN⟩ }
end Go.Mir.Tryz

set_option linter.unusedVariables false
set_option linter.unusedSimpArgs false
set_option maxRecDepth 100000
namespace Go.Mir.Q
open Go Go.Mir
abbrev big (m : Map) : Prop := m.length ≤ 1000000000 ∧ ∀ l ∈ m, l.length ≤ 1000000000
end Go.Mir.Q
namespace Go.Mir.Tryz
open Go.Proofs Go.Mir.Q
theorem f102 {l : List (Record)} {f : FuncId} {caps : List T} {p : (Record) → Bool} (hl : l.length ≤ 1000000000) (hpm : G.pm f = [.ro] ∨ G.pm f = [.ro, .ro] ∨ G.pm f = [.ro, .ro, .ro] ∨ G.pm f = [.ro, .ro, .ro, .ro]) (hcap : capsData caps = true) (hf : ∀ w ∈ l, Fun G f (.vs true [.d (.sc (.int .i64 w.Commit)), .d (.sl (w.Writes.map eW))] :: caps) (.bool (p w), [])) :
    Fun G 102 [.one (.d (.sl (l.map eR))), .fn f caps] (.int .i64 (idx p l), []) := by
  refine Fun.of_run (g := g102) (pf := pf102) rfl rfl rfl rfl ?_
  have hcap2 := capsRo_data (caps := caps) hcap
  have hcap3 := rootsL_data (caps := caps) hcap
  simp (maxSteps := 1000000) (disch := first | assumption | ((try simp only [LEN, LEN2]); omega)) only [push_cast, sevalprocAttr, g102, pf102, b102, hcap2, hcap3, List.all_nil]
  refine run_loop' (fun i : Nat => [(0, T.one (.d (.sl (l.map eR)))), (1, T.fn f caps), (7, T.int .i64 l.length), (8, T.int .i64 i)]) (fun i => i ≤ l.length ∧ ∀ x ∈ l.take i, p x = false) (fun i => l.length - i) 0 rfl ⟨Nat.zero_le _, by simp⟩ (fun i hi => ?_)
  obtain ⟨hi, ht⟩ := hi
  simp (maxSteps := 1000000) (disch := first | assumption | ((try simp only [LEN, LEN2]); omega)) only [push_cast, sevalprocAttr, g102, pf102, b102, hcap2, hcap3, List.all_nil]
  refine If.dec (fun h => ?_) (fun h => ?_)
  · replace h : i < l.length := by omega
    have h2 := hf l[i] (List.getElem_mem h)
    skip
    by_cases hp : p l[i] = true
    · rcases hpm with hpm | hpm | hpm | hpm <;> simp (maxSteps := 1000000) (disch := first | assumption | ((try simp only [LEN, LEN2]); omega)) only [push_cast, sevalprocAttr, g102, pf102, b102, hcap2, hcap3, List.all_nil, hpm, eR, callT_eq h2, hp] <;> rw [idx_some h ht hp]
    · rw [Bool.not_eq_true] at hp
      rcases hpm with hpm | hpm | hpm | hpm <;> simp (maxSteps := 1000000) (disch := first | assumption | ((try simp only [LEN, LEN2]); omega)) only [push_cast, sevalprocAttr, g102, pf102, b102, hcap2, hcap3, List.all_nil, hpm, eR, callT_eq h2, hp]
      all_goals
        refine ⟨i + 1, rfl, ⟨by omega, fun x hx => ?_⟩, by omega⟩
        rw [List.take_succ_eq_append_getElem h, List.mem_append, List.mem_singleton] at hx
        rcases hx with hx | rfl
        · exact ht x hx
        · exact hp
  · obtain rfl : i = l.length := by omega
    simp (maxSteps := 1000000) (disch := first | assumption | ((try simp only [LEN, LEN2]); omega)) only [push_cast, sevalprocAttr, g102, pf102, b102, hcap2, hcap3, List.all_nil]
    rw [idx_none (fun x hx => ht x (by rw [List.take_length]; exact hx))]
theorem f70 {l : List (Record)} {f : FuncId} {caps : List T} {p : (Record) → Bool} (hl : l.length ≤ 1000000000) (hpm : G.pm f = [.ro] ∨ G.pm f = [.ro, .ro] ∨ G.pm f = [.ro, .ro, .ro] ∨ G.pm f = [.ro, .ro, .ro, .ro]) (hcap : capsData caps = true) (hf : ∀ w ∈ l, Fun G f (.vs true [.d (.sc (.int .i64 w.Commit)), .d (.sl (w.Writes.map eW))] :: caps) (.bool (p w), [])) :
    Fun G 70 [.one (.d (.sl (l.map eR))), .fn f caps] (.bool (l.any p), []) := by
  refine Fun.of_run (g := g70) (pf := pf70) rfl rfl rfl rfl ?_
  have hcap2 := capsRo_data (caps := caps) hcap
  have hcap3 := rootsL_data (caps := caps) hcap
  simp (maxSteps := 1000000) (disch := first | assumption | ((try simp only [LEN, LEN2]); omega)) only [push_cast, sevalprocAttr, g70, pf70, b70, hcap2, hcap3, List.all_nil, callC_eq (f102 hl hpm hcap hf)]
  rw [← idx_nonneg]
theorem mayB {m : Map} (hm : big m) : Fun G 69 [.one (.d (.sl (m.map eMp)))] (.bool (okM m), []) := by
  refine Fun.of_run (g := g69) (pf := pf69) rfl rfl rfl rfl ?_
  obtain ⟨hm, hm2⟩ := hm
  have h := f99 (l := m) (f := 100) (caps := []) (p := fun w => !okRows w) (by omega) (.inl rfl) rfl (fun w hw => f100 (hm2 w hw))
  rw [List.not_all_eq_any_not.symm] at h
  by_cases h3 : (m.length : Int) ≤ 3
  · simp (maxSteps := 1000000) (disch := first | assumption | ((try simp only [LEN, LEN2]); omega)) only [push_cast, sevalprocAttr, g69, pf69, b69, h3, callC_eq h]
    have : m.length ≤ 3 := by omega
    simp [okM, this]
  · simp (maxSteps := 1000000) (disch := first | assumption | ((try simp only [LEN, LEN2]); omega)) only [push_cast, sevalprocAttr, g69, pf69, b69, h3]
    have : ¬ m.length ≤ 3 := by omega
    simp [okM, this]
theorem eqB {a b : Map} (ha : big a) (hb : big b) : Fun G 17 [.one (.d (.sl (a.map eMp))), .one (.d (.sl (b.map eMp)))] (.bool (decide (a = b)), []) := by
  refine Fun.of_run (g := g17) (pf := pf17) rfl rfl rfl rfl ?_
  obtain ⟨ha, ha2⟩ := ha
  obtain ⟨hb, hb2⟩ := hb
  simp (maxSteps := 1000000) (disch := first | assumption | ((try simp only [LEN, LEN2]); omega)) only [push_cast, sevalprocAttr, g17, pf17, b17]
  refine If.dec (fun h => ?_) (fun h => ?_)
  · have : a ≠ b := fun e => h (by rw [e])
    simp (maxSteps := 1000000) (disch := first | assumption | ((try simp only [LEN, LEN2]); omega)) only [push_cast, sevalprocAttr, g17, pf17, b17]
    simp [this]
  simp (maxSteps := 1000000) (disch := first | assumption | ((try simp only [LEN, LEN2]); omega)) only [push_cast, sevalprocAttr, g17, pf17, b17]
  have hl : a.length = b.length := by omega
  refine run_loop' (fun i : Nat => [(0, T.one (.d (.sl (a.map eMp)))), (1, T.one (.d (.sl (b.map eMp)))), (5, T.int .i64 i)]) (fun i => i ≤ a.length ∧ a.take i = b.take i) (fun i => a.length - i) 0 rfl ⟨Nat.zero_le _, by simp⟩ (fun i hi => ?_)
  obtain ⟨hi, ht⟩ := hi
  simp (maxSteps := 1000000) (disch := first | assumption | ((try simp only [LEN, LEN2]); omega)) only [push_cast, sevalprocAttr, g17, pf17, b17]
  refine If.dec (fun h => ?_) (fun h => ?_)
  · replace h : i < a.length := by omega
    have h' : i < b.length := by omega
    have h1 := ha2 a[i] (List.getElem_mem h)
    have h2 := hb2 b[i] (List.getElem_mem h')
    simp (maxSteps := 1000000) (disch := first | assumption | ((try simp only [LEN, LEN2]); omega)) only [push_cast, sevalprocAttr, g17, pf17, b17, eMp]
    by_cases he : a[i] = b[i]
    · simp (maxSteps := 1000000) (disch := first | assumption | ((try simp only [LEN, LEN2]); omega)) only [push_cast, sevalprocAttr, g17, pf17, b17, he]
      refine ⟨i + 1, rfl, ⟨by omega, ?_⟩, by omega⟩
      rw [List.take_succ_eq_append_getElem h, List.take_succ_eq_append_getElem h', ht, he]
    · have hne : a ≠ b := fun e => he (by subst e; rfl)
      simp (maxSteps := 1000000) (disch := first | assumption | ((try simp only [LEN, LEN2]); omega)) only [push_cast, sevalprocAttr, g17, pf17, b17, he]
      simp [hne]
  · obtain rfl : i = a.length := by omega
    have : a = b := by rw [List.take_length] at ht; rw [ht, hl, List.take_length]
    simp (maxSteps := 1000000) (disch := first | assumption | ((try simp only [LEN, LEN2]); omega)) only [push_cast, sevalprocAttr, g17, pf17, b17]
    simp [this]
set_option maxHeartbeats 2000000 in
theorem f68 {w : Write} {m : Map} (hm : m.length ≤ 1000000000) : Fun G 68 [.vs true (oW w), .adr [.sl (m.map eMp)]] (.bool (decide ((m.length : Int) ≤ w.Table)), []) := by
  refine Fun.of_run (g := g68) (pf := pf68) rfl rfl rfl rfl ?_
  simp (maxSteps := 1000000) (disch := first | assumption | ((try simp only [LEN, LEN2]); omega)) only [push_cast, sevalprocAttr, g68, pf68, b68, oW]
theorem f68c {w : Write} {m : Map} (hm : m.length ≤ 1000000000) : type_of% (cE (f68 (w := w) (m := m) hm)) := cE (f68 (w := w) (m := m) hm)
attribute [push_cast] f68c
set_option maxHeartbeats 2000000 in
theorem f66 {r : Record} {m : Map} (hm : m.length ≤ 1000000000) (hl : r.Writes.length ≤ 1000000000) : Fun G 66 [.vs true [.d (.sc (.int .i64 r.Commit)), .d (.sl (r.Writes.map eW))], .adr [.sl (m.map eMp)]] (.bool (!mayR m.length r), []) := by
  refine Fun.of_run (g := g66) (pf := pf66) rfl rfl rfl rfl ?_
  have h := f67 (l := r.Writes) (f := 68) (caps := [.adr [.sl (m.map eMp)]]) (p := fun w => decide ((m.length : Int) ≤ w.Table)) hl (.inr (.inl rfl)) rfl (fun w hw => f68 hm)
  have e : (!mayR m.length r) = (!okR r || r.Writes.any fun w => decide ((m.length : Int) ≤ w.Table)) := by
    unfold mayR
    rw [Bool.not_and, List.not_all_eq_any_not]
    congr 2
    funext w
    rw [← decide_not]; congr 1; simp
  cases hok : okR r with
  | false =>
    simp (maxSteps := 1000000) (disch := first | assumption | ((try simp only [LEN, LEN2]); omega)) only [push_cast, sevalprocAttr, g66, pf66, b66, hok, e]
  | true =>
    simp (maxSteps := 1000000) (disch := first | assumption | ((try simp only [LEN, LEN2]); omega)) only [push_cast, sevalprocAttr, g66, pf66, b66, hok, e, callC_eq h, callT_eq h]
theorem f66c {r : Record} {m : Map} (hm : m.length ≤ 1000000000) (hl : r.Writes.length ≤ 1000000000) : type_of% (cE (f66 (r := r) (m := m) hm hl)) := cE (f66 (r := r) (m := m) hm hl)
attribute [push_cast] f66c
theorem laidF {m : Map} {R : List Record} (h : LaidOk m R) : Fun G 71 (laidA m R) (.one (.own 79 ((laidRs m R).map S2.oM)), []) := given' rfl (laidGiven_eq h)
set_option maxHeartbeats 2000000 in
theorem f27 {m : Map} {R : List Record} (hok : okM m = true) (hall : R.all (mayR m.length) = true) (hl : LaidOk m R) : Fun G 27 [.one (.d (.sl (m.map eMp))), .one (.d (.sl (R.map eR)))] (.tup [(false, [.own 79 ((laidRs m R).map S2.oM)]), (false, [.d (.sc (.int .i64 0))])], []) := by
  refine Fun.of_run (g := g27) (pf := pf27) rfl rfl rfl rfl ?_
  have hb : big m := ⟨by have := hl.1.1; omega, fun l h => by have := (hl.1.2 l h).1; omega⟩
  have hml := hb.1
  have hM := mayB hb
  have h := f70 (l := R) (f := 66) (caps := [.adr [.sl (m.map eMp)]]) (p := fun r => !mayR m.length r) (by have := hl.2.1; omega) (.inr (.inl rfl)) rfl (fun r hr => f66 hml (by have := (hl.2.2 r hr).1; omega))
  have e : (R.any fun r => !mayR m.length r) = false := by
    rw [← List.not_all_eq_any_not, hall]; rfl
  rw [e] at h
  have hL := laidF hl
  simp only [laidA] at hL
  simp (maxSteps := 1000000) (disch := first | assumption | ((try simp only [LEN, LEN2]); omega)) only [push_cast, sevalprocAttr, g27, pf27, b27, hok, callC_eq hM, callT_eq hM, callC_eq h, callT_eq h, callC_eq hL, callT_eq hL]
theorem f27c {m : Map} {R : List Record} (hok : okM m = true) (hall : R.all (mayR m.length) = true) (hl : LaidOk m R) : type_of% (cE (f27 (m := m) (R := R) hok hall hl)) := cE (f27 (m := m) (R := R) hok hall hl)
attribute [push_cast] f27c
end Go.Mir.Tryz

set_option linter.unusedVariables false
set_option linter.unusedSimpArgs false
set_option maxRecDepth 100000
namespace Go.Mir.Q
open Go Go.Mir
theorem lastK_at {ws : List Write} {j : Nat} (hj : j < ws.length) (hl : (ws.drop (j + 1)).any (isK ws[j].Table ws[j].Key) = false) : lastK ws[j].Table ws[j].Key ws = some ws[j] := by
  have e : ws = ws.take j ++ ws[j] :: ws.drop (j + 1) := by rw [List.getElem_cons_drop, List.take_append_drop]
  obtain ⟨w, hw⟩ : ∃ w, w = ws[j] := ⟨_, rfl⟩
  rw [← hw] at hl e ⊢
  rw [e, show w :: ws.drop (j + 1) = [w] ++ ws.drop (j + 1) from rfl, lastK_app, lastK_app]
  have h1 : lastK w.Table w.Key (ws.drop (j + 1)) = none := by
    unfold lastK
    rw [List.find?_eq_none]
    intro x hx
    rw [List.any_eq_false] at hl
    exact hl x (by simpa using hx)
  have h2 : lastK w.Table w.Key [w] = some w := by simp [lastK, isK]
  rw [h1, h2]; rfl
def hasR (w : Write) (x : Row) : Bool := decide (x.Key = w.Key) && (w.Gone || decide (x.Value = w.Value))
theorem clause {m : Map} {r : Record} (hm : okM m = true) (hr : r.Writes.all okW = true) {j : Nat} (hj : j < r.Writes.length) (ht : r.Writes[j].Table < m.length) (hl : (r.Writes.drop (j + 1)).any (isK r.Writes[j].Table r.Writes[j].Key) = false)
    {rows : List Row} (hrows : (laidR m r)[r.Writes[j].Table.toNat]? = some rows) : rows.any (hasR r.Writes[j]) = !r.Writes[j].Gone := by
  have hok := List.all_eq_true.1 hr _ (List.getElem_mem hj)
  simp only [okW, decide_eq_true_eq] at hok
  have h := (laidR_facts hm hr).2.2 r.Writes[j].Table r.Writes[j].Key hok.1 ht
  rw [lastK_at hj hl] at h
  generalize r.Writes[j] = w at *
  simp only [getM, hrows, goneV] at h
  cases hg : w.Gone with
  | true =>
    rw [hg] at h
    simp only [getR, if_true, Option.map_eq_none_iff, List.find?_eq_none, decide_eq_true_eq] at h
    simp only [Bool.not_true, List.any_eq_false, hasR, Bool.and_eq_true, decide_eq_true_eq]
    exact fun x hx hh => h x hx hh.1
  | false =>
    rw [hg] at h
    simp only [getR, Bool.false_eq_true, if_false, Option.map_eq_some_iff] at h
    obtain ⟨x, hx, hv⟩ := h
    have h1 := List.find?_some hx
    have h2 := List.mem_of_find?_eq_some hx
    simp only [decide_eq_true_eq] at h1
    simp only [Bool.not_false, List.any_eq_true]
    exact ⟨x, h2, by simp [hasR, hg, h1, hv]⟩
theorem laidRs_facts : ∀ (R : List Record) {m : Map}, okM m = true → (∀ r ∈ R, r.Writes.all okW = true) → okM (laidRs m R) = true ∧ (laidRs m R).length = m.length
  | [], m, h, _ => ⟨h, rfl⟩
  | r :: R, m, h, hr => by
    obtain ⟨h1, h2, _⟩ := laidR_facts h (hr r (by simp))
    have := laidRs_facts R h1 (fun x hx => hr x (by simp [hx]))
    exact ⟨this.1, this.2.trans h2⟩
theorem any_take {α : Type} {l : List α} {p : α → Bool} {i : Nat} (h : i < l.length) : (l.take (i + 1)).any p = ((l.take i).any p || p l[i]) := by
  rw [List.take_succ_eq_append_getElem h, List.any_append]; simp
end Go.Mir.Q
namespace Go.Mir.Tryz
open Go.Proofs Go.Mir.Q
set_option maxHeartbeats 16000000 in
theorem f5 {M : List Map} {R : List Record} {S : List (List UInt8)} {N1 : List Int} {L : List (List (List UInt8))} {W : List Wal} {K N : List Int} (h : smAsk M R S N1 L W K N) : Fun G 5 [.vs true (cAsk M R S N1 L W K N)] (.bool true, []) := by
  obtain ⟨b, hh⟩ := f6 h
  have hm := h.m
  have hmm := h.mm
  have hR := h.r
  have hR1 := hR.1
  refine Fun.of_run (g := g5) (pf := pf5) rfl rfl rfl rfl ?_
  cases b with
  | true => simp (maxSteps := 1000000) (disch := first | assumption | ((try simp only [LEN, LEN2]); omega)) only [push_cast, sevalprocAttr, g5, pf5, b5, callC_eq hh, callT_eq hh]
  | false =>
  have hwk := f20
  simp (maxSteps := 1000000) (disch := first | assumption | ((try simp only [LEN, LEN2]); omega)) only [push_cast, sevalprocAttr, g5, pf5, b5, callC_eq hh, callT_eq hh]
  refine run_loop' (fun i : Nat => [(1, T.one (.box (cAsk M R S N1 L W K N))), (3, T.int .i64 i)]) (fun i => i ≤ M.length ∧ i ≤ 6) (fun i => M.length - i) 0 (by simp) ⟨by simp, by simp⟩ (fun i hi => ?_)
  obtain ⟨hi, hi6⟩ := hi
  by_cases h1 : (i : Int) < M.length
  · by_cases h2 : (i : Int) < 6
    · have hi' : i < M.length := by omega
      have hsm := hmm M[i] (List.getElem_mem hi')
      obtain ⟨m, hm0⟩ : ∃ m, m = M[i] := ⟨_, rfl⟩
      rw [← hm0] at hsm
      have hMM := f25 hsm hR
      cases hmay : (R.all (mayR m.length) && okM m) with
      | false =>
        rw [hmay] at hMM
        simp (maxSteps := 1000000) (disch := first | assumption | ((try simp only [LEN, LEN2]); omega)) only [push_cast, sevalprocAttr, g5, pf5, b5, h1, h2, eMaps, ← hm0, callC_eq hMM, callT_eq hMM]
        exact ⟨i + 1, by simp, ⟨by omega, by omega⟩, by omega⟩
      | true =>
        rw [hmay] at hMM
        simp only [Bool.and_eq_true] at hmay
        obtain ⟨hall, hok⟩ := hmay
        have hallR : ∀ r ∈ R, r.Writes.length ≤ 64 ∧ r.Writes.all okW = true ∧ ∀ w ∈ r.Writes, w.Table < m.length := fun r hr => by
          have := List.all_eq_true.1 hall r hr
          simp only [mayR, okR, Bool.and_eq_true, decide_eq_true_eq, List.all_eq_true] at this
          exact ⟨this.1.1.2.2, by rw [List.all_eq_true]; exact this.1.2, this.2⟩
        have hoT : ∀ r ∈ R, ∀ w ∈ r.Writes, okT3 w := fun r hr w hw => by
          have := List.all_eq_true.1 (hallR r hr).2.1 w hw
          simp only [okW, decide_eq_true_eq] at this
          exact ⟨this.1, this.2.1⟩
        have hsl : S2.smL m 1048576 := by
          have := okM_iff.1 hok
          refine ⟨this.1, fun rows hr => ⟨(hsm.2 rows hr).1, ?_⟩⟩
          have := this.2 rows hr
          simp only [okRows, Bool.and_eq_true] at this
          exact rising_iff.1 this.2
        have hlo : LaidOk m R := ⟨smL_up hsl (by omega), hR1, fun r hr => ⟨(hallR r hr).1, hoT r hr⟩⟩
        have hA := f27 hok hall hlo
        simp (maxSteps := 1000000) (disch := first | assumption | ((try simp only [LEN, LEN2]); omega)) only [push_cast, sevalprocAttr, g5, pf5, b5, h1, h2, eMaps, ← hm0, callC_eq hMM, callT_eq hMM, callC_eq hA, callT_eq hA]
        obtain ⟨all, hall0⟩ : ∃ all, all = laidRs m R := ⟨_, rfl⟩
        rw [← hall0]
        have hbm : big m := ⟨by have := hsl.1; omega, fun l hl => by have := (hsl.2 l hl).1; omega⟩
        have hnow : ∀ k, k ≤ R.length → okM (laidRs m (R.take k)) = true ∧ (laidRs m (R.take k)).length = m.length ∧ S2.smL (laidRs m (R.take k)) 100000000 := fun k hk => by
          obtain ⟨a1, a2⟩ := laidRs_facts (R.take k) hok (fun r hr => (hallR r (List.mem_of_mem_take hr)).2.1)
          exact ⟨a1, a2, smL_up (smL_laidRs (R.take k) hsl (fun r hr => (hallR r (List.mem_of_mem_take hr)).1)) (by rw [List.length_take]; omega)⟩
        have hml3 := hsl.1
        refine run_loop' (fun s : Nat × T => [(1, T.one (.box (cAsk M R S N1 L W K N))), (3, T.int .i64 i), (4, T.one (.own 79 (all.map S2.oM))), (5, T.int .i64 0), (6, T.one (.d (.sl ((laidRs m (R.take s.1)).map eMp)))), (7, T.int .i64 s.1), (8, s.2)]) (fun s => s.1 ≤ R.length ∧ (s.2 = .dead ∨ ∃ x : Map, s.2 = .one (.d (.sl (x.map eMp))))) (fun s => R.length - s.1) (0, .dead) rfl ⟨by simp, .inl rfl⟩ (fun s hs => ?_)
        obtain ⟨k, t8⟩ := s
        obtain ⟨hk, ht8⟩ := hs
        simp only at hk ht8
        obtain ⟨hn1, hn2, hn3⟩ := hnow k hk
        by_cases h3 : (k : Int) < R.length
        · have hk' : k < R.length := by omega
          have hrm := List.getElem_mem hk'
          obtain ⟨q1, q2, q3⟩ := hnow (k + 1) hk'
          have hx : laidRs m (R.take (k + 1)) = laidR (laidRs m (R.take k)) R[k] := by
            rw [List.take_succ_eq_append_getElem hk']; simp [laidRs, -List.take_append_getElem]
          obtain ⟨now, hnw⟩ : ∃ now, now = laidRs m (R.take k) := ⟨_, rfl⟩
          obtain ⟨x, hx0⟩ : ∃ x, x = laidRs m (R.take (k + 1)) := ⟨_, rfl⟩
          obtain ⟨r, hr0⟩ : ∃ r, r = R[k] := ⟨_, rfl⟩
          rw [← hx0] at hx q1 q2 q3
          rw [← hnw] at hx hn1 hn2 hn3 ⊢
          rw [← hr0] at hx hrm
          obtain ⟨w1, w2, w3⟩ := hallR r hrm
          have hB := f27 (m := now) (R := [r]) hn1 (by simp only [List.all_cons, List.all_nil, Bool.and_true, hn2]; exact List.all_eq_true.1 hall r hrm) ⟨hn3, by simp, fun r' hr' => by
            rw [List.mem_singleton.1 hr']; exact ⟨w1, hoT r hrm⟩⟩
          have hxs : laidRs now [r] = x := by rw [hx]; rfl
          rw [hxs] at hB
          simp only [List.map_cons, List.map_nil, eR] at hB
          obtain ⟨c, ws⟩ := r
          simp only at hB w1 w2 w3
          simp (maxSteps := 1000000) (disch := first | assumption | ((try simp only [LEN, LEN2]); omega)) only [push_cast, sevalprocAttr, g5, pf5, b5, h1, h2, h3, eMaps, eR, ← hr0, ← hm0, callC_eq hB, callT_eq hB, q2]
          have hall0' := hall0
          clear hB hA
          have hws64 : ws.length ≤ 64 := w1
          refine run_loop' (fun j : Nat => [(1, T.one (.box (cAsk M R S N1 L W K N))), (3, T.int .i64 i), (4, T.one (.own 79 (all.map S2.oM))), (5, T.int .i64 0), (6, T.one (.d (.sl (x.map eMp)))), (7, T.int .i64 k), (8, T.one (.d (.sl (x.map eMp)))), (10, T.int .i64 j)]) (fun j => j ≤ ws.length) (fun j => ws.length - j) 0 rfl (Nat.zero_le _) (fun j hj => ?_)
          by_cases h4 : (j : Int) < ws.length
          · have hj' : j < ws.length := by omega
            have hwm := List.getElem_mem hj'
            have hwt := w3 ws[j] hwm
            have hwo := hoT ⟨c, ws⟩ hrm ws[j] hwm
            have hcl := clause (m := now) (r := ⟨c, ws⟩) hn1 w2 (j := j) hj' (by rw [hn2]; exact hwt)
            simp only at hcl
            rw [← hx] at hcl
            obtain ⟨w, hw0⟩ : ∃ w, w = ws[j] := ⟨_, rfl⟩
            rw [← hw0] at hwt hwo hcl
            obtain ⟨wT, wK, wV, wG⟩ := w
            simp only at hwt hwo
            obtain ⟨t, rfl⟩ := Int.eq_ofNat_of_zero_le hwo.1
            have htx : t < x.length := by omega
            obtain ⟨rows, hrows0⟩ : ∃ rows, rows = x[t] := ⟨_, rfl⟩
            have hrl : rows.length ≤ 100000000 := by rw [hrows0]; exact (q3.2 _ (List.getElem_mem htx)).1
            have hcl := fun hl => hcl hl (rows := rows) (by simp only [Int.toNat_natCast]; rw [List.getElem?_eq_getElem htx, hrows0])
            simp (maxSteps := 1000000) (disch := first | assumption | ((try simp only [LEN, LEN2]); omega)) only [push_cast, sevalprocAttr, g5, pf5, b5, h3, h4, eR, ← hr0, eW, ← hw0]
            refine run_loop' (fun s : Nat × Bool => [(1, T.one (.box (cAsk M R S N1 L W K N))), (3, T.int .i64 i), (4, T.one (.own 79 (all.map S2.oM))), (5, T.int .i64 0), (6, T.one (.d (.sl (x.map eMp)))), (7, T.int .i64 k), (8, T.one (.d (.sl (x.map eMp)))), (10, T.int .i64 j), (11, T.one (.box (cW t wK wV wG))), (12, T.bool s.2), (13, T.int .i64 s.1)])
              (fun s => j + 1 ≤ s.1 ∧ s.1 ≤ ws.length ∧ s.2 = !(((ws.take s.1).drop (j + 1)).any (isK t wK))) (fun s => ws.length - s.1) (j + 1, true) (by simp) ⟨by simp, by simp only; omega, by simp⟩ (fun s hs => ?_)
            obtain ⟨q, last⟩ := s
            obtain ⟨hq1, hq2, hlast⟩ := hs
            simp only at hq1 hq2 hlast
            by_cases h5 : (q : Int) < ws.length
            · have hq' : q < ws.length := by omega
              have hstep : ((ws.take (q + 1)).drop (j + 1)).any (isK t wK) = (((ws.take q).drop (j + 1)).any (isK t wK) || isK t wK ws[q]) := by
                rw [List.take_succ_eq_append_getElem hq', List.drop_append_of_le_length (by rw [List.length_take]; omega), List.any_append]; simp
              have hfin : ∀ b, b = (last && !isK t wK ws[q]) → b = !(((ws.take (q + 1)).drop (j + 1)).any (isK t wK)) := fun b hb => by
                rw [hb, hlast, hstep]; simp [Bool.not_or]
              obtain ⟨v, hv0⟩ : ∃ v, v = ws[q] := ⟨_, rfl⟩
              rw [← hv0] at hfin
              obtain ⟨vT, vK, vV, vG⟩ := v
              cases last with
              | false =>
                simp (maxSteps := 1000000) (disch := first | assumption | ((try simp only [LEN, LEN2]); omega)) only [push_cast, sevalprocAttr, g5, pf5, b5, h3, h5, eR, ← hr0, eW, ← hv0]
                exact ⟨(q + 1, false), by simp, ⟨by simp only; omega, by simp only; omega, hfin _ (by simp)⟩, by simp only; omega⟩
              | true =>
                by_cases e1 : vT = t
                · by_cases e2 : vK = wK
                  · simp (maxSteps := 1000000) (disch := first | assumption | ((try simp only [LEN, LEN2]); omega)) only [push_cast, sevalprocAttr, g5, pf5, b5, h3, h5, eR, ← hr0, eW, ← hv0, e1, e2]
                    exact ⟨(q + 1, false), by simp, ⟨by simp only; omega, by simp only; omega, hfin _ (by simp [isK, e1, e2])⟩, by simp only; omega⟩
                  · simp (maxSteps := 1000000) (disch := first | assumption | ((try simp only [LEN, LEN2]); omega)) only [push_cast, sevalprocAttr, g5, pf5, b5, h3, h5, eR, ← hr0, eW, ← hv0, e1, e2]
                    exact ⟨(q + 1, true), by simp, ⟨by simp only; omega, by simp only; omega, hfin _ (by simp [isK, e2])⟩, by simp only; omega⟩
                · simp (maxSteps := 1000000) (disch := first | assumption | ((try simp only [LEN, LEN2]); omega)) only [push_cast, sevalprocAttr, g5, pf5, b5, h3, h5, eR, ← hr0, eW, ← hv0, e1]
                  exact ⟨(q + 1, true), by simp, ⟨by simp only; omega, by simp only; omega, hfin _ (by simp [isK, e1])⟩, by simp only; omega⟩
            · obtain rfl : q = ws.length := by omega
              rw [List.take_length] at hlast
              simp (maxSteps := 1000000) (disch := first | assumption | ((try simp only [LEN, LEN2]); omega)) only [push_cast, sevalprocAttr, g5, pf5, b5, h3, h5, eR, ← hr0]
              refine run_loop' (fun s : Nat × Bool => [(1, T.one (.box (cAsk M R S N1 L W K N))), (3, T.int .i64 i), (4, T.one (.own 79 (all.map S2.oM))), (5, T.int .i64 0), (6, T.one (.d (.sl (x.map eMp)))), (7, T.int .i64 k), (8, T.one (.d (.sl (x.map eMp)))), (10, T.int .i64 j), (11, T.one (.box (cW t wK wV wG))), (12, T.bool last), (14, T.bool s.2), (15, T.int .i64 s.1)])
                (fun s => s.1 ≤ rows.length ∧ s.2 = (rows.take s.1).any (hasR ⟨t, wK, wV, wG⟩)) (fun s => rows.length - s.1) (0, false) (by simp) ⟨by simp, by simp⟩ (fun s hs => ?_)
              obtain ⟨q, found⟩ := s
              obtain ⟨hq3, hfd⟩ := hs
              simp only at hq3 hfd
              by_cases h6 : (q : Int) < rows.length
              · have hq' : q < rows.length := by omega
                have hfin : ∀ b, b = (found || hasR ⟨t, wK, wV, wG⟩ rows[q]) → b = (rows.take (q + 1)).any (hasR ⟨t, wK, wV, wG⟩) := fun b hb => by
                  rw [hb, hfd, any_take hq']
                obtain ⟨y, hy0⟩ : ∃ y, y = rows[q] := ⟨_, rfl⟩
                rw [← hy0] at hfin
                obtain ⟨yK, yV⟩ := y
                cases found with
                | true =>
                  simp (maxSteps := 1000000) (disch := first | assumption | ((try simp only [LEN, LEN2]); omega)) only [push_cast, sevalprocAttr, g5, pf5, b5, h6, eMp, ← hrows0, eRow, ← hy0]
                  exact ⟨(q + 1, true), by simp, ⟨by simp only; omega, hfin _ (by simp)⟩, by simp only; omega⟩
                | false =>
                  by_cases e1 : yK = wK
                  · cases wG with
                    | true =>
                      simp (maxSteps := 1000000) (disch := first | assumption | ((try simp only [LEN, LEN2]); omega)) only [push_cast, sevalprocAttr, g5, pf5, b5, h6, eMp, ← hrows0, eRow, ← hy0, e1]
                      exact ⟨(q + 1, true), by simp, ⟨by simp only; omega, hfin _ (by simp [hasR, e1])⟩, by simp only; omega⟩
                    | false =>
                      by_cases e2 : yV = wV
                      · simp (maxSteps := 1000000) (disch := first | assumption | ((try simp only [LEN, LEN2]); omega)) only [push_cast, sevalprocAttr, g5, pf5, b5, h6, eMp, ← hrows0, eRow, ← hy0, e1, e2]
                        exact ⟨(q + 1, true), by simp, ⟨by simp only; omega, hfin _ (by simp [hasR, e1, e2])⟩, by simp only; omega⟩
                      · simp (maxSteps := 1000000) (disch := first | assumption | ((try simp only [LEN, LEN2]); omega)) only [push_cast, sevalprocAttr, g5, pf5, b5, h6, eMp, ← hrows0, eRow, ← hy0, e1, e2]
                        exact ⟨(q + 1, false), by simp, ⟨by simp only; omega, hfin _ (by simp [hasR, e2])⟩, by simp only; omega⟩
                  · simp (maxSteps := 1000000) (disch := first | assumption | ((try simp only [LEN, LEN2]); omega)) only [push_cast, sevalprocAttr, g5, pf5, b5, h6, eMp, ← hrows0, eRow, ← hy0, e1]
                    exact ⟨(q + 1, false), by simp, ⟨by simp only; omega, hfin _ (by simp [hasR, e1])⟩, by simp only; omega⟩
              · obtain rfl : q = rows.length := by omega
                rw [List.take_length] at hfd
                cases last with
                | false =>
                  simp (maxSteps := 1000000) (disch := first | assumption | ((try simp only [LEN, LEN2]); omega)) only [push_cast, sevalprocAttr, g5, pf5, b5, h6, eMp, ← hrows0]
                  exact ⟨j + 1, by simp, by omega, by omega⟩
                | true =>
                  have hcl := hcl (by simpa using hlast.symm)
                  rw [← hfd] at hcl
                  simp only at hcl
                  subst hcl
                  cases wG <;> simp (maxSteps := 1000000) (disch := first | assumption | ((try simp only [LEN, LEN2]); omega)) only [push_cast, sevalprocAttr, g5, pf5, b5, h6, eMp, ← hrows0]
                  all_goals exact ⟨j + 1, by simp, by omega, by omega⟩
          · simp (maxSteps := 1000000) (disch := first | assumption | ((try simp only [LEN, LEN2]); omega)) only [push_cast, sevalprocAttr, g5, pf5, b5, h3, h4, eR, ← hr0]
            exact ⟨(k + 1, .one (.d (.sl (x.map eMp)))), by simp [hx0], ⟨by simp only; omega, .inr ⟨x, rfl⟩⟩, by simp only; omega⟩
        · obtain rfl : k = R.length := by omega
          have hbg : big (laidRs m (R.take R.length)) := ⟨by have := hn3.1; omega, fun l hl => by have := (hn3.2 l hl).1; omega⟩
          have hE := eqB (a := all) (b := laidRs m (R.take R.length)) (by rw [hall0]; rw [List.take_length] at hbg; exact hbg) hbg
          have he : all = laidRs m (R.take R.length) := by rw [hall0, List.take_length]
          rw [decide_eq_true he] at hE
          rcases ht8 with rfl | ⟨x, rfl⟩
          · simp (maxSteps := 1000000) (disch := first | assumption | ((try simp only [LEN, LEN2]); omega)) only [push_cast, sevalprocAttr, g5, pf5, b5, h3, callC_eq hE, callT_eq hE]
            exact ⟨i + 1, by simp, ⟨by omega, by omega⟩, by omega⟩
          · simp (maxSteps := 1000000) (disch := first | assumption | ((try simp only [LEN, LEN2]); omega)) only [push_cast, sevalprocAttr, g5, pf5, b5, h3, callC_eq hE, callT_eq hE]
            exact ⟨i + 1, by simp, ⟨by omega, by omega⟩, by omega⟩
    · simp (maxSteps := 1000000) (disch := first | assumption | ((try simp only [LEN, LEN2]); omega)) only [push_cast, sevalprocAttr, g5, pf5, b5, h1, h2, callC_eq hwk, callT_eq hwk]
  · simp (maxSteps := 1000000) (disch := first | assumption | ((try simp only [LEN, LEN2]); omega)) only [push_cast, sevalprocAttr, g5, pf5, b5, h1, callC_eq hwk, callT_eq hwk]
end Go.Mir.Tryz
