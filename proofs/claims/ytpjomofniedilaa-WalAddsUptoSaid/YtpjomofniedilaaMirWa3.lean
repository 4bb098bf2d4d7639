/- Record by record, added and synced, all are opened, in order, and the Wal stands behind them; a Save takes them away. Part 3 of its proof. -/
import Derived.Test.YtpjomofniedilaaMirWa2
import Derived.Shelf.SlicesE.Clone
import Derived.Shelf.RegionOpenPlain
import Derived.WalkKit
import Derived.Deep.LoopGhost
import Derived.Lib.Walk
import Derived.Lib.SliceRun
import Derived.KernelRfl
import Derived.Shelf.Strings.Repeat
import Derived.Test.YtpjomofniedilaaProg
/- Records, their bytes, their sectors, in plain words. -/
set_option linter.unusedVariables false
set_option linter.unusedSimpArgs false
set_option maxRecDepth 100000
namespace Go.Mir.Q
open Go.Mir
def okW (w : Write) : Bool := decide (0 ≤ w.Table ∧ w.Table < 3 ∧ w.Key ≠ [] ∧ w.Key.length ≤ 12 ∧ w.Value.length ≤ 20 ∧ (w.Gone = false ∨ w.Value = []))
def okR (r : Record) : Bool := decide (1 ≤ r.Commit ∧ r.Commit ≤ 1073741824 ∧ r.Writes.length ≤ 64) && r.Writes.all okW
theorem eqW_fold (a b : Write) : (decide (a.Table = b.Table) && (decide (a.Key = b.Key) && (decide (a.Value = b.Value) && decide (a.Gone = b.Gone)))) = decide (a = b) := by
  obtain ⟨a1, a2, a3, a4⟩ := a
  obtain ⟨b1, b2, b3, b4⟩ := b
  simp
/-- A weight. -/
def isW (r : Res) : Prop := ∃ n : Int, r = (.int .i64 n, []) ∧ 0 ≤ n ∧ n ≤ 4398046511104
def smS (l : List (List UInt8)) : Prop := l.length ≤ 1048576 ∧ ∀ s ∈ l, s.length ≤ 1048576
def smW (l : List Write) : Prop := l.length ≤ 1048576 ∧ ∀ w ∈ l, w.Key.length ≤ 1048576 ∧ w.Value.length ≤ 1048576
def smR (l : List Record) : Prop := l.length ≤ 1048576 ∧ ∀ r ∈ l, smW r.Writes ∧ okN r.Commit
theorem oB_byt (n : Int) : oB (byt n) = [.d (.sc (.int .u8 (n % 256)))] := by simp only [oB, byt_toNat]
theorem be4 (n : Int) : be 4 n = [byt (n / 16777216), byt (n / 65536), byt (n / 256), byt n] := by
  rw [be_cons, be_cons, be_cons, be_cons]; simp [be]
theorem set_oB (l : List UInt8) (i : Nat) (b : UInt8) : (l.map oB).set i [.d (.sc (.int .u8 b.toNat))] = (l.set i b).map oB := by
  rw [List.map_set]; rfl
theorem or_byte {a b : Int} (h0 : 0 ≤ a) (h1 : a < 36028797018963968) (h2 : 0 ≤ b) (h3 : b < 256) : IntKind.i64.wrap ((BitVec.ofInt IntKind.i64.bits (a * 256) ||| BitVec.ofInt IntKind.i64.bits b).toNat) = a * 256 + b := by
  obtain ⟨m, rfl⟩ := Int.eq_ofNat_of_zero_le h0
  obtain ⟨k, rfl⟩ := Int.eq_ofNat_of_zero_le h2
  have e : (BitVec.ofInt IntKind.i64.bits ((m : Int) * 256) ||| BitVec.ofInt IntKind.i64.bits k).toNat = m * 256 + k := by
    have h4 : m * 256 % 18446744073709551616 = m * 256 := Nat.mod_eq_of_lt (by omega)
    have h5 : k % 18446744073709551616 = k := Nat.mod_eq_of_lt (by omega)
    have h6 : (m : Int) * 256 = ((m * 256 : Nat) : Int) := by push_cast; rfl
    rw [h6, BitVec.ofInt_natCast, BitVec.ofInt_natCast, BitVec.toNat_or, BitVec.toNat_ofNat, BitVec.toNat_ofNat]
    simp only [IntKind.bits]
    rw [show 2 ^ 64 = 18446744073709551616 from rfl, h4, h5]
    have := Nat.two_pow_add_eq_or_of_lt (i := 8) (b := k) (by omega) m
    rw [Nat.mul_comm m 256]
    exact this.symm
  rw [e, wrap_i64 (by omega) (by omega)]
  push_cast
  rfl
/-- A number, of bytes. -/
def num (l : List UInt8) : Int := l.foldl (fun a b => a * 256 + b.toNat) 0
theorem num_snoc (l : List UInt8) (b : UInt8) : num (l ++ [b]) = num l * 256 + b.toNat := by simp [num]
theorem num_bdk : ∀ (l : List UInt8) (k : Nat) (a : Int), 0 ≤ a → a < 256 ^ k → 0 ≤ l.foldl (fun a b => a * 256 + (b.toNat : Int)) a ∧ l.foldl (fun a b => a * 256 + (b.toNat : Int)) a < 256 ^ (k + l.length)
  | [], k, a, h0, h1 => ⟨h0, h1⟩
  | b :: l, k, a, h0, h1 => by
    have hb := b.toNat_lt
    have := num_bdk l (k + 1) (a * 256 + b.toNat) (by omega) (by rw [Int.pow_succ]; omega)
    rw [show k + (b :: l).length = k + 1 + l.length by simp; omega]
    exact this
theorem num_bd6 (l : List UInt8) (h : l.length ≤ 6) : 0 ≤ num l ∧ num l < 281474976710656 := by
  have h1 := num_bdk l 0 0 (by omega) (by simp)
  refine ⟨h1.1, Int.lt_of_lt_of_le h1.2 ?_⟩
  have : l.length = 0 ∨ l.length = 1 ∨ l.length = 2 ∨ l.length = 3 ∨ l.length = 4 ∨ l.length = 5 ∨ l.length = 6 := by omega
  rcases this with h | h | h | h | h | h | h <;> rw [h] <;> decide
/-- A write's bytes. -/
def wr (w : Write) : List UInt8 := be 1 w.Table ++ be 1 (if w.Gone then 1 else 0) ++ be 1 w.Key.length ++ w.Key ++ be 1 w.Value.length ++ w.Value
def wrs (l : List Write) : List UInt8 := l.flatMap wr
def spelt (r : Record) : List UInt8 := be 4 r.Commit ++ be 4 r.Writes.length ++ wrs r.Writes
theorem wrs_snoc (l : List Write) (w : Write) : wrs (l ++ [w]) = wrs l ++ wr w := by simp [wrs]
theorem wrs_len (l : List Write) (h : ∀ w ∈ l, w.Key.length ≤ 1048576 ∧ w.Value.length ≤ 1048576) : (wrs l).length ≤ l.length * 2097156 := by
  induction l with
  | nil => simp [wrs]
  | cons w l ih =>
    have h1 := h w (by simp)
    have h2 := ih fun x hx => h x (List.mem_cons_of_mem _ hx)
    have : (wrs (w :: l)).length = (wr w).length + (wrs l).length := by simp [wrs]
    have h3 : (wr w).length = 4 + w.Key.length + w.Value.length := by simp [wr, be_length]; omega
    rw [this, List.length_cons]
    omega
abbrev Rdr := List UInt8 × Bool
abbrev bR (r : Rdr) : V := .box [.d (.sc (.string (bs r.1))), .d (.sc (.bool r.2))]
def tk (n : Nat) (r : Rdr) : List UInt8 × Rdr := if r.2 = true ∨ r.1.length < n then ([], (r.1, true)) else (r.1.take n, (r.1.drop n, false))
theorem tk_len (n : Nat) (r : Rdr) : (tk n r).1.length ≤ n ∧ (tk n r).2.1.length ≤ r.1.length := by
  unfold tk; split <;> simp <;> omega
theorem num_one (n : Nat) (hn : n ≤ 1) (r : Rdr) : 0 ≤ num (tk n r).1 ∧ num (tk n r).1 < 256 := by
  have h := (tk_len n r).1
  match hx : (tk n r).1 with
  | [] => simp [num]
  | [b] => have := b.toNat_lt; simp [num]; omega
  | _ :: _ :: _ => rw [hx] at h; simp at h; omega
/-- A write, read. -/
def rdK (r : Rdr) : List UInt8 × Rdr := let l := tk 1 r; tk (num l.1).toNat l.2
def rdG (r : Rdr) : Rdr := let a := tk 1 r; let g := tk 1 a.2; (g.2.1, g.2.2 || decide (1 < num g.1))
def rdW (r : Rdr) : Write × Rdr := (⟨num (tk 1 r).1, (rdK (rdG r)).1, (rdK (rdK (rdG r)).2).1, decide (num (tk 1 (tk 1 r).2).1 = 1)⟩, (rdK (rdK (rdG r)).2).2)
/-- So many writes, read; behind something bad none. -/
def rdWs : Nat → Rdr → List Write × Rdr
  | 0, r => ([], r)
  | n + 1, r => if r.2 = true then ([], r) else ((rdW r).1 :: (rdWs n (rdW r).2).1, (rdWs n (rdW r).2).2)
/-- The record that bytes are, as the program reads it. -/
def rdRec (s : List UInt8) : Record × Rdr := let c := tk 4 (s, false); let k := tk 4 c.2; let w := rdWs (num k.1).toNat k.2; (⟨num c.1, w.1⟩, w.2)
def take (s : List UInt8) : Option Record := let x := rdRec s; if x.2.2 = true ∨ x.2.1 ≠ [] ∨ okR x.1 = false then none else some x.1
def rc (s : List UInt8) : Record := (take s).getD ⟨0, []⟩
theorem tk_good {n : Nat} {r : Rdr} (h : (tk n r).2.2 = false) : r.2 = false ∧ (tk n r).2.1.length + n = r.1.length := by
  unfold tk at *
  split at h
  · cases h
  · rename_i hn
    rw [if_neg hn]
    rw [not_or, Bool.not_eq_true] at hn
    refine ⟨hn.1, ?_⟩
    simp only [List.length_drop]; omega
theorem rdW_good {r : Rdr} (h : (rdW r).2.2 = false) : r.2 = false ∧ (rdW r).2.1.length + 4 ≤ r.1.length := by
  simp only [rdW, rdK] at *
  have h1 := tk_good h
  have h2 := tk_good h1.1
  have h3 := tk_good h2.1
  have h4 := tk_good h3.1
  have h5 : (tk 1 (tk 1 r).2).2.2 = false := by
    have := h4.1
    simp only [rdG, Bool.or_eq_false_iff] at this
    exact this.1
  have h6 := tk_good h5
  have h7 := tk_good h6.1
  have e : (rdG r).1 = (tk 1 (tk 1 r).2).2.1 := rfl
  rw [e] at h4
  exact ⟨h7.1, by omega⟩
theorem rdW_len (r : Rdr) : (rdW r).2.1.length ≤ r.1.length := by
  simp only [rdW, rdK]
  have h1 := (tk_len (num (tk 1 (tk (num (tk 1 (rdG r)).1).toNat (tk 1 (rdG r)).2).2).1).toNat (tk 1 (tk (num (tk 1 (rdG r)).1).toNat (tk 1 (rdG r)).2).2).2).2
  have h2 := (tk_len 1 (tk (num (tk 1 (rdG r)).1).toNat (tk 1 (rdG r)).2).2).2
  have h3 := (tk_len (num (tk 1 (rdG r)).1).toNat (tk 1 (rdG r)).2).2
  have h4 := (tk_len 1 (rdG r)).2
  have h5 := (tk_len 1 (tk 1 r).2).2
  have h6 := (tk_len 1 r).2
  have e : (rdG r).1 = (tk 1 (tk 1 r).2).2.1 := rfl
  rw [e] at h4
  omega
theorem tk_drop {s : List UInt8} {a n : Nat} (h : a + n ≤ s.length) : tk n (s.drop a, false) = ((s.take (a + n)).drop a, (s.drop (a + n), false)) := by
  unfold tk
  rw [if_neg (by simp; omega)]
  simp [List.drop_take]
theorem tk_short {s : List UInt8} {a n : Nat} (h : s.length < a + n) (hn : 0 < n) : (tk n (s.drop a, false)).2.2 = true := by
  unfold tk
  rw [if_pos (by simp; omega)]
theorem tk_bad {n : Nat} {r : Rdr} (h : r.2 = true) : (tk n r).2.2 = true := by
  unfold tk
  rw [if_pos (.inl h)]
theorem num_at {s : List UInt8} {a : Nat} (h : a < s.length) : num ((s.take (a + 1)).drop a) = s[a].toNat := by
  rw [List.take_succ_eq_append_getElem h, List.drop_left' (by simp; omega)]
  simp [num]
theorem rdK_bad {r : Rdr} (h : r.2 = true) : (rdK r).2.2 = true := tk_bad (tk_bad h)
theorem rdWs_bad {r : Rdr} (h : r.2 = true) : ∀ n, (rdWs n r).2.2 = true
  | 0 => h
  | n + 1 => by simp [rdWs, h]
theorem rdWs_bad1 {n : Nat} {r : Rdr} (h : (rdW r).2.2 = true) : (rdWs (n + 1) r).2.2 = true := by
  unfold rdWs
  split
  · assumption
  · exact rdWs_bad h n
section
variable {s : List UInt8} {a : Nat} (h : a + 4 ≤ s.length)
include h
theorem rdG_at : rdG (s.drop a, false) = (s.drop (a + 2), decide (1 < (s[a + 1].toNat : Int))) := by
  simp only [rdG, tk_drop (n := 1) (show a + 1 ≤ s.length by omega), tk_drop (n := 1) (show a + 1 + 1 ≤ s.length by omega), num_at (show a + 1 < s.length by omega), Bool.false_or]
theorem rdW_gone (hg : 1 < (s[a + 1].toNat : Int)) : (rdW (s.drop a, false)).2.2 = true := by
  simp only [rdW]
  exact rdK_bad (rdK_bad (by rw [rdG_at h]; simp only [hg, decide_true]))
theorem rdK_at (hg : ¬ 1 < (s[a + 1].toNat : Int)) : rdK (rdG (s.drop a, false)) = tk s[a + 2].toNat (s.drop (a + 3), false) := by
  rw [rdG_at h, decide_eq_false hg]
  simp only [rdK, tk_drop (n := 1) (show a + 2 + 1 ≤ s.length by omega), num_at (show a + 2 < s.length by omega), Int.toNat_natCast]
theorem rdW_key (hg : ¬ 1 < (s[a + 1].toNat : Int)) (hk : s.length < a + 4 + s[a + 2].toNat) : (rdW (s.drop a, false)).2.2 = true := by
  simp only [rdW]
  rw [rdK_at h hg]
  by_cases h3 : a + 3 + s[a + 2].toNat ≤ s.length
  · rw [tk_drop h3]
    exact tk_bad (tk_short (by omega) (by omega))
  · by_cases h0 : s[a + 2].toNat = 0
    · omega
    · exact rdK_bad (tk_short (by omega) (by omega))
theorem rdK2_at (hg : ¬ 1 < (s[a + 1].toNat : Int)) (hk : a + 4 + s[a + 2].toNat ≤ s.length) : rdK (rdK (rdG (s.drop a, false))).2 = tk (s[a + 3 + s[a + 2].toNat]'(by omega)).toNat (s.drop (a + 4 + s[a + 2].toNat), false) := by
  rw [rdK_at h hg, tk_drop (by omega)]
  simp only [rdK, tk_drop (n := 1) (show a + 3 + s[a + 2].toNat + 1 ≤ s.length by omega), num_at (show a + 3 + s[a + 2].toNat < s.length by omega), Int.toNat_natCast]
  rw [show a + 3 + s[a + 2].toNat + 1 = a + 4 + s[a + 2].toNat by omega]
theorem rdW_val (hg : ¬ 1 < (s[a + 1].toNat : Int)) (hk : a + 4 + s[a + 2].toNat ≤ s.length) (hv : s.length < a + 4 + s[a + 2].toNat + (s[a + 3 + s[a + 2].toNat]'(by omega)).toNat) : (rdW (s.drop a, false)).2.2 = true := by
  simp only [rdW]
  rw [rdK2_at h hg hk]
  exact tk_short hv (by omega)
theorem rdW_at (hg : ¬ 1 < (s[a + 1].toNat : Int)) (hk : a + 4 + s[a + 2].toNat ≤ s.length) (hv : a + 4 + s[a + 2].toNat + (s[a + 3 + s[a + 2].toNat]'(by omega)).toNat ≤ s.length) :
    rdW (s.drop a, false) = (⟨s[a].toNat, (s.take (a + 3 + s[a + 2].toNat)).drop (a + 3), (s.take (a + 4 + s[a + 2].toNat + (s[a + 3 + s[a + 2].toNat]'(by omega)).toNat)).drop (a + 4 + s[a + 2].toNat), decide ((s[a + 1].toNat : Int) = 1)⟩, (s.drop (a + 4 + s[a + 2].toNat + (s[a + 3 + s[a + 2].toNat]'(by omega)).toNat), false)) := by
  simp only [rdW, rdK2_at h hg hk, tk_drop hv]
  simp only [rdK_at h hg, tk_drop (show a + 3 + s[a + 2].toNat ≤ s.length by omega), tk_drop (n := 1) (show a + 1 ≤ s.length by omega), tk_drop (n := 1) (show a + 1 + 1 ≤ s.length by omega), num_at (show a < s.length by omega), num_at (show a + 1 < s.length by omega)]
end
theorem tk_app {n : Nat} {s t : List UInt8} (h : s.length = n) : tk n (s ++ t, false) = (s, t, false) := by
  subst h
  unfold tk
  rw [if_neg (by simp)]
  simp
theorem num_be1 {n : Int} (h0 : 0 ≤ n) (h1 : n < 256) : num (be 1 n) = n := by
  simp [be, num, byt_toNat]; omega
theorem num_be4 {n : Int} (h0 : 0 ≤ n) (h1 : n < 4294967296) : num (be 4 n) = n := by
  simp only [be4, num, List.foldl_cons, List.foldl_nil, byt_toNat]; omega
theorem tk_be1 {n : Int} {t : List UInt8} : tk 1 (be 1 n ++ t, false) = (be 1 n, t, false) := tk_app (be_length _ _)
theorem tk_be4 {n : Int} {t : List UInt8} : tk 4 (be 4 n ++ t, false) = (be 4 n, t, false) := tk_app (be_length _ _)
theorem rdK_app {s t : List UInt8} (h : s.length < 256) : rdK (be 1 s.length ++ (s ++ t), false) = (s, t, false) := by
  simp only [rdK, tk_be1]
  rw [num_be1 (by omega) (by omega), Int.toNat_natCast, tk_app rfl]
theorem rdW_wr {w : Write} {t : List UInt8} (h : okW w = true) : rdW (wr w ++ t, false) = (w, t, false) := by
  obtain ⟨a, k, v, g⟩ := w
  simp only [okW, decide_eq_true_eq] at h
  have e : wr ⟨a, k, v, g⟩ ++ t = be 1 a ++ (be 1 (if g then 1 else 0) ++ (be 1 k.length ++ (k ++ (be 1 v.length ++ (v ++ t))))) := by simp [wr]
  have eg : num (be 1 (if g then (1 : Int) else 0)) = if g then 1 else 0 := num_be1 (by split <;> omega) (by split <;> omega)
  have e2 : rdG (wr ⟨a, k, v, g⟩ ++ t, false) = (be 1 k.length ++ (k ++ (be 1 v.length ++ (v ++ t))), false) := by
    rw [e]
    simp only [rdG, tk_be1, eg]
    cases g <;> simp
  simp only [rdW, e2]
  rw [rdK_app (by omega), rdK_app (by omega), e]
  simp only [tk_be1, eg]
  rw [num_be1 (by omega) (by omega)]
  cases g <;> rfl
theorem rdWs_wrs : ∀ {l : List Write} {t : List UInt8}, (∀ w ∈ l, okW w = true) → rdWs l.length (wrs l ++ t, false) = (l, t, false)
  | [], t, _ => rfl
  | w :: l, t, h => by
    have e : wrs (w :: l) ++ t = wr w ++ (wrs l ++ t) := by simp [wrs]
    rw [e, List.length_cons, rdWs, if_neg (by simp), rdW_wr (h w (by simp)), rdWs_wrs fun x hx => h x (List.mem_cons_of_mem _ hx)]
theorem take_spelt {r : Record} (h : okR r = true) : take (spelt r) = some r := by
  obtain ⟨c, l⟩ := r
  have h' := h
  simp only [okR, Bool.and_eq_true, decide_eq_true_eq, List.all_eq_true] at h'
  have e : rdRec (spelt ⟨c, l⟩) = (⟨c, l⟩, [], false) := by
    have e1 : spelt ⟨c, l⟩ = be 4 c ++ (be 4 l.length ++ (wrs l ++ [])) := by simp [spelt]
    rw [e1]
    simp only [rdRec, tk_be4]
    rw [num_be4 (by omega) (by omega), num_be4 (by omega) (by omega), Int.toNat_natCast, rdWs_wrs h'.2]
  simp only [take, e, h]
  simp
theorem okR_len {r : Record} (h : okR r = true) : (spelt r).length ≤ 3000 ∧ 8 ≤ (spelt r).length := by
  simp only [okR, Bool.and_eq_true, decide_eq_true_eq, List.all_eq_true] at h
  have : ∀ l : List Write, (∀ w ∈ l, okW w = true) → (wrs l).length ≤ l.length * 36 := by
    intro l
    induction l with
    | nil => intro _; simp [wrs]
    | cons w l ih =>
      intro hw
      have h1 := hw w (by simp)
      simp only [okW, decide_eq_true_eq] at h1
      have h2 := ih fun x hx => hw x (List.mem_cons_of_mem _ hx)
      have h3 : (wrs (w :: l)).length = (wr w).length + (wrs l).length := by simp [wrs]
      have h4 : (wr w).length = 4 + w.Key.length + w.Value.length := by simp [wr, be_length]; omega
      rw [h3, List.length_cons]; omega
  have h1 := this r.Writes h.2
  have h2 : (spelt r).length = 8 + (wrs r.Writes).length := by simp [spelt, be_length]; omega
  omega
theorem take_ok {s : List UInt8} {r : Record} (h : take s = some r) : okR r = true := by
  simp only [take] at h
  split at h
  · cases h
  · rename_i hn
    simp only [not_or, Bool.not_eq_false] at hn
    cases h
    exact hn.2.2
/-! ### sectors -/
def sec (run n : Int) (i : Nat) (last : Bool) (p : List UInt8) : List UInt8 :=
  be 4 run ++ be 4 n ++ [byt (i / 256), byt i, (if last then 1 else 0), byt p.length] ++ p ++ List.replicate (20 - p.length) 0
def cnt (s : List UInt8) : Nat := (s.length + 19) / 20
def piece (s : List UInt8) (i : Nat) : List UInt8 := (s.drop (20 * i)).take 20
def cutK (run n : Int) (s : List UInt8) (k : Nat) : List (List UInt8) := (List.range k).map fun i => sec run n i (decide (i + 1 = cnt s)) (piece s i)
def cuts (run n : Int) (s : List UInt8) : List (List UInt8) := cutK run n s (cnt s)
theorem cutK_succ (run n : Int) (s : List UInt8) (k : Nat) : cutK run n s (k + 1) = cutK run n s k ++ [sec run n k (decide (k + 1 = cnt s)) (piece s k)] := by
  simp [cutK, List.range_succ]
theorem cuts_len (run n : Int) (s : List UInt8) : (cuts run n s).length = cnt s := by simp [cuts, cutK]
theorem cuts_get {run n : Int} {s : List UInt8} {i : Nat} (h : i < cnt s) : (cuts run n s)[i]? = some (sec run n i (decide (i + 1 = cnt s)) (piece s i)) := by
  simp [cuts, cutK, h]
theorem piece_len (s : List UInt8) (i : Nat) : (piece s i).length ≤ 20 := by simp [piece]; omega
theorem sec_len {run n : Int} {i : Nat} {b : Bool} {p : List UInt8} (h : p.length ≤ 20) : (sec run n i b p).length = 32 := by
  simp [sec, be_length]; omega
theorem cuts_32 {run n : Int} {s : List UInt8} : ∀ x ∈ cuts run n s, x.length = 32 := by
  intro x hx
  simp only [cuts, cutK, List.mem_map] at hx
  obtain ⟨i, _, rfl⟩ := hx
  exact sec_len (piece_len s i)
theorem sec3 {run n : Int} {i : Nat} {b : Bool} {p : List UInt8} : (sec run n i b p)[3]? = some (byt run) := by simp [sec, be4]
theorem sec7 {run n : Int} {i : Nat} {b : Bool} {p : List UInt8} : (sec run n i b p)[7]? = some (byt n) := by simp [sec, be4]
theorem sec9 {run n : Int} {i : Nat} {b : Bool} {p : List UInt8} : (sec run n i b p)[9]? = some (byt i) := by simp [sec, be4]
theorem sec10 {run n : Int} {i : Nat} {b : Bool} {p : List UInt8} : (sec run n i b p)[10]? = some (if b then 1 else 0) := by simp [sec, be4]
theorem sec11 {run n : Int} {i : Nat} {b : Bool} {p : List UInt8} : (sec run n i b p)[11]? = some (byt p.length) := by simp [sec, be4]
theorem sec12 {run n : Int} {i : Nat} {b : Bool} {p : List UInt8} : ((sec run n i b p).drop 12).take p.length = p := by simp [sec, be4]
theorem byt_inj {a b : Int} (h : byt a = byt b) : a % 256 = b % 256 := by rw [← byt_toNat, ← byt_toNat, h]
theorem byt_len {p : List UInt8} (h : p.length ≤ 20) : (byt p.length).toNat = p.length := by
  have := byt_toNat p.length; omega
/-! ### reading sectors -/
def whole (run n : Int) (L : List (List UInt8)) : List (List UInt8) → Nat → List UInt8 → Record × Nat
  | [], _, _ => (⟨0, []⟩, 0)
  | s :: ss, i, b =>
    if s.length ≠ 32 then (⟨0, []⟩, 0) else if 20 < (s[11]?.getD 0).toNat then (⟨0, []⟩, 0) else
    if s[10]?.getD 0 = 0 then whole run n L ss (i + 1) (b ++ (s.drop 12).take (s[11]?.getD 0).toNat) else
    match take (b ++ (s.drop 12).take (s[11]?.getD 0).toNat) with
    | some r => if cuts run n (spelt r) = L.take (i + 1) then (r, i + 1) else (⟨0, []⟩, 0)
    | none => (⟨0, []⟩, 0)
def whole1 (run n : Int) (L : List (List UInt8)) : Record × Nat := whole run n L L 0 []
theorem whole_le (run n : Int) (L : List (List UInt8)) : ∀ (l : List (List UInt8)) (i : Nat) (b : List UInt8), (whole run n L l i b).2 ≤ i + l.length
  | [], i, b => by simp [whole]
  | s :: ss, i, b => by
    unfold whole
    have := whole_le run n L ss (i + 1) (b ++ (s.drop 12).take (s[11]?.getD 0).toNat)
    rw [List.length_cons]
    split
    · simp
    split
    · simp
    split
    · omega
    split
    · split <;> simp
    · simp
theorem whole1_le (run n : Int) (L : List (List UInt8)) : (whole1 run n L).2 ≤ L.length := by
  have := whole_le run n L L 0 []; unfold whole1; omega
theorem whole_sound {run n : Int} {L : List (List UInt8)} {r : Record} {k : Nat} : ∀ {l : List (List UInt8)} {i : Nat} {b : List UInt8}, whole run n L l i b = (r, k) → k ≠ 0 → cuts run n (spelt r) = L.take k ∧ okR r = true
  | [], i, b, h, hk => by simp [whole] at h; omega
  | s :: ss, i, b, h, hk => by
    unfold whole at h
    split at h
    · cases h; exact absurd rfl hk
    split at h
    · cases h; exact absurd rfl hk
    split at h
    · exact whole_sound h hk
    split at h
    · rename_i r' ht
      split at h
      · rename_i hc; cases h; exact ⟨hc, take_ok ht⟩
      · cases h; exact absurd rfl hk
    · cases h; exact absurd rfl hk
theorem cnt_pos {r : Record} (h : okR r = true) : 0 < cnt (spelt r) ∧ cnt (spelt r) ≤ 151 := by
  have := okR_len h; unfold cnt; omega
theorem whole1_none {run n : Int} {L : List (List UInt8)} (h : ∀ (s : List UInt8) (k : Nat), 0 < cnt s → k = cnt s → k ≤ L.length → cuts run n s = L.take k → False) : (whole1 run n L).2 = 0 := by
  obtain ⟨⟨r, k⟩, hw⟩ : ∃ x, whole1 run n L = x := ⟨_, rfl⟩
  have hle := whole1_le run n L
  rw [hw] at hle ⊢
  refine Classical.byContradiction fun hk => ?_
  obtain ⟨hc, hr⟩ := whole_sound hw hk
  have h1 := congrArg List.length hc
  simp only at hle
  rw [cuts_len, List.length_take, Nat.min_eq_left hle] at h1
  exact h _ k (cnt_pos hr).1 h1.symm hle hc
theorem whole_cut {run n : Int} {r : Record} {S : List (List UInt8)} (hr : okR r = true) : ∀ (d i : Nat), i + d + 1 = cnt (spelt r) → whole run n (cuts run n (spelt r) ++ S) ((cuts run n (spelt r) ++ S).drop i) i ((spelt r).take (20 * i)) = (r, cnt (spelt r))
  | d, i, hd => by
    obtain ⟨s, hs⟩ : ∃ s, spelt r = s := ⟨_, rfl⟩
    have ht := take_spelt hr
    have ih := fun d' (h : d = d' + 1) => whole_cut (run := run) (n := n) (S := S) hr d' (i + 1) (by omega)
    rw [hs] at hd ht ih ⊢
    have hi : i < cnt s := by omega
    have hil : i < (cuts run n s ++ S).length := by rw [List.length_append, cuts_len]; omega
    have hg : (cuts run n s ++ S)[i] = sec run n i (decide (i + 1 = cnt s)) (piece s i) := by
      have := cuts_get (run := run) (n := n) hi
      rw [← List.getElem?_append_left (l₂ := S) (by rw [cuts_len]; exact hi), List.getElem?_eq_getElem hil] at this
      exact Option.some.inj this
    have hp := piece_len s i
    have hpt : s.take (20 * i) ++ piece s i = s.take (20 * (i + 1)) := by
      rw [piece, show 20 * (i + 1) = 20 * i + 20 by omega, List.take_add]
    rw [List.drop_eq_getElem_cons hil, hg, whole, if_neg (by rw [sec_len hp]; simp), sec11, Option.getD_some, byt_len hp, if_neg (by omega), sec10, Option.getD_some, sec12, hpt]
    by_cases hl : i + 1 = cnt s
    · have e : s.take (20 * (i + 1)) = s := List.take_of_length_le (by unfold cnt at hl; omega)
      simp only [hl, decide_true, if_true]
      rw [if_neg (by decide)]
      rw [hl] at e
      rw [e, ht]
      simp only
      rw [hs, if_pos (by rw [← cuts_len run n s, List.take_left])]
    · rw [decide_eq_false hl]
      simp only [Bool.false_eq_true, if_false, if_true]
      obtain ⟨d', rfl⟩ : ∃ d', d = d' + 1 := ⟨d - 1, by omega⟩
      exact ih d' rfl
theorem whole1_cut {run n : Int} {r : Record} {S : List (List UInt8)} (hr : okR r = true) : whole1 run n (cuts run n (spelt r) ++ S) = (r, cnt (spelt r)) := by
  have := whole_cut (run := run) (n := n) (S := S) hr (cnt (spelt r) - 1) 0 (by have := (cnt_pos hr).1; omega)
  simpa [whole1] using this
/-- Record by record. -/
def runF (run : Int) (L : List (List UInt8)) : Nat → Int → Nat → List Record × Nat
  | 0, _, m => ([], m)
  | j + 1, n, m => if 1073741824 < n then ([], m) else
    let w := whole1 run n (L.drop m)
    if w.2 = 0 then ([], m) else (w.1 :: (runF run L j (n + 1) (m + w.2)).1, (runF run L j (n + 1) (m + w.2)).2)
def rd (run n : Int) (L : List (List UInt8)) : List Record × Nat := runF run L (L.length + 1) n 0
theorem runF_le (run : Int) (L : List (List UInt8)) : ∀ (j : Nat) (n : Int) (m : Nat), m ≤ (runF run L j n m).2
  | 0, n, m => Nat.le_refl _
  | j + 1, n, m => by
    unfold runF
    split
    · simp
    dsimp only
    split
    · simp
    · have := runF_le run L j (n + 1) (m + (whole1 run n (L.drop m)).2); simp only; omega
theorem runF_ub (run : Int) (L : List (List UInt8)) : ∀ (j : Nat) (n : Int) (m : Nat), m ≤ L.length → (runF run L j n m).2 ≤ L.length
  | 0, n, m, h => h
  | j + 1, n, m, h => by
    unfold runF
    split
    · exact h
    dsimp only
    split
    · exact h
    · have hle := whole1_le run n (L.drop m)
      rw [List.length_drop] at hle
      exact runF_ub run L j (n + 1) (m + (whole1 run n (L.drop m)).2) (by omega)
theorem rd_le (run n : Int) (L : List (List UInt8)) : (rd run n L).2 ≤ L.length := runF_ub run L _ n 0 (Nat.zero_le _)
theorem rd_none {run n : Int} {L : List (List UInt8)} (h : (whole1 run n L).2 = 0) : rd run n L = ([], 0) := by
  simp only [rd, runF, List.drop_zero, h]
  simp
theorem rd_cut {run n : Int} {r : Record} {S : List (List UInt8)} (hr : okR r = true) (hn : n ≤ 1073741824) : ∃ x k, rd run n (cuts run n (spelt r) ++ S) = (r :: x, k) ∧ cnt (spelt r) ≤ k := by
  have h0 := (cnt_pos hr).1
  have h1 : rd run n (cuts run n (spelt r) ++ S) = (r :: (runF run (cuts run n (spelt r) ++ S) (cuts run n (spelt r) ++ S).length (n + 1) (0 + cnt (spelt r))).1, (runF run (cuts run n (spelt r) ++ S) (cuts run n (spelt r) ++ S).length (n + 1) (0 + cnt (spelt r))).2) := by
    simp only [rd]
    rw [runF, if_neg (by omega)]
    simp only [List.drop_zero, whole1_cut hr]
    rw [if_neg (by omega)]
  refine ⟨_, _, h1, ?_⟩
  have := runF_le run (cuts run n (spelt r) ++ S) (cuts run n (spelt r) ++ S).length (n + 1) (0 + cnt (spelt r))
  omega
/-! ### none lies there -/
theorem none_run {run run' n n' : Int} {s : List UInt8} (h : run % 256 ≠ run' % 256 ∨ n % 256 ≠ n' % 256) : (whole1 run n (cuts run' n' s)).2 = 0 := by
  refine whole1_none fun t k h0 hk hl he => ?_
  rw [cuts_len] at hl
  have h1 := congrArg (·[0]?) he
  simp only [List.getElem?_take] at h1
  rw [if_pos (by omega), cuts_get h0, cuts_get (by omega)] at h1
  have h2 := Option.some.inj h1
  rcases h with h | h
  · have h3 := congrArg (·[3]?) h2; simp only [sec3] at h3; exact h (byt_inj (Option.some.inj h3))
  · have h3 := congrArg (·[7]?) h2; simp only [sec7] at h3; exact h (byt_inj (Option.some.inj h3))
theorem none_app {run n n' : Int} {s : List UInt8} {S : List (List UInt8)} (h0' : 0 < cnt s) (h : n % 256 ≠ n' % 256) : (whole1 run n (cuts run n' s ++ S)).2 = 0 := by
  refine whole1_none fun t k h0 hk hl he => ?_
  have h1 := congrArg (·[0]?) he
  simp only [List.getElem?_take] at h1
  rw [if_pos (by omega), cuts_get h0, List.getElem?_append_left (by rw [cuts_len]; exact h0'), cuts_get h0'] at h1
  have h2 := Option.some.inj h1
  have h3 := congrArg (·[7]?) h2; simp only [sec7] at h3; exact h (byt_inj (Option.some.inj h3))
theorem none_cut {run n : Int} {s : List UInt8} {k : Nat} (hk : k < cnt s) (h5 : cnt s ≤ 200) : (whole1 run n ((cuts run n s).take k ++ (cuts run n s).drop (k + 1))).2 = 0 := by
  refine whole1_none fun t j h0 hj hl he => ?_
  rw [List.length_append, List.length_take, List.length_drop, cuts_len] at hl
  have h1 := congrArg (·[j - 1]?) he
  simp only [List.getElem?_take] at h1
  rw [if_pos (by omega), cuts_get (by omega), List.getElem?_append] at h1
  rw [List.length_take, cuts_len] at h1
  split at h1
  · rw [List.getElem?_take, if_pos (by omega), cuts_get (by omega)] at h1
    have h2 := congrArg (·[10]?) (Option.some.inj h1)
    simp only [sec10] at h2
    rw [decide_eq_true (by omega), decide_eq_false (by omega)] at h2
    exact absurd h2 (by decide)
  · rw [List.getElem?_drop, cuts_get (by omega)] at h1
    have h2 := congrArg (·[9]?) (Option.some.inj h1)
    simp only [sec9] at h2
    have := byt_inj (Option.some.inj h2)
    omega
def okQ (run n : Int) : Bool := decide (0 ≤ run ∧ run ≤ 1073741824) && decide (0 ≤ n ∧ n ≤ 1073741824)
def okS (r : Record) (run n : Int) : Bool := okR r && okQ run n
theorem okR_smW {r : Record} (h : okR r = true) : smW r.Writes := by
  simp only [okR, Bool.and_eq_true, decide_eq_true_eq, List.all_eq_true] at h
  refine ⟨by omega, fun w hw => ?_⟩
  have := h.2 w hw
  simp only [okW, decide_eq_true_eq] at this
  omega
theorem eS_len (L : List (List UInt8)) : (L.map eS).length = L.length := List.length_map ..
end Go.Mir.Q

/- A log on a tape, in plain words. -/
set_option linter.unusedVariables false
set_option linter.unusedSimpArgs false
namespace Go.Mir.Q
open Go.Mir
structure Row where
  Key : List UInt8
  Value : List UInt8
deriving DecidableEq
abbrev Map := List (List Row)
structure Wal where
  Run : Int
  Slot : Int
  At : Int
  Seq : Int
deriving DecidableEq
def okRow (r : Row) : Bool := decide (1 ≤ r.Key.length ∧ r.Key.length ≤ 12 ∧ r.Value.length ≤ 20)
def rising : List Row → Bool
  | [] => true
  | [_] => true
  | a :: b :: l => Op.bytesLess a.Key b.Key && rising (b :: l)
def okRows (l : List Row) : Bool := l.all okRow && rising l
def okM (m : Map) : Bool := decide (m.length ≤ 3) && m.all okRows
def wrRow (t : Nat) (x : Row) : Write := ⟨t, x.Key, x.Value, false⟩
def imageF (t : Nat) : Map → List Write
  | [] => []
  | l :: m => l.map (wrRow t) ++ imageF (t + 1) m
def image (m : Map) : List Write := imageF 0 m
def okWal (w : Wal) : Bool := decide (1 ≤ w.Run ∧ w.Run < 1073741824) && decide (w.Slot = 0 ∨ w.Slot = 1) && decide (255 ≤ w.At ∧ w.At ≤ 512) && decide (1 ≤ w.Seq ∧ w.Seq < 1073741824)
theorem image_ok : ∀ {m : Map} {t : Nat}, t + m.length ≤ 3 → m.all okRows = true → ∀ w ∈ imageF t m, okW w = true
  | [], t, _, _, w, hw => by simp [imageF] at hw
  | l :: m, t, ht, hm, w, hw => by
    simp only [List.all_cons, Bool.and_eq_true] at hm
    simp only [imageF, List.mem_append, List.mem_map] at hw
    simp only [List.length_cons] at ht
    rcases hw with ⟨x, hx, rfl⟩ | hw
    · have := hm.1
      simp only [okRows, Bool.and_eq_true, List.all_eq_true] at this
      have hx := this.1 x hx
      simp only [okRow, decide_eq_true_eq] at hx
      simp only [okW, wrRow, decide_eq_true_eq]
      refine ⟨by omega, by omega, ?_, by omega, by omega, by simp⟩
      intro h; rw [h] at hx; simp at hx
    · exact image_ok (by omega) hm.2 w hw
theorem image_okR {m : Map} (h : okM m = true) (h64 : (image m).length ≤ 64) : okR ⟨1, image m⟩ = true := by
  simp only [okM, Bool.and_eq_true, decide_eq_true_eq] at h
  simp only [okR, Bool.and_eq_true, decide_eq_true_eq, List.all_eq_true]
  exact ⟨⟨by omega, by omega, h64⟩, image_ok (by omega) h.2⟩
theorem okR_cnt {r : Record} (h : okR r = true) : cnt (spelt r) ≤ 116 := by
  simp only [okR, Bool.and_eq_true, decide_eq_true_eq, List.all_eq_true] at h
  have : ∀ l : List Write, (∀ w ∈ l, okW w = true) → (wrs l).length ≤ l.length * 36 := by
    intro l
    induction l with
    | nil => intro _; simp [wrs]
    | cons w l ih =>
      intro hw
      have h1 := hw w (by simp)
      simp only [okW, decide_eq_true_eq] at h1
      have h2 := ih fun x hx => hw x (List.mem_cons_of_mem _ hx)
      have h3 : (wrs (w :: l)).length = (wr w).length + (wrs l).length := by simp [wrs]
      have h4 : (wr w).length = 4 + w.Key.length + w.Value.length := by simp [wr, be_length]; omega
      rw [h3, List.length_cons]; omega
  have h1 := this r.Writes h.2
  have h2 : (spelt r).length = 8 + (wrs r.Writes).length := by simp [spelt, be_length]; omega
  unfold cnt; omega

/-! ### laying -/
def startS (slot : Int) : Nat := if slot = 0 then 1 else 128
def putsW (a : Nat) : List (List UInt8) → List Put
  | [] => []
  | s :: l => ⟨a, s⟩ :: putsW (a + 1) l
def putsD (a : Nat) (l : List (List UInt8)) : List Do := (putsW a l).map fun p => ⟨false, p⟩
def syncD : Do := ⟨true, ⟨0, []⟩⟩
def superS (run slot : Int) : List UInt8 := sec 0 run 0 true (spelt ⟨slot + 1, []⟩)
def layD (run slot : Int) (m : Map) : List Do := putsD (startS slot) (cuts run 0 (spelt ⟨1, image m⟩)) ++ syncD :: (putsD 0 [superS run slot] ++ [syncD])
theorem putsW_len : ∀ (l : List (List UInt8)) (a : Nat), (putsW a l).length = l.length
  | [], a => rfl
  | s :: l, a => by simp [putsW, putsW_len l]
theorem putsD_len (l : List (List UInt8)) (a : Nat) : (putsD a l).length = l.length := by simp [putsD, putsW_len]
theorem putsW_app : ∀ (l k : List (List UInt8)) (a : Nat), putsW a (l ++ k) = putsW a l ++ putsW (a + l.length) k
  | [], k, a => by simp [putsW]
  | s :: l, k, a => by
    simp only [List.cons_append, putsW, putsW_app l k (a + 1), List.length_cons]
    rw [show a + 1 + l.length = a + (l.length + 1) by omega]
theorem putsW_take : ∀ (l : List (List UInt8)) (a n : Nat), (putsW a l).take n = putsW a (l.take n)
  | [], a, n => by simp [putsW]
  | s :: l, a, 0 => by simp [putsW]
  | s :: l, a, n + 1 => by simp [putsW, putsW_take l]
theorem putsW_mem : ∀ {l : List (List UInt8)} {a : Nat} {p : Put}, p ∈ putsW a l → (a : Int) ≤ p.At ∧ p.At < ((a + l.length : Nat) : Int) ∧ p.Text ∈ l
  | [], a, p, h => by simp [putsW] at h
  | s :: l, a, p, h => by
    simp only [putsW, List.mem_cons] at h
    rcases h with rfl | h
    · simp; omega
    · have := putsW_mem h
      simp only [List.length_cons, List.mem_cons]
      exact ⟨by omega, by omega, .inr this.2.2⟩
theorem spelt_super (slot : Int) : (spelt ⟨slot + 1, []⟩).length = 8 := by simp [spelt, wrs, be_length]
theorem cuts_super (run slot : Int) : cuts 0 run (spelt ⟨slot + 1, []⟩) = [superS run slot] := by
  have h := spelt_super slot
  have hc : cnt (spelt ⟨slot + 1, []⟩) = 1 := by simp [cnt, h]
  have hp : piece (spelt ⟨slot + 1, []⟩) 0 = spelt ⟨slot + 1, []⟩ := by rw [piece, Nat.mul_zero, List.drop_zero, List.take_of_length_le (by omega)]
  simp [cuts, cutK, hc, superS, hp, List.range_succ]

/-! ### playing -/
theorem play_puts : ∀ (P : List Put) (S : List (List UInt8)) (W : List Put), (∀ p ∈ P, 0 ≤ p.At ∧ p.At < S.length ∧ p.Text.length = 32) → W.length + P.length ≤ 2048 → playT ⟨S, W⟩ (P.map fun p => ⟨false, p⟩) = (0, ⟨S, W ++ P⟩)
  | [], S, W, _, _ => by simp [playT]
  | p :: P, S, W, h, hl => by
    have h1 := h p (by simp)
    simp only [List.length_cons] at hl
    have := step_ok (T := ⟨S, W⟩) (d := ⟨false, p⟩) rfl ⟨h1.1, h1.2.1⟩ h1.2.2 (by simp only; omega)
    simp only [List.map_cons, playT, this, if_true]
    rw [play_puts P S (W ++ [p]) (fun q hq => h q (by simp [hq])) (by simp; omega)]
    simp
theorem play_sync (S : List (List UInt8)) (W : List Put) : playT ⟨S, W⟩ [syncD] = (0, ⟨flush S W, []⟩) := by simp [playT, stepT, syncD]
/-- A list over which others were written, from a place on. -/
def over (S : List (List UInt8)) (a : Nat) (l : List (List UInt8)) : List (List UInt8) := flush S (putsW a l)
theorem over_length (S l : List (List UInt8)) (a : Nat) : (over S a l).length = S.length := flush_length _ _
theorem put1_get (S : List (List UInt8)) (a : Nat) (s : List UInt8) (i : Nat) : (put1 S ⟨a, s⟩)[i]? = if i = a ∧ a < S.length then some s else S[i]? := by
  simp only [put1, Int.toNat_natCast, List.getElem?_set]
  by_cases h : a = i
  · subst h
    by_cases h2 : a < S.length
    · simp [h2]
    · simp [h2]
  · rw [if_neg h, if_neg (by omega)]
theorem over_get : ∀ (l S : List (List UInt8)) (a i : Nat), a + l.length ≤ S.length → (over S a l)[i]? = if a ≤ i ∧ i < a + l.length then l[i - a]? else S[i]?
  | [], S, a, i, h => by
    rw [if_neg (by simp)]; rfl
  | s :: l, S, a, i, h => by
    simp only [List.length_cons] at h
    have h1 : over S a (s :: l) = over (put1 S ⟨a, s⟩) (a + 1) l := rfl
    rw [h1, over_get l _ (a + 1) i (by rw [put1_length]; omega), put1_get]
    simp only [List.length_cons]
    by_cases h2 : a + 1 ≤ i ∧ i < a + 1 + l.length
    · rw [if_pos h2, if_pos (by omega)]
      obtain ⟨j, rfl⟩ : ∃ j, i = j + (a + 1) := ⟨i - (a + 1), by omega⟩
      rw [Nat.add_sub_cancel, show j + (a + 1) - a = j + 1 by omega, List.getElem?_cons_succ]
    · rw [if_neg h2]
      by_cases h3 : i = a
      · subst h3
        rw [if_pos ⟨rfl, by omega⟩, if_pos (by omega), Nat.sub_self, List.getElem?_cons_zero]
      · rw [if_neg (fun h => h3 h.1), if_neg (by omega)]
theorem over_eq (l S : List (List UInt8)) (a : Nat) (h : a + l.length ≤ S.length) : over S a l = S.take a ++ l ++ S.drop (a + l.length) := by
  apply List.ext_getElem?
  intro i
  rw [over_get l S a i h]
  have hta : (S.take a).length = a := by rw [List.length_take]; omega
  by_cases h1 : i < a
  · rw [if_neg (by omega), List.append_assoc, List.getElem?_append_left (by omega), List.getElem?_take, if_pos h1]
  · by_cases h2 : i < a + l.length
    · rw [if_pos ⟨by omega, h2⟩, List.append_assoc, List.getElem?_append_right (by omega), hta, List.getElem?_append_left (by omega)]
    · rw [if_neg (by omega), List.getElem?_append_right (by rw [List.length_append, hta]; omega), List.length_append, hta, List.getElem?_drop]
      congr 1; omega
/-- What a crash keeps of them. -/
theorem crash_over (K : List Int) : ∀ (l S : List (List UInt8)) (a i : Nat), a + l.length ≤ S.length → ∃ l' : List (List UInt8), crash1 K S i (putsW a l) = over S a l' ∧ l'.length = l.length ∧ ∀ j : Nat, l'[j]? = l[j]? ∨ (j < l.length ∧ l'[j]? = S[a + j]?)
  | [], S, a, i, h => ⟨[], rfl, rfl, fun j => .inl rfl⟩
  | s :: l, S, a, i, h => by
    simp only [List.length_cons] at h
    simp only [putsW, crash1]
    cases hk : keepB K i with
    | true =>
      obtain ⟨l', h1, h2, h3⟩ := crash_over K l (put1 S ⟨a, s⟩) (a + 1) (i + 1) (by rw [put1_length]; omega)
      refine ⟨s :: l', by simp only [if_true]; exact h1, by simp [h2], fun j => ?_⟩
      cases j with
      | zero => exact .inl rfl
      | succ j =>
        simp only [List.getElem?_cons_succ, List.length_cons]
        rcases h3 j with h | ⟨h, h'⟩
        · exact .inl h
        · rw [put1_get, if_neg (by omega), show a + 1 + j = a + (j + 1) by omega] at h'
          exact .inr ⟨by omega, h'⟩
    | false =>
      obtain ⟨l', h1, h2, h3⟩ := crash_over K l S (a + 1) (i + 1) (by omega)
      have hS : S[a]'(by omega) = S[a]'(by omega) := rfl
      refine ⟨S[a]'(by omega) :: l', ?_, by simp [h2], fun j => ?_⟩
      · simp only [Bool.false_eq_true, if_false]
        rw [h1]
        have : put1 S ⟨a, S[a]'(by omega)⟩ = S := by
          apply List.ext_getElem?
          intro j
          rw [put1_get]
          split
          · rename_i h; rw [h.1, List.getElem?_eq_getElem (by omega)]
          · rfl
        show over S (a + 1) l' = over (put1 S ⟨a, S[a]'(by omega)⟩) (a + 1) l'
        rw [this]
      · cases j with
        | zero => exact .inr ⟨by simp, by simp [List.getElem?_eq_getElem (show a < S.length by omega)]⟩
        | succ j =>
          simp only [List.getElem?_cons_succ, List.length_cons]
          rcases h3 j with h | ⟨h, h'⟩
          · exact .inl h
          · exact .inr ⟨by omega, by rw [h']; congr 1; omega⟩

/-! ### opening -/
def runOf (s : List UInt8) : Int := num ((s.drop 4).take 4)
def turnT (s : List UInt8) : Option (Int × Int) :=
  if 1 ≤ runOf s ∧ runOf s < 1073741824 then (if s = superS (runOf s) 1 then some (runOf s, 1) else if s = superS (runOf s) 0 then some (runOf s, 0) else none) else none
def groupT (tables : Nat) (ws : List Write) : Map := (List.range tables).map fun t : Nat => (ws.filter fun w => decide (w.Table = (t : Int))).map fun w => ⟨w.Key, w.Value⟩
def rowsT (tables : Nat) (r : Record) : Option Map :=
  if r.Commit = 1 ∧ (∀ w ∈ r.Writes, w.Table < tables ∧ w.Gone = false) ∧ okM (groupT tables r.Writes) = true ∧ image (groupT tables r.Writes) = r.Writes then some (groupT tables r.Writes) else none
def seg (S : List (List UInt8)) (slot : Int) : List (List UInt8) := (S.drop (startS slot)).take 127
def openT (S : List (List UInt8)) (tables : Nat) : Option (Map × List Record × Wal) :=
  match turnT (S[0]?.getD []) with
  | none => none
  | some (run, slot) =>
    if (whole1 run 0 (seg S slot)).2 = 0 then none else
    match rowsT tables (whole1 run 0 (seg S slot)).1 with
    | none => none
    | some m => some (m, (rd run 1 (S.drop 255)).1, ⟨run, slot, 255 + ((rd run 1 (S.drop 255)).2 : Nat), 1 + ((rd run 1 (S.drop 255)).1.length : Nat)⟩)
theorem sec_run {run n : Int} {i : Nat} {b : Bool} {p : List UInt8} : ((sec run n i b p).drop 4).take 4 = be 4 n := by
  simp [sec, be4]
theorem sec_run0 {run n : Int} {i : Nat} {b : Bool} {p : List UInt8} : (sec run n i b p).take 4 = be 4 run := by
  simp [sec, be4]
theorem runOf_super {run slot : Int} (h0 : 0 ≤ run) (h1 : run < 4294967296) : runOf (superS run slot) = run := by
  rw [runOf, superS, sec_run, num_be4 h0 h1]
theorem super_ne (run run' : Int) : superS run 0 ≠ superS run' 1 := by
  intro h
  have h1 := congrArg (fun s => s.drop 12) h
  simp [superS, sec, be4, spelt, wrs] at h1
  revert h1
  decide
theorem turnT_super {run slot : Int} (h0 : 1 ≤ run) (h1 : run < 1073741824) (hs : slot = 0 ∨ slot = 1) : turnT (superS run slot) = some (run, slot) := by
  have h := runOf_super (run := run) (slot := slot) (by omega) (by omega)
  simp only [turnT, h]
  rw [if_pos ⟨h0, h1⟩]
  rcases hs with rfl | rfl
  · rw [if_neg (super_ne run run), if_pos rfl]
  · rw [if_pos rfl]
theorem map_row_wr (t : Nat) (l : List Row) : (l.map (wrRow t)).map (fun w => (⟨w.Key, w.Value⟩ : Row)) = l := by
  rw [List.map_map]
  conv => rhs; rw [← List.map_id l]
  exact List.map_congr_left fun x _ => rfl
theorem image_tables : ∀ {m : Map} {t : Nat} {w : Write}, w ∈ imageF t m → (t : Int) ≤ w.Table ∧ w.Table < ((t + m.length : Nat) : Int) ∧ w.Gone = false
  | [], t, w, h => by simp [imageF] at h
  | l :: m, t, w, h => by
    simp only [imageF, List.mem_append, List.mem_map] at h
    simp only [List.length_cons]
    rcases h with ⟨x, _, rfl⟩ | h
    · simp only [wrRow]; exact ⟨by omega, by omega, trivial⟩
    · have := image_tables h; exact ⟨by omega, by omega, this.2.2⟩
theorem filter_image : ∀ (m : Map) (t : Nat) (i : Nat), i < m.length → (imageF t m).filter (fun w => decide (w.Table = ((t + i : Nat) : Int))) = (m[i]?.getD []).map (wrRow (t + i))
  | [], t, i, h => by simp at h
  | l :: m, t, i, h => by
    simp only [imageF, List.filter_append]
    cases i with
    | zero =>
      have h1 : (l.map (wrRow t)).filter (fun w => decide (w.Table = ((t + 0 : Nat) : Int))) = l.map (wrRow t) := by
        rw [List.filter_eq_self]; intro w hw
        obtain ⟨x, _, rfl⟩ := List.mem_map.1 hw; simp [wrRow]
      have h2 : (imageF (t + 1) m).filter (fun w => decide (w.Table = ((t + 0 : Nat) : Int))) = [] := by
        rw [List.filter_eq_nil_iff]; intro w hw
        have := image_tables hw; simp; omega
      rw [h1, h2]; simp
    | succ i =>
      have h1 : (l.map (wrRow t)).filter (fun w => decide (w.Table = ((t + (i + 1) : Nat) : Int))) = [] := by
        rw [List.filter_eq_nil_iff]; intro w hw
        obtain ⟨x, _, rfl⟩ := List.mem_map.1 hw; exact fun hh => by have := of_decide_eq_true hh; simp only [wrRow] at this; omega
      have h2 := filter_image m (t + 1) i (Nat.lt_of_succ_lt_succ h)
      rw [show t + 1 + i = t + (i + 1) by omega] at h2
      rw [h1, h2]; simp
theorem group_image (m : Map) : groupT m.length (image m) = m := by
  apply List.ext_getElem?
  intro i
  simp only [groupT, List.getElem?_map]
  by_cases h : i < m.length
  · have := filter_image m 0 i h
    rw [Nat.zero_add] at this
    rw [List.getElem?_range h, Option.map_some]
    simp only [image]
    rw [this, map_row_wr, List.getElem?_eq_getElem h, Option.getD_some]
  · rw [List.getElem?_eq_none (by simp; omega), List.getElem?_eq_none (by omega)]; rfl
theorem rowsT_image {m : Map} (hm : okM m = true) : rowsT m.length ⟨1, image m⟩ = some m := by
  have hg := group_image m
  have ha : ∀ w ∈ image m, w.Table < m.length ∧ w.Gone = false := fun w hw => by
    have := image_tables hw
    exact ⟨by omega, this.2.2⟩
  unfold rowsT
  rw [hg, if_pos ⟨rfl, ha, hm, rfl⟩]
/-- **A map that was laid is opened.** -/
theorem open_std {S : List (List UInt8)} {run slot : Int} {m : Map} (h0 : 1 ≤ run) (h1 : run < 1073741824) (hs : slot = 0 ∨ slot = 1) (hm : okM m = true) (h64 : (image m).length ≤ 64)
    (hS0 : S[0]? = some (superS run slot)) (hseg : ∃ R, S.drop (startS slot) = cuts run 0 (spelt ⟨1, image m⟩) ++ R) :
    openT S m.length = some (m, (rd run 1 (S.drop 255)).1, ⟨run, slot, 255 + ((rd run 1 (S.drop 255)).2 : Nat), 1 + ((rd run 1 (S.drop 255)).1.length : Nat)⟩) := by
  obtain ⟨R, hR⟩ := hseg
  have hr := image_okR hm h64
  have hc := okR_cnt hr
  have hp := (cnt_pos hr).1
  have hg : seg S slot = cuts run 0 (spelt ⟨1, image m⟩) ++ R.take (127 - cnt (spelt ⟨1, image m⟩)) := by
    rw [seg, hR, List.take_append, cuts_len, List.take_of_length_le (by rw [cuts_len]; omega)]
  simp only [openT, hS0, Option.getD_some, turnT_super h0 h1 hs, hg, whole1_cut hr]
  rw [if_neg (by omega)]
  simp only [rowsT_image hm]

/-! ### the log -/
def catR (run n : Int) : List Record → List (List UInt8)
  | [] => []
  | r :: rs => cuts run n (spelt r) ++ catR run (n + 1) rs
theorem catR_snoc (run : Int) (r : Record) : ∀ (rs : List Record) (n : Int), catR run n (rs ++ [r]) = catR run n rs ++ cuts run (n + rs.length) (spelt r)
  | [], n => by simp [catR]
  | x :: rs, n => by
    have := catR_snoc run r rs (n + 1)
    simp only [List.cons_append, catR, this, List.append_assoc, List.length_cons]
    rw [show n + 1 + (rs.length : Int) = n + ((rs.length + 1 : Nat) : Int) by omega]
theorem catR_app (run : Int) : ∀ (rs ss : List Record) (n : Int), catR run n (rs ++ ss) = catR run n rs ++ catR run (n + rs.length) ss
  | [], ss, n => by simp [catR]
  | x :: rs, ss, n => by
    have := catR_app run rs ss (n + 1)
    simp only [List.cons_append, catR, this, List.append_assoc, List.length_cons]
    rw [show n + 1 + (rs.length : Int) = n + ((rs.length + 1 : Nat) : Int) by omega]
theorem catR_len (run : Int) : ∀ (rs : List Record) (n : Int), (∀ r ∈ rs, okR r = true) → rs.length ≤ (catR run n rs).length
  | [], n, _ => by simp [catR]
  | r :: rs, n, h => by
    have h1 := cnt_pos (h r (by simp))
    have h2 := catR_len run rs (n + 1) fun x hx => h x (List.mem_cons_of_mem _ hx)
    simp only [catR, List.length_append, cuts_len, List.length_cons]; omega
theorem catR_32 (run : Int) : ∀ (rs : List Record) (n : Int), ∀ s ∈ catR run n rs, s.length = 32
  | [], n, s, hs => by simp [catR] at hs
  | r :: rs, n, s, hs => by
    simp only [catR, List.mem_append] at hs
    rcases hs with hs | hs
    · exact cuts_32 s hs
    · exact catR_32 run rs (n + 1) s hs
theorem runF_catR {run : Int} {L T : List (List UInt8)} : ∀ (rs : List Record) (n : Int) (m j : Nat), (whole1 run (n + rs.length) T).2 = 0 → (∀ r ∈ rs, okR r = true) → rs.length < j → n + rs.length ≤ 1073741824 → L.drop m = catR run n rs ++ T → runF run L j n m = (rs, m + (catR run n rs).length)
  | [], n, m, j, hT, _, hj, hn, hL => by
    obtain ⟨k, rfl⟩ : ∃ k, j = k + 1 := ⟨j - 1, by simp at hj; omega⟩
    simp only [List.length_nil] at hT hn
    rw [runF, if_neg (by omega), hL]
    rw [show n + ((0 : Nat) : Int) = n by omega] at hT
    simp only [catR, List.nil_append, hT]
    rfl
  | r :: rs, n, m, j, hT, hok, hj, hn, hL => by
    simp only [List.length_cons] at hj hn hT
    obtain ⟨k, rfl⟩ : ∃ k, j = k + 1 := ⟨j - 1, by omega⟩
    have hr := hok r (by simp)
    have h0 := (cnt_pos hr).1
    rw [catR, List.append_assoc] at hL
    rw [runF, if_neg (by omega), hL]
    simp only [whole1_cut hr]
    rw [if_neg (by omega)]
    have ih := runF_catR (L := L) (T := T) rs (n + 1) (m + cnt (spelt r)) k (by rw [show n + 1 + (rs.length : Int) = n + ((rs.length + 1 : Nat) : Int) by omega]; exact hT) (fun x hx => hok x (List.mem_cons_of_mem _ hx)) (by omega) (by omega) (by
      rw [← List.drop_drop, hL, ← cuts_len run n, List.drop_left])
    rw [ih]
    simp only [catR, List.length_append, cuts_len, Nat.add_assoc]
theorem rd_catR {run n : Int} {rs : List Record} {T : List (List UInt8)} (hT : (whole1 run (n + rs.length) T).2 = 0) (hok : ∀ r ∈ rs, okR r = true) (hn : n + rs.length ≤ 1073741824) : rd run n (catR run n rs ++ T) = (rs, (catR run n rs).length) := by
  have h1 := catR_len run rs n hok
  have := runF_catR (L := catR run n rs ++ T) (T := T) rs n 0 ((catR run n rs ++ T).length + 1) hT hok (by rw [List.length_append]; omega) hn rfl
  rw [rd, this]; simp
/-- No sector of a run stands there. -/
def clean (run : Int) (T : List (List UInt8)) : Prop := ∀ s ∈ T, s.take 4 ≠ be 4 run
theorem cuts_run {run n : Int} {s : List UInt8} : ∀ x ∈ cuts run n s, x.take 4 = be 4 run := by
  intro x hx
  simp only [cuts, cutK, List.mem_map] at hx
  obtain ⟨i, _, rfl⟩ := hx
  exact sec_run0
theorem none_clean {run n : Int} {T : List (List UInt8)} (h : ∀ s, T[0]? = some s → s.take 4 ≠ be 4 run) : (whole1 run n T).2 = 0 := by
  refine whole1_none fun s k h0 hk hl he => ?_
  have h1 := congrArg (·[0]?) he
  simp only [List.getElem?_take] at h1
  rw [if_pos (by omega), cuts_get h0] at h1
  exact h _ h1.symm sec_run0
theorem catR_run (run : Int) : ∀ (rs : List Record) (n : Int), ∀ s ∈ catR run n rs, s.take 4 = be 4 run
  | [], n, s, hs => by simp [catR] at hs
  | r :: rs, n, s, hs => by
    simp only [catR, List.mem_append] at hs
    rcases hs with hs | hs
    · exact cuts_run s hs
    · exact catR_run run rs (n + 1) s hs
theorem be4_inj {a b : Int} (h0 : 0 ≤ a) (h1 : a < 4294967296) (h2 : 0 ≤ b) (h3 : b < 4294967296) (h : be 4 a = be 4 b) : a = b := by
  rw [← num_be4 h0 h1, ← num_be4 h2 h3, h]
theorem zeros_run {run : Int} (h0 : 1 ≤ run) (h1 : run < 4294967296) : zeros.take 4 ≠ be 4 run := by
  intro h
  have := be4_inj (a := 0) (b := run) (by omega) (by omega) (by omega) h1 (by rw [← h]; decide)
  omega
end Go.Mir.Q

/- A log on a tape: laying, adding, where the power goes. -/
set_option linter.unusedVariables false
set_option linter.unusedSimpArgs false
namespace Go.Mir.Q
open Go.Mir
theorem drop_get (S : List (List UInt8)) (a i : Nat) : (S.drop a)[i]? = S[a + i]? := by rw [List.getElem?_drop]
theorem over_drop {S l : List (List UInt8)} {a b : Nat} (h : a + l.length ≤ S.length) (hb : a + l.length ≤ b) : (over S a l).drop b = S.drop b := by
  apply List.ext_getElem?
  intro i
  rw [drop_get, drop_get, over_get l S a _ h, if_neg (by omega)]
theorem over_drop_self {S l : List (List UInt8)} {a : Nat} (h : a + l.length ≤ S.length) : (over S a l).drop a = l ++ S.drop (a + l.length) := by
  rw [over_eq l S a h, List.append_assoc, List.drop_append, List.length_take, Nat.min_eq_left (by omega), List.drop_of_length_le (by rw [List.length_take]; omega)]
  simp
theorem over_below {S l : List (List UInt8)} {a b n : Nat} (h : a + l.length ≤ S.length) (hb : b + n ≤ a) : ((over S a l).drop b).take n = (S.drop b).take n := by
  apply List.ext_getElem?
  intro i
  rw [List.getElem?_take, List.getElem?_take]
  split
  · rw [drop_get, drop_get, over_get l S a _ h, if_neg (by omega)]
  · rfl
theorem over_zero {S l : List (List UInt8)} {a : Nat} (h : a + l.length ≤ S.length) (ha : 1 ≤ a) : (over S a l)[0]? = S[0]? := by
  rw [over_get l S a _ h, if_neg (by omega)]
theorem prefix_take {α : Type} {A L : List α} : (∃ R, L = A ++ R) ↔ L.take A.length = A := by
  constructor
  · rintro ⟨R, rfl⟩; rw [List.take_left]
  · intro h; exact ⟨L.drop A.length, by conv => lhs; rw [← List.take_append_drop A.length L, h]⟩
def all32 (S : List (List UInt8)) : Prop := ∀ s ∈ S, s.length = 32
theorem all32_get {S : List (List UInt8)} : all32 S ↔ ∀ (i : Nat) (s : List UInt8), S[i]? = some s → s.length = 32 :=
  ⟨fun h i s hs => h s (List.mem_of_getElem? hs), fun h s hs => by obtain ⟨i, hi, rfl⟩ := List.mem_iff_getElem.1 hs; exact h i _ (List.getElem?_eq_getElem hi)⟩
theorem over_32 {S l : List (List UInt8)} {a : Nat} (h : a + l.length ≤ S.length) (hS : all32 S) (hl : all32 l) : all32 (over S a l) := by
  rw [all32_get] at *
  intro i s hs
  rw [over_get l S a i h] at hs
  split at hs
  · exact hl _ s hs
  · exact hS _ s hs
theorem super_32 (run slot : Int) : (superS run slot).length = 32 := sec_len (by rw [spelt_super]; omega)

/-- What stands on a tape. -/
structure Laid (S : List (List UInt8)) (w : Wal) (m : Map) (recs : List Record) : Prop where
  len : S.length = 512
  a32 : all32 S
  run : 1 ≤ w.Run ∧ w.Run < 1073741824
  slot : w.Slot = 0 ∨ w.Slot = 1
  okm : okM m = true
  l64 : (image m).length ≤ 64
  zero : S[0]? = some (superS w.Run w.Slot)
  seg : (S.drop (startS w.Slot)).take (cnt (spelt ⟨1, image m⟩)) = cuts w.Run 0 (spelt ⟨1, image m⟩)
  okr : ∀ r ∈ recs, okR r = true
  log : ∃ T, S.drop 255 = catR w.Run 1 recs ++ T ∧ ∀ s ∈ T, s = zeros
  at_ : w.At = 255 + ((catR w.Run 1 recs).length : Nat)
  seq : w.Seq = 1 + (recs.length : Nat)

theorem clean_zeros {run : Int} {T : List (List UInt8)} (h0 : 1 ≤ run) (h1 : run < 1073741824) (h : ∀ s ∈ T, s = zeros) {n : Int} : (whole1 run n T).2 = 0 :=
  none_clean fun s hs => by rw [h s (List.mem_of_getElem? hs)]; exact zeros_run h0 (by omega)
theorem Laid.few {S : List (List UInt8)} {w : Wal} {m : Map} {recs : List Record} (h : Laid S w m recs) : (catR w.Run 1 recs).length ≤ 257 ∧ recs.length ≤ 257 := by
  obtain ⟨T, hT, _⟩ := h.log
  have h1 := congrArg List.length hT
  rw [List.length_drop, h.len, List.length_append] at h1
  have h2 := catR_len w.Run recs 1 h.okr
  omega
theorem Laid.open {S : List (List UInt8)} {w : Wal} {m : Map} {recs : List Record} (h : Laid S w m recs) : openT S m.length = some (m, recs, w) := by
  obtain ⟨T, hT, hz⟩ := h.log
  have hf := h.few
  have hs := open_std h.run.1 h.run.2 h.slot h.okm h.l64 h.zero (prefix_take.2 (by rw [cuts_len]; exact h.seg))
  have hr := rd_catR (run := w.Run) (n := 1) (rs := recs) (T := T) (clean_zeros h.run.1 h.run.2 hz) h.okr (by omega)
  rw [hs, hT, hr]
  obtain ⟨a, b, c, d⟩ := w
  have h1 := h.at_
  have h2 := h.seq
  simp only at h1 h2 ⊢
  rw [h1, h2]
def layS (S : List (List UInt8)) (run slot : Int) (m : Map) : List (List UInt8) := over (over S (startS slot) (cuts run 0 (spelt ⟨1, image m⟩))) 0 [superS run slot]
theorem startS_le {slot : Int} : 1 ≤ startS slot ∧ startS slot ≤ 128 := by unfold startS; split <;> omega
theorem puts_ok {S : List (List UInt8)} {l : List (List UInt8)} {a : Nat} (h : a + l.length ≤ S.length) (hl : all32 l) : ∀ p ∈ putsW a l, 0 ≤ p.At ∧ p.At < S.length ∧ p.Text.length = 32 := fun p hp => by
  have := putsW_mem hp
  exact ⟨by omega, by omega, hl _ this.2.2⟩
theorem play_over {S l : List (List UInt8)} {a : Nat} (h : a + l.length ≤ S.length) (hl : all32 l) (hk : l.length ≤ 2048) : playT ⟨S, []⟩ (putsD a l ++ [syncD]) = (0, ⟨over S a l, []⟩) := by
  have h1 := play_puts (putsW a l) S [] (puts_ok h hl) (by rw [putsW_len]; simpa using hk)
  have h2 : playT ⟨S, []⟩ (putsD a l) = (0, ⟨S, putsW a l⟩) := by simpa [putsD] using h1
  rw [playT_app (by rw [h2]), h2]
  exact play_sync _ _
theorem play_lay {S : List (List UInt8)} {run slot : Int} {m : Map} (hS : S.length = 512) (hm : okM m = true) (h64 : (image m).length ≤ 64) : playT ⟨S, []⟩ (layD run slot m) = (0, ⟨layS S run slot m, []⟩) := by
  have hc := okR_cnt (image_okR hm h64)
  have hst := startS_le (slot := slot)
  have e : layD run slot m = (putsD (startS slot) (cuts run 0 (spelt ⟨1, image m⟩)) ++ [syncD]) ++ (putsD 0 [superS run slot] ++ [syncD]) := by simp [layD]
  have h1 := play_over (S := S) (l := cuts run 0 (spelt ⟨1, image m⟩)) (a := startS slot) (by rw [cuts_len]; omega) cuts_32 (by rw [cuts_len]; omega)
  have h2 := play_over (S := over S (startS slot) (cuts run 0 (spelt ⟨1, image m⟩))) (l := [superS run slot]) (a := 0) (by rw [over_length]; simp; omega) (fun s hs => by rw [List.mem_singleton.1 hs]; exact super_32 _ _) (by simp)
  rw [e, playT_app (by rw [h1]), h1]
  exact h2
theorem Laid.lay {S : List (List UInt8)} {run slot : Int} {m : Map} (hS : S.length = 512) (h32 : all32 S) (h0 : 1 ≤ run) (h1 : run < 1073741824) (hs : slot = 0 ∨ slot = 1) (hm : okM m = true) (h64 : (image m).length ≤ 64) (hz : ∀ s ∈ S.drop 255, s = zeros) :
    Laid (layS S run slot m) ⟨run, slot, 255, 1⟩ m [] := by
  have hc := okR_cnt (image_okR hm h64)
  have hst := startS_le (slot := slot)
  have b1 : startS slot + (cuts run 0 (spelt ⟨1, image m⟩)).length ≤ S.length := by rw [cuts_len]; omega
  have b2 : 0 + [superS run slot].length ≤ (over S (startS slot) (cuts run 0 (spelt ⟨1, image m⟩))).length := by rw [over_length]; simp; omega
  have d1 : ∀ b, 1 ≤ b → (layS S run slot m).drop b = (over S (startS slot) (cuts run 0 (spelt ⟨1, image m⟩))).drop b := fun b hb => over_drop b2 (by simpa using hb)
  refine ⟨by simp [layS, over_length, hS], over_32 b2 (over_32 b1 h32 cuts_32) (fun s hs => by rw [List.mem_singleton.1 hs]; exact super_32 _ _), ⟨h0, h1⟩, hs, hm, h64, ?_, ?_, by simp, ⟨S.drop 255, ?_, hz⟩, by simp [catR], by simp⟩
  · rw [layS, over_get _ _ _ _ b2]; simp
  · rw [d1 _ hst.1, over_drop_self b1, List.take_append, cuts_len, Nat.sub_self, List.take_of_length_le (by rw [cuts_len]; exact Nat.le_refl _)]; simp
  · rw [d1 _ (by omega), over_drop b1 (by rw [cuts_len]; omega)]; simp [catR]
theorem take_cut {α : Type} {L A : List α} {n : Nat} : n ≤ A.length → (∀ i, i < n → L[i]? = A[i]?) → L.take n = A.take n := fun _ h => by
  apply List.ext_getElem?
  intro i
  rw [List.getElem?_take, List.getElem?_take]
  split
  · exact h i (by assumption)
  · rfl
theorem Laid.add {S : List (List UInt8)} {w : Wal} {m : Map} {recs : List Record} (h : Laid S w m recs) {r : Record} (hr : okR r = true) (hfit : w.At + (cnt (spelt r) : Nat) ≤ 512) :
    Laid (over S w.At.toNat (cuts w.Run w.Seq (spelt r))) ⟨w.Run, w.Slot, w.At + (cnt (spelt r) : Nat), w.Seq + 1⟩ m (recs ++ [r]) := by
  obtain ⟨T, hT, hz⟩ := h.log
  have hat := h.at_
  have hw : w.At.toNat = 255 + (catR w.Run 1 recs).length := by omega
  have hc := okR_cnt (image_okR h.okm h.l64)
  have hst := startS_le (slot := w.Slot)
  have b1 : w.At.toNat + (cuts w.Run w.Seq (spelt r)).length ≤ S.length := by rw [cuts_len, h.len]; omega
  refine ⟨by rw [over_length]; exact h.len, over_32 b1 h.a32 cuts_32, h.run, h.slot, h.okm, h.l64, ?_, ?_, ?_, ?_, ?_, ?_⟩
  · rw [over_zero b1 (by omega)]; exact h.zero
  · rw [over_below b1 (by rw [hw]; simp only; omega)]; exact h.seg
  · intro x hx
    rcases List.mem_append.1 hx with hx | hx
    · exact h.okr x hx
    · rw [List.mem_singleton.1 hx]; exact hr
  · have hTl := congrArg List.length hT
    rw [List.length_drop, h.len, List.length_append] at hTl
    refine ⟨T.drop (cnt (spelt r)), ?_, fun s hs => hz s (List.mem_of_mem_drop hs)⟩
    have e1 : (over S w.At.toNat (cuts w.Run w.Seq (spelt r))).drop 255 = (S.drop 255).take (catR w.Run 1 recs).length ++ (over S w.At.toNat (cuts w.Run w.Seq (spelt r))).drop w.At.toNat := by
      rw [hw]
      rw [← List.drop_drop]
      conv => lhs; rw [← List.take_append_drop (catR w.Run 1 recs).length ((over S (255 + (catR w.Run 1 recs).length) (cuts w.Run w.Seq (spelt r))).drop 255)]
      rw [over_below (by rw [← hw]; exact b1) (Nat.le_refl _)]
    rw [e1, over_drop_self b1, hT, List.take_left, catR_snoc, List.append_assoc]
    congr 1
    have : (1 : Int) + (recs.length : Nat) = w.Seq := h.seq.symm
    rw [this]
    congr 1
    rw [cuts_len, hw, show 255 + (catR w.Run 1 recs).length + cnt (spelt r) = 255 + ((catR w.Run 1 recs).length + cnt (spelt r)) by omega, ← List.drop_drop, hT, List.drop_append, List.drop_of_length_le (by omega)]
    simp
  · have : (1 : Int) + (recs.length : Nat) = w.Seq := h.seq.symm
    rw [catR_snoc, List.length_append, this, cuts_len]
    simp only; omega
  · have := h.seq
    simp only [List.length_append, List.length_singleton]; omega
theorem Laid.next {S : List (List UInt8)} {w : Wal} {m : Map} {recs : List Record} (h : Laid S w m recs) {run n : Int} (h0 : 1 ≤ run) (h1 : run < 1073741824) (hne : run ≠ w.Run) : (whole1 run n (S.drop 255)).2 = 0 := by
  obtain ⟨T, hT, hz⟩ := h.log
  refine none_clean fun s hs => ?_
  rw [hT] at hs
  have := List.mem_of_getElem? hs
  rcases List.mem_append.1 this with hm | hm
  · rw [catR_run _ _ _ s hm]
    intro e
    have hr := h.run
    exact hne (be4_inj (by omega) (by omega) (by omega) (by omega) e).symm
  · rw [hz s hm]; exact zeros_run h0 (by omega)
/-- A map that is laid over another one is opened, without records. -/
theorem Laid.save {S : List (List UInt8)} {w : Wal} {m m' : Map} {recs : List Record} (h : Laid S w m recs) (hr : w.Run + 1 < 1073741824) (hm : okM m' = true) (h64 : (image m').length ≤ 64) :
    openT (layS S (w.Run + 1) (1 - w.Slot) m') m'.length = some (m', [], ⟨w.Run + 1, 1 - w.Slot, 255, 1⟩) := by
  have hc := okR_cnt (image_okR hm h64)
  have hst := startS_le (slot := 1 - w.Slot)
  have hrun := h.run
  have hslot := h.slot
  have b1 : startS (1 - w.Slot) + (cuts (w.Run + 1) 0 (spelt ⟨1, image m'⟩)).length ≤ S.length := by rw [cuts_len, h.len]; omega
  have b2 : 0 + [superS (w.Run + 1) (1 - w.Slot)].length ≤ (over S (startS (1 - w.Slot)) (cuts (w.Run + 1) 0 (spelt ⟨1, image m'⟩))).length := by rw [over_length, h.len]; simp
  have d1 : ∀ b, 1 ≤ b → (layS S (w.Run + 1) (1 - w.Slot) m').drop b = (over S (startS (1 - w.Slot)) (cuts (w.Run + 1) 0 (spelt ⟨1, image m'⟩))).drop b := fun b hb => over_drop b2 (by simpa using hb)
  have d2 : (layS S (w.Run + 1) (1 - w.Slot) m').drop 255 = S.drop 255 := by rw [d1 _ (by omega), over_drop b1 (by rw [cuts_len]; omega)]
  have hs := open_std (S := layS S (w.Run + 1) (1 - w.Slot) m') (run := w.Run + 1) (slot := 1 - w.Slot) (m := m') (by omega) hr (by omega) hm h64 (by rw [layS, over_get _ _ _ _ b2]; simp) ⟨_, by rw [d1 _ hst.1, over_drop_self b1]⟩
  rw [hs, d2, rd_none (h.next (by omega) hr (by omega))]
  simp
end Go.Mir.Q

/- A log on a tape: where the power goes. -/
set_option linter.unusedVariables false
set_option linter.unusedSimpArgs false
namespace Go.Mir.Q
open Go.Mir
theorem over_app (S A B : List (List UInt8)) (a : Nat) : over S a (A ++ B) = over (over S a A) (a + A.length) B := by
  simp only [over, flush, putsW_app, List.foldl_append]
theorem over_self {S : List (List UInt8)} {a : Nat} {x : List UInt8} (h : S[a]? = some x) : over S a [x] = S := by
  have ha : a < S.length := (List.getElem?_eq_some_iff.1 h).1
  apply List.ext_getElem?
  intro i
  rw [over_get _ _ _ _ (by simp; omega)]
  split
  · rename_i hi
    simp only [List.length_singleton] at hi
    have : i = a := by omega
    subst this
    rw [h]; simp
  · rfl
theorem Laid.other {S : List (List UInt8)} {w : Wal} {m : Map} {recs : List Record} (h : Laid S w m recs) {l : List (List UInt8)} (hl : l.length ≤ 116) (h32 : all32 l) : Laid (over S (startS (1 - w.Slot)) l) w m recs := by
  have hc := okR_cnt (image_okR h.okm h.l64)
  have hst := startS_le (slot := 1 - w.Slot)
  have b1 : startS (1 - w.Slot) + l.length ≤ S.length := by rw [h.len]; omega
  refine ⟨by rw [over_length]; exact h.len, over_32 b1 h.a32 h32, h.run, h.slot, h.okm, h.l64, ?_, ?_, h.okr, ?_, h.at_, h.seq⟩
  · rw [over_zero b1 hst.1]; exact h.zero
  · rcases h.slot with hs | hs
    · have e1 : startS w.Slot = 1 := by simp [startS, hs]
      have e2 : startS (1 - w.Slot) = 128 := by simp [startS, hs]
      rw [over_below b1 (by omega)]; exact h.seg
    · have e1 : startS w.Slot = 128 := by simp [startS, hs]
      have e2 : startS (1 - w.Slot) = 1 := by simp [startS, hs]
      rw [over_drop b1 (by omega)]; exact h.seg
  · rw [over_drop b1 (by omega)]; exact h.log
theorem crash_32 {S l l' : List (List UInt8)} {a : Nat} (hS : all32 S) (hl : all32 l) (h : ∀ j : Nat, l'[j]? = l[j]? ∨ (j < l.length ∧ l'[j]? = S[a + j]?)) : all32 l' := by
  rw [all32_get] at *
  intro j s hs
  rcases h j with h | ⟨_, h⟩
  · exact hl j s (by rw [← h]; exact hs)
  · exact hS _ s (by rw [← h]; exact hs)
theorem take_32 {l : List (List UInt8)} {n : Nat} (h : all32 l) : all32 (l.take n) := fun s hs => h s (List.mem_of_mem_take hs)
theorem play_some {S l : List (List UInt8)} {a : Nat} (h : a + l.length ≤ S.length) (hl : all32 l) (hk : l.length ≤ 2048) : playT ⟨S, []⟩ (putsD a l) = (0, ⟨S, putsW a l⟩) := by
  have h1 := play_puts (putsW a l) S [] (puts_ok h hl) (by rw [putsW_len]; simpa using hk)
  simpa [putsD] using h1
theorem putsD_take (a : Nat) (l : List (List UInt8)) (n : Nat) : (putsD a l).take n = putsD a (l.take n) := by
  simp only [putsD, ← List.map_take, putsW_take]

/-- **Where the power goes in a Save: the old one, or the new one.** -/
theorem Laid.powerSave {S : List (List UInt8)} {w : Wal} {m m' : Map} {recs : List Record} (h : Laid S w m recs) (hr : w.Run + 1 < 1073741824) (hm : okM m' = true) (h64 : (image m').length ≤ 64) (K : List Int) {n : Nat} (hn : n ≤ (layD (w.Run + 1) (1 - w.Slot) m').length) :
    ∃ S' W', playT ⟨S, []⟩ ((layD (w.Run + 1) (1 - w.Slot) m').take n) = (0, ⟨S', W'⟩) ∧ (crashS K S' W').length = 512 ∧ all32 (crashS K S' W') ∧
      (Laid (crashS K S' W') w m recs ∧ n ≠ (layD (w.Run + 1) (1 - w.Slot) m').length ∨ openT (crashS K S' W') m'.length = some (m', [], ⟨w.Run + 1, 1 - w.Slot, 255, 1⟩)) := by
  have hc := okR_cnt (image_okR hm h64)
  have hst := startS_le (slot := 1 - w.Slot)
  obtain ⟨C, hC⟩ : ∃ C, C = cuts (w.Run + 1) 0 (spelt ⟨1, image m'⟩) := ⟨_, rfl⟩
  have hCl : C.length ≤ 116 := by rw [hC, cuts_len]; exact hc
  have hC32 : all32 C := by rw [hC]; exact cuts_32
  have b1 : startS (1 - w.Slot) + C.length ≤ S.length := by rw [h.len]; omega
  have e : layD (w.Run + 1) (1 - w.Slot) m' = putsD (startS (1 - w.Slot)) C ++ syncD :: (putsD 0 [superS (w.Run + 1) (1 - w.Slot)] ++ [syncD]) := by rw [hC]; rfl
  have el : (layD (w.Run + 1) (1 - w.Slot) m').length = C.length + 3 := by rw [e]; simp [putsD_len]
  rw [el] at hn ⊢
  have hsup : all32 [superS (w.Run + 1) (1 - w.Slot)] := fun s hs => by rw [List.mem_singleton.1 hs]; exact super_32 _ _
  have b2 : 0 + [superS (w.Run + 1) (1 - w.Slot)].length ≤ (over S (startS (1 - w.Slot)) C).length := by rw [over_length, h.len]; simp
  have hlay : layS S (w.Run + 1) (1 - w.Slot) m' = over (over S (startS (1 - w.Slot)) C) 0 [superS (w.Run + 1) (1 - w.Slot)] := by rw [hC]; rfl
  have h1 := play_over b1 hC32 (by omega)
  have hnew := h.save hr hm h64
  have hL1 := h.other hCl hC32
  by_cases n1 : n ≤ C.length
  · have ht : (layD (w.Run + 1) (1 - w.Slot) m').take n = putsD (startS (1 - w.Slot)) (C.take n) := by
      rw [e, List.take_append_of_le_length (by rw [putsD_len]; exact n1), putsD_take]
    have hl : (C.take n).length = n := by rw [List.length_take]; omega
    obtain ⟨l', g1, g2, g3⟩ := crash_over K (C.take n) S (startS (1 - w.Slot)) 0 (by rw [hl]; omega)
    refine ⟨S, putsW (startS (1 - w.Slot)) (C.take n), by rw [ht]; exact play_some (by rw [hl]; omega) (take_32 hC32) (by rw [hl]; omega), ?_⟩
    have hx := h.other (l := l') (by rw [g2, hl]; omega) (crash_32 h.a32 (take_32 hC32) g3)
    have hcs : crashS K S (putsW (startS (1 - w.Slot)) (C.take n)) = over S (startS (1 - w.Slot)) l' := g1
    rw [hcs]
    exact ⟨hx.len, hx.a32, .inl ⟨hx, by omega⟩⟩
  have hpre : playT ⟨S, []⟩ (putsD (startS (1 - w.Slot)) C ++ [syncD]) = (0, ⟨over S (startS (1 - w.Slot)) C, []⟩) := h1
  by_cases n2 : n = C.length + 1
  · have ht : (layD (w.Run + 1) (1 - w.Slot) m').take n = putsD (startS (1 - w.Slot)) C ++ [syncD] := by
      rw [e, n2, List.take_append, List.take_of_length_le (by rw [putsD_len]; omega), putsD_len, show C.length + 1 - C.length = 1 by omega]; rfl
    refine ⟨over S (startS (1 - w.Slot)) C, [], by rw [ht]; exact hpre, ?_⟩
    rw [show crashS K (over S (startS (1 - w.Slot)) C) [] = over S (startS (1 - w.Slot)) C from rfl]
    exact ⟨hL1.len, hL1.a32, .inl ⟨hL1, by omega⟩⟩
  by_cases n3 : n = C.length + 2
  · have ht : (layD (w.Run + 1) (1 - w.Slot) m').take n = (putsD (startS (1 - w.Slot)) C ++ [syncD]) ++ putsD 0 [superS (w.Run + 1) (1 - w.Slot)] := by
      rw [e, n3, List.take_append, List.take_of_length_le (by rw [putsD_len]; omega), putsD_len, show C.length + 2 - C.length = 2 by omega]; simp [putsD, putsW]
    have hp2 := play_some (S := over S (startS (1 - w.Slot)) C) b2 hsup (by simp)
    obtain ⟨l', g1, g2, g3⟩ := crash_over K [superS (w.Run + 1) (1 - w.Slot)] (over S (startS (1 - w.Slot)) C) 0 0 b2
    refine ⟨over S (startS (1 - w.Slot)) C, putsW 0 [superS (w.Run + 1) (1 - w.Slot)], by rw [ht, playT_app (by rw [hpre]), hpre]; exact hp2, ?_⟩
    have hcs : crashS K (over S (startS (1 - w.Slot)) C) (putsW 0 [superS (w.Run + 1) (1 - w.Slot)]) = over (over S (startS (1 - w.Slot)) C) 0 l' := g1
    rw [hcs]
    obtain ⟨x, rfl⟩ : ∃ x, l' = [x] := List.length_eq_one_iff.1 g2
    rcases g3 0 with g | ⟨_, g⟩
    · simp only [List.getElem?_cons_zero, Option.some.injEq] at g
      subst g
      rw [← hlay]
      exact ⟨by rw [layS, over_length, over_length]; exact h.len, by rw [hlay]; exact over_32 b2 hL1.a32 hsup, .inr hnew⟩
    · rw [over_self g.symm]
      exact ⟨hL1.len, hL1.a32, .inl ⟨hL1, by omega⟩⟩
  · have n4 : n = C.length + 3 := by omega
    have ht : (layD (w.Run + 1) (1 - w.Slot) m').take n = layD (w.Run + 1) (1 - w.Slot) m' := List.take_of_length_le (by rw [el]; omega)
    refine ⟨layS S (w.Run + 1) (1 - w.Slot) m', [], by rw [ht]; exact play_lay h.len hm h64, ?_⟩
    rw [show crashS K (layS S (w.Run + 1) (1 - w.Slot) m') [] = layS S (w.Run + 1) (1 - w.Slot) m' from rfl]
    exact ⟨by rw [layS, over_length, over_length]; exact h.len, by rw [hlay]; exact over_32 b2 hL1.a32 hsup, .inr hnew⟩

/-! ### adding -/
theorem Laid.adds {m : Map} : ∀ {rs : List Record} {S : List (List UInt8)} {w : Wal} {recs : List Record}, Laid S w m recs → (∀ r ∈ rs, okR r = true) → w.At + ((catR w.Run w.Seq rs).length : Nat) ≤ 512 →
    Laid (over S w.At.toNat (catR w.Run w.Seq rs)) ⟨w.Run, w.Slot, w.At + ((catR w.Run w.Seq rs).length : Nat), w.Seq + (rs.length : Nat)⟩ m (recs ++ rs)
  | [], S, w, recs, h, _, _ => by
    have : over S w.At.toNat (catR w.Run w.Seq []) = S := rfl
    rw [this]
    simpa [catR] using h
  | r :: rs, S, w, recs, h, hok, hfit => by
    simp only [catR, List.length_append, cuts_len] at hfit
    have h1 := h.add (hok r (by simp)) (by omega)
    have hat := h.at_
    have h2 := Laid.adds (rs := rs) h1 (fun x hx => hok x (List.mem_cons_of_mem _ hx)) (by simp only; omega)
    simp only at h2
    have e1 : (w.At + (cnt (spelt r) : Nat)).toNat = w.At.toNat + (cuts w.Run w.Seq (spelt r)).length := by rw [cuts_len]; omega
    rw [e1, ← over_app, List.append_assoc] at h2
    simp only [catR, List.length_append, cuts_len, List.length_cons]
    have e2 : w.At + (cnt (spelt r) : Nat) + ((catR w.Run (w.Seq + 1) rs).length : Nat) = w.At + ((cnt (spelt r) + (catR w.Run (w.Seq + 1) rs).length : Nat) : Int) := by omega
    have e3 : w.Seq + 1 + (rs.length : Nat) = w.Seq + ((rs.length + 1 : Nat) : Int) := by omega
    rw [e2, e3] at h2
    exact h2
theorem runF_pre {run : Int} {L T : List (List UInt8)} : ∀ (rs : List Record) (n : Int) (m j : Nat), (∀ r ∈ rs, okR r = true) → rs.length ≤ j → n + rs.length ≤ 1073741824 → L.drop m = catR run n rs ++ T →
    (runF run L j n m).1 = rs ++ (runF run L (j - rs.length) (n + rs.length) (m + (catR run n rs).length)).1
  | [], n, m, j, _, hj, hn, hL => by simp [catR]
  | r :: rs, n, m, j, hok, hj, hn, hL => by
    simp only [List.length_cons] at hj hn
    obtain ⟨k, rfl⟩ : ∃ k, j = k + 1 := ⟨j - 1, by omega⟩
    have hr := hok r (by simp)
    have h0 := (cnt_pos hr).1
    rw [catR, List.append_assoc] at hL
    have hd : L.drop (m + cnt (spelt r)) = catR run (n + 1) rs ++ T := by rw [← List.drop_drop, hL, ← cuts_len run n, List.drop_left]
    have ih := runF_pre (L := L) (T := T) rs (n + 1) (m + cnt (spelt r)) k (fun x hx => hok x (List.mem_cons_of_mem _ hx)) (by omega) (by omega) hd
    conv => lhs; rw [runF, if_neg (by omega), hL]
    simp only [whole1_cut hr]
    rw [if_neg (by omega)]
    simp only [ih, catR, List.length_append, cuts_len, List.length_cons, List.cons_append]
    rw [show k + 1 - (rs.length + 1) = k - rs.length by omega, show n + 1 + (rs.length : Int) = n + ((rs.length + 1 : Nat) : Int) by omega, show m + cnt (spelt r) + (catR run (n + 1) rs).length = m + (cnt (spelt r) + (catR run (n + 1) rs).length) by omega]
theorem runF_mix {run : Int} {L Z : List (List UInt8)} (hr0 : 1 ≤ run) (hr1 : run < 1073741824) (hz : ∀ s ∈ Z, s = zeros) : ∀ (rs : List Record) (n : Int) (m j : Nat), (∀ r ∈ rs, okR r = true) → rs.length < j → n + rs.length ≤ 1073741824 →
    (∀ i : Nat, (L.drop m)[i]? = (catR run n rs ++ Z)[i]? ∨ (L.drop m)[i]? = some zeros) → ∃ k, k ≤ rs.length ∧ (runF run L j n m).1 = rs.take k
  | [], n, m, j, _, hj, hn, hL => by
    obtain ⟨k, rfl⟩ : ∃ k, j = k + 1 := ⟨j - 1, by simp at hj; omega⟩
    refine ⟨0, Nat.le_refl _, ?_⟩
    simp only [List.length_nil] at hn
    have hnone : (whole1 run n (L.drop m)).2 = 0 := none_clean fun s hs => by
      rcases hL 0 with h | h
      · rw [hs] at h
        have := List.mem_of_getElem? h.symm
        simp only [catR, List.nil_append] at this
        rw [hz s this]; exact zeros_run hr0 (by omega)
      · rw [hs] at h
        cases h
        exact zeros_run hr0 (by omega)
    rw [runF, if_neg (by omega)]
    simp only [hnone, if_true, List.take_zero]
  | r :: rs, n, m, j, hok, hj, hn, hL => by
    simp only [List.length_cons] at hj hn
    obtain ⟨k, rfl⟩ : ∃ k, j = k + 1 := ⟨j - 1, by omega⟩
    have hr := hok r (by simp)
    have h0 := (cnt_pos hr).1
    by_cases hi : ∀ i, i < cnt (spelt r) → (L.drop m)[i]? = (cuts run n (spelt r))[i]?
    · have hd : L.drop m = cuts run n (spelt r) ++ L.drop (m + cnt (spelt r)) := by
        conv => lhs; rw [← List.take_append_drop (cnt (spelt r)) (L.drop m)]
        rw [take_cut (A := cuts run n (spelt r)) (by rw [cuts_len]; exact Nat.le_refl _) hi, List.take_of_length_le (by rw [cuts_len]; exact Nat.le_refl _), List.drop_drop]
      obtain ⟨q, hq, hq2⟩ := runF_mix (L := L) (Z := Z) hr0 hr1 hz rs (n + 1) (m + cnt (spelt r)) k (fun x hx => hok x (List.mem_cons_of_mem _ hx)) (by omega) (by omega) (fun i => by
        have := hL (cnt (spelt r) + i)
        rw [drop_get, ← Nat.add_assoc] at this
        rw [drop_get]
        rcases this with h | h
        · left
          rw [h, catR, List.append_assoc, List.getElem?_append_right (by rw [cuts_len]; omega), cuts_len, Nat.add_sub_cancel_left]
        · exact .inr h)
      refine ⟨q + 1, by simpa using hq, ?_⟩
      rw [runF, if_neg (by omega), hd]
      simp only [whole1_cut hr]
      rw [if_neg (by omega)]
      simp only [hq2, List.take_succ_cons]
    · have hbad : ∃ i0, i0 < cnt (spelt r) ∧ (L.drop m)[i0]? = some zeros := by
        refine Classical.byContradiction fun hno => hi fun i hlt => ?_
        rcases hL i with h | h
        · rw [h, catR, List.append_assoc, List.getElem?_append_left (by rw [cuts_len]; exact hlt)]
        · exact (hno ⟨i, hlt, h⟩).elim
      obtain ⟨i0, hi0, hz0⟩ := hbad
      have hnone : (whole1 run n (L.drop m)).2 = 0 := whole1_none fun s c hc hcs hcl he => by
        have hget : ∀ i, i < c → (L.drop m)[i]? = some (sec run n i (decide (i + 1 = cnt s)) (piece s i)) := fun i hlt => by
          have := congrArg (·[i]?) he
          simp only [List.getElem?_take] at this
          rw [if_pos hlt, cuts_get (by omega)] at this
          exact this.symm
        have hnz : ∀ i, i < c → (L.drop m)[i]? ≠ some zeros := fun i hlt h => by
          rw [hget i hlt] at h
          have := sec_run0 (run := run) (n := n) (i := i) (b := decide (i + 1 = cnt s)) (p := piece s i)
          rw [Option.some.inj h] at this
          exact zeros_run hr0 (by omega) this
        have hci : c ≤ i0 := by
          refine Nat.le_of_not_lt fun hlt => hnz i0 hlt hz0
        have h1 := hget (c - 1) (by omega)
        rcases hL (c - 1) with h | h
        · rw [h1, catR, List.append_assoc, List.getElem?_append_left (by rw [cuts_len]; omega), cuts_get (by omega)] at h
          have h2 := congrArg (·[10]?) (Option.some.inj h)
          simp only [sec10] at h2
          rw [decide_eq_true (show c - 1 + 1 = cnt s by omega), decide_eq_false (show ¬ (c - 1 + 1 = cnt (spelt r)) by omega)] at h2
          simp at h2
        · exact hnz _ (by omega) h
      refine ⟨0, Nat.zero_le _, ?_⟩
      rw [runF, if_neg (by omega)]
      simp only [hnone, if_true, List.take_zero]
/-- **Where the power goes in adding: those ahead, and as many of the new ones as are whole.** -/
theorem Laid.powerAdd {S : List (List UInt8)} {w : Wal} {m : Map} {recs rs : List Record} (h : Laid S w m recs) (hok : ∀ r ∈ rs, okR r = true) (hfit : w.At + ((catR w.Run w.Seq rs).length : Nat) ≤ 512) (K : List Int) {n : Nat} (hn : n ≤ (catR w.Run w.Seq rs).length + 1) :
    ∃ S' W', playT ⟨S, []⟩ ((putsD w.At.toNat (catR w.Run w.Seq rs) ++ [syncD]).take n) = (0, ⟨S', W'⟩) ∧ (crashS K S' W').length = 512 ∧ all32 (crashS K S' W') ∧
      ∃ k w', k ≤ rs.length ∧ openT (crashS K S' W') m.length = some (m, recs ++ rs.take k, w') ∧ (n = (catR w.Run w.Seq rs).length + 1 → k = rs.length) := by
  obtain ⟨T, hT, hz⟩ := h.log
  have hat := h.at_
  have hseq := h.seq
  have hfew := h.few
  have hw : w.At.toNat = 255 + (catR w.Run 1 recs).length := by omega
  have hst := startS_le (slot := w.Slot)
  have hc := okR_cnt (image_okR h.okm h.l64)
  obtain ⟨l, hl⟩ : ∃ l, l = catR w.Run w.Seq rs := ⟨_, rfl⟩
  have hl32 : all32 l := by rw [hl]; exact catR_32 _ _ _
  have hcl := catR_len w.Run rs w.Seq hok
  have hcl2 := catR_len w.Run recs 1 h.okr
  rw [← hl] at hfit hn hcl ⊢
  have b1 : w.At.toNat + l.length ≤ S.length := by rw [h.len]; omega
  by_cases n1 : n ≤ l.length
  · have ht : (putsD w.At.toNat l ++ [syncD]).take n = putsD w.At.toNat (l.take n) := by
      rw [List.take_append_of_le_length (by rw [putsD_len]; exact n1), putsD_take]
    have hln : (l.take n).length = n := by rw [List.length_take]; omega
    obtain ⟨l', g1, g2, g3⟩ := crash_over K (l.take n) S w.At.toNat 0 (by rw [hln]; omega)
    rw [hln] at g2
    have hcs : crashS K S (putsW w.At.toNat (l.take n)) = over S w.At.toNat l' := g1
    have b2 : w.At.toNat + l'.length ≤ S.length := by rw [g2]; omega
    refine ⟨S, putsW w.At.toNat (l.take n), by rw [ht]; exact play_some (by rw [hln]; omega) (take_32 hl32) (by rw [hln]; omega), by rw [hcs, over_length]; exact h.len, by rw [hcs]; exact over_32 b2 h.a32 (crash_32 h.a32 (take_32 hl32) g3), ?_⟩
    rw [hcs]
    have hS0 : (over S w.At.toNat l')[0]? = some (superS w.Run w.Slot) := by rw [over_zero b2 (by omega)]; exact h.zero
    have hseg : ((over S w.At.toNat l').drop (startS w.Slot)).take (cnt (spelt ⟨1, image m⟩)) = cuts w.Run 0 (spelt ⟨1, image m⟩) := by rw [over_below b2 (by omega)]; exact h.seg
    have hs := open_std h.run.1 h.run.2 h.slot h.okm h.l64 hS0 (prefix_take.2 (by rw [cuts_len]; exact hseg))
    obtain ⟨L, hL⟩ : ∃ L, L = (over S w.At.toNat l').drop 255 := ⟨_, rfl⟩
    have hLl : L.length = 257 := by rw [hL, List.length_drop, over_length, h.len]
    have hLpre : L = catR w.Run 1 recs ++ L.drop (catR w.Run 1 recs).length := by
      conv => lhs; rw [← List.take_append_drop (catR w.Run 1 recs).length L]
      congr 1
      rw [hL, over_below b2 (by rw [hw]; exact Nat.le_refl _), hT, List.take_left]
    have hLm : ∀ i : Nat, (L.drop (catR w.Run 1 recs).length)[i]? = (catR w.Run w.Seq rs ++ T.drop l.length)[i]? ∨ (L.drop (catR w.Run 1 recs).length)[i]? = some zeros := fun i => by
      have e1 : (L.drop (catR w.Run 1 recs).length)[i]? = (over S w.At.toNat l')[w.At.toNat + i]? := by rw [hL, List.drop_drop, drop_get, hw]
      have eT : ∀ i : Nat, S[w.At.toNat + i]? = T[i]? := fun i => by
        have : S[w.At.toNat + i]? = (S.drop 255)[(catR w.Run 1 recs).length + i]? := by rw [drop_get, hw, Nat.add_assoc]
        rw [this, hT, List.getElem?_append_right (by omega), Nat.add_sub_cancel_left]
      have hTl := congrArg List.length hT
      rw [List.length_drop, h.len, List.length_append] at hTl
      have hz' : ∀ i : Nat, i < l.length → T[i]? = some zeros := fun i hi => by
        rw [List.getElem?_eq_getElem (by omega)]
        exact congrArg some (hz _ (List.getElem_mem _))
      rw [← hl, e1, over_get _ _ _ _ b2, g2]
      by_cases hi : i < n
      · rw [if_pos (by omega), Nat.add_sub_cancel_left]
        rcases g3 i with g | ⟨_, g⟩
        · left
          rw [g, List.getElem?_take, if_pos hi, List.getElem?_append_left (by omega)]
        · right
          rw [g, eT]; exact hz' i (by omega)
      · rw [if_neg (by omega), eT]
        by_cases hi2 : i < l.length
        · exact .inr (hz' i hi2)
        · left
          rw [List.getElem?_append_right (by omega), drop_get, show l.length + (i - l.length) = i by omega]
    have hpre := runF_pre (run := w.Run) (L := L) (T := L.drop (catR w.Run 1 recs).length) recs 1 0 (L.length + 1) h.okr (by omega) (by omega) (by rw [List.drop_zero]; exact hLpre)
    obtain ⟨k, hk, hk2⟩ := runF_mix (L := L) (Z := T.drop l.length) h.run.1 h.run.2 (fun s hs => hz s (List.mem_of_mem_drop hs)) rs w.Seq (catR w.Run 1 recs).length (L.length + 1 - recs.length) hok (by rw [hLl]; have := h.len; omega) (by omega) hLm
    rw [Nat.zero_add, ← hseq, hk2] at hpre
    refine ⟨k, ⟨w.Run, w.Slot, 255 + ((rd w.Run 1 L).2 : Nat), 1 + ((recs ++ rs.take k).length : Nat)⟩, hk, ?_, fun hh => by omega⟩
    rw [hs, ← hL]
    have e : (rd w.Run 1 L).1 = recs ++ rs.take k := hpre
    rw [e]
  · have n2 : n = l.length + 1 := by omega
    have ht : (putsD w.At.toNat l ++ [syncD]).take n = putsD w.At.toNat l ++ [syncD] := List.take_of_length_le (by simp [putsD_len, n2])
    have hx := h.adds hok (by rw [← hl]; exact hfit)
    rw [← hl] at hx
    refine ⟨over S w.At.toNat l, [], by rw [ht]; exact play_over b1 hl32 (by rw [h.len] at b1; omega), ?_⟩
    rw [show crashS K (over S w.At.toNat l) [] = over S w.At.toNat l from rfl]
    exact ⟨hx.len, hx.a32, rs.length, _, Nat.le_refl _, by rw [List.take_length]; exact hx.open, fun _ => rfl⟩
end Go.Mir.Q

/- A log on a tape: what the program asks of it is what the page asks. -/
set_option linter.unusedVariables false
set_option linter.unusedSimpArgs false
namespace Go.Mir.Q
open Go.Mir
theorem okR_super {slot : Int} (h : slot = 0 ∨ slot = 1) : okR ⟨slot + 1, []⟩ = true := by rcases h with rfl | rfl <;> decide
theorem turn_eq {s : List UInt8} (h0 : 1 ≤ runOf s) (h1 : runOf s < 1073741824) :
    turnT s = if (whole1 0 (runOf s) [s]).2 = 1 ∧ (whole1 0 (runOf s) [s]).1.Writes = [] ∧ ((whole1 0 (runOf s) [s]).1.Commit - 1 = 0 ∨ (whole1 0 (runOf s) [s]).1.Commit - 1 = 1) then some (runOf s, (whole1 0 (runOf s) [s]).1.Commit - 1) else none := by
  have key : ∀ slot : Int, (slot = 0 ∨ slot = 1) → s = superS (runOf s) slot → whole1 0 (runOf s) [s] = (⟨slot + 1, []⟩, 1) := fun slot hs he => by
    have h := whole1_cut (run := 0) (n := runOf s) (r := ⟨slot + 1, []⟩) (S := []) (okR_super hs)
    rw [cuts_super, List.append_nil, ← he] at h
    rw [h]
    congr 1
    simp [cnt, spelt_super]
  by_cases hs1 : s = superS (runOf s) 1
  · have h := key 1 (.inr rfl) hs1
    rw [h]
    simp only [turnT]
    rw [if_pos ⟨h0, h1⟩, if_pos hs1]
    simp
  by_cases hs0 : s = superS (runOf s) 0
  · have h := key 0 (.inl rfl) hs0
    rw [h]
    simp only [turnT]
    rw [if_pos ⟨h0, h1⟩, if_neg hs1, if_pos hs0]
    simp
  · rw [if_neg]
    · simp only [turnT]
      rw [if_pos ⟨h0, h1⟩, if_neg hs1, if_neg hs0]
    · rintro ⟨g1, g2, g3⟩
      obtain ⟨⟨⟨c, ws⟩, k⟩, hw⟩ : ∃ x, whole1 0 (runOf s) [s] = x := ⟨_, rfl⟩
      rw [hw] at g1 g2 g3
      simp only at g1 g2 g3
      subst g1 g2
      obtain ⟨hc, _⟩ := whole_sound hw (by omega)
      rcases g3 with g | g
      · obtain rfl : c = 0 + 1 := by omega
        rw [cuts_super] at hc
        simp only [List.take_succ_cons, List.take_zero, List.cons.injEq, and_true] at hc
        exact hs0 hc.symm
      · obtain rfl : c = 1 + 1 := by omega
        rw [cuts_super] at hc
        simp only [List.take_succ_cons, List.take_zero, List.cons.injEq, and_true] at hc
        exact hs1 hc.symm

/-! ### rows -/
def goodP (tables : Nat) : Int → List Write → Bool
  | _, [] => true
  | last, w :: ws => decide (w.Table < tables ∧ last ≤ w.Table ∧ w.Gone = false) && goodP tables w.Table ws
theorem goodP_snoc {tables : Nat} {w : Write} : ∀ {ws : List Write} {last : Int}, goodP tables last (ws ++ [w]) = (goodP tables last ws && decide (w.Table < tables ∧ ((ws.getLast?.map (·.Table)).getD last) ≤ w.Table ∧ w.Gone = false))
  | [], last => by
    cases h : w.Gone <;> by_cases h1 : w.Table < (tables : Int) <;> by_cases h2 : last ≤ w.Table <;> simp [goodP, *]
  | x :: ws, last => by
    simp only [List.cons_append, goodP, goodP_snoc, Bool.and_assoc]
    cases ws with
    | nil => rfl
    | cons y ws =>
      rw [List.getLast?_cons_cons]
      obtain ⟨z, hz⟩ : ∃ z, (y :: ws).getLast? = some z := ⟨_, List.getLast?_eq_some_getLast (by simp)⟩
      rw [hz]; rfl
theorem goodP_iff {tables : Nat} : ∀ {ws : List Write} {last : Int}, goodP tables last ws = true ↔ (∀ w ∈ ws, w.Table < tables ∧ w.Gone = false ∧ last ≤ w.Table) ∧ ws.Pairwise (fun a b => a.Table ≤ b.Table)
  | [], last => by simp [goodP]
  | w :: ws, last => by
    simp only [goodP, Bool.and_eq_true, decide_eq_true_eq, goodP_iff, List.pairwise_cons, List.mem_cons]
    constructor
    · rintro ⟨⟨h1, h2, h3⟩, h4, h5⟩
      exact ⟨fun x hx => by rcases hx with rfl | hx; exact ⟨h1, h3, h2⟩; have := h4 x hx; exact ⟨this.1, this.2.1, by omega⟩, fun x hx => (h4 x hx).2.2, h5⟩
    · rintro ⟨h1, h2, h3⟩
      have hw := h1 w (.inl rfl)
      exact ⟨⟨hw.1, hw.2.2, hw.2.1⟩, fun x hx => ⟨(h1 x (.inr hx)).1, (h1 x (.inr hx)).2.1, h2 x hx⟩, h3⟩
theorem split_first {t : Int} : ∀ {ws : List Write}, ws.Pairwise (fun a b => a.Table ≤ b.Table) → (∀ w ∈ ws, t ≤ w.Table) → ws = ws.filter (fun w => decide (w.Table = t)) ++ ws.filter (fun w => decide (w.Table ≠ t))
  | [], _, _ => rfl
  | w :: ws, hp, ht => by
    rw [List.pairwise_cons] at hp
    have ih := split_first (t := t) hp.2 (fun x hx => ht x (by simp [hx]))
    by_cases h : w.Table = t
    · rw [List.filter_cons_of_pos (by simp [h]), List.filter_cons_of_neg (by simp [h]), List.cons_append, ← ih]
    · have hw := ht w (by simp)
      have h1 : (w :: ws).filter (fun w => decide (w.Table = t)) = [] := by
        rw [List.filter_eq_nil_iff]
        intro x hx hh
        have hh := of_decide_eq_true hh
        rcases List.mem_cons.1 hx with rfl | hx
        · exact h hh
        · have := hp.1 x hx; omega
      have h2 : (w :: ws).filter (fun w => decide (w.Table ≠ t)) = w :: ws := by
        rw [List.filter_eq_self]
        intro x hx
        have : x.Table ≠ t := by
          rcases List.mem_cons.1 hx with rfl | hx
          · exact h
          · have := hp.1 x hx; omega
        exact decide_eq_true this
      rw [h1, h2]; rfl
def groupF (t k : Nat) (ws : List Write) : Map := (List.range k).map fun i : Nat => (ws.filter fun w => decide (w.Table = ((t + i : Nat) : Int))).map fun w => ⟨w.Key, w.Value⟩
theorem groupF_eq (k : Nat) (ws : List Write) : groupF 0 k ws = groupT k ws := by simp [groupF, groupT]
theorem image_group : ∀ (k t : Nat) (ws : List Write), ws.Pairwise (fun a b => a.Table ≤ b.Table) → (∀ w ∈ ws, (t : Int) ≤ w.Table ∧ w.Table < ((t + k : Nat) : Int) ∧ w.Gone = false) → imageF t (groupF t k ws) = ws
  | 0, t, [], _, _ => rfl
  | 0, t, w :: ws, _, h => by have := h w (by simp); omega
  | k + 1, t, ws, hp, h => by
    have hs := split_first (t := t) hp (fun w hw => (h w hw).1)
    have e1 : groupF t (k + 1) ws = ((ws.filter fun w => decide (w.Table = (t : Int))).map fun w => ⟨w.Key, w.Value⟩) :: groupF (t + 1) k (ws.filter fun w => decide (w.Table ≠ (t : Int))) := by
      simp only [groupF, List.range_succ_eq_map, List.map_cons, List.map_map, Nat.add_zero]
      congr 1
      refine List.map_congr_left fun i _ => ?_
      simp only [Function.comp]
      rw [List.filter_filter]
      congr 1
      refine List.filter_congr fun w hw => ?_
      have : (w.Table = ((t + Nat.succ i : Nat) : Int)) ↔ (w.Table = ((t + 1 + i : Nat) : Int) ∧ w.Table ≠ (t : Int)) := by omega
      simp only [decide_eq_decide.2 this, Bool.decide_and]
    have e2 : ((ws.filter fun w => decide (w.Table = (t : Int))).map fun w => (⟨w.Key, w.Value⟩ : Row)).map (wrRow t) = ws.filter fun w => decide (w.Table = (t : Int)) := by
      rw [List.map_map]
      conv => rhs; rw [← List.map_id (ws.filter fun w => decide (w.Table = (t : Int)))]
      refine List.map_congr_left fun w hw => ?_
      obtain ⟨hw1, hw2⟩ := List.mem_filter.1 hw
      have hw2 := of_decide_eq_true hw2
      have hw3 := (h w hw1).2.2
      obtain ⟨a, b, c, d⟩ := w
      simp only at hw2 hw3
      simp [wrRow, hw2, hw3]
    have ih := image_group k (t + 1) (ws.filter fun w => decide (w.Table ≠ (t : Int))) (hp.filter _) (fun w hw => by
      obtain ⟨hw1, hw2⟩ := List.mem_filter.1 hw
      have hw2 := of_decide_eq_true hw2
      have := h w hw1
      exact ⟨by omega, by omega, this.2.2⟩)
    rw [e1, imageF, e2, ih, ← hs]
theorem image_sorted : ∀ (m : Map) (t : Nat), (imageF t m).Pairwise (fun a b => a.Table ≤ b.Table)
  | [], t => by simp [imageF]
  | l :: m, t => by
    simp only [imageF, List.pairwise_append]
    refine ⟨?_, image_sorted m (t + 1), fun a ha b hb => ?_⟩
    · rw [List.pairwise_map]
      exact List.Pairwise.imp (R := fun _ _ => True) (fun _ => by simp [wrRow]) (List.pairwise_of_forall fun _ _ => trivial)
    · obtain ⟨x, _, rfl⟩ := List.mem_map.1 ha
      have := image_tables hb
      simp only [wrRow]; omega
theorem good_image {tables : Nat} {ws : List Write} (h0 : ∀ w ∈ ws, 0 ≤ w.Table) : goodP tables 0 ws = true ↔ (∀ w ∈ ws, w.Table < tables ∧ w.Gone = false) ∧ image (groupT tables ws) = ws := by
  rw [goodP_iff]
  constructor
  · rintro ⟨h1, h2⟩
    refine ⟨fun w hw => ⟨(h1 w hw).1, (h1 w hw).2.1⟩, ?_⟩
    rw [image, ← groupF_eq]
    exact image_group tables 0 ws h2 fun w hw => ⟨by have := h0 w hw; omega, by have := (h1 w hw).1; omega, (h1 w hw).2.1⟩
  · rintro ⟨h1, h2⟩
    refine ⟨fun w hw => ⟨(h1 w hw).1, (h1 w hw).2, h0 w hw⟩, ?_⟩
    rw [← h2]
    exact image_sorted _ 0
theorem rows_eq {tables : Nat} {r : Record} (hr : okR r = true) : rowsT tables r = if goodP tables 0 r.Writes = true ∧ r.Commit = 1 ∧ okM (groupT tables r.Writes) = true then some (groupT tables r.Writes) else none := by
  have h0 : ∀ w ∈ r.Writes, 0 ≤ w.Table := fun w hw => by
    simp only [okR, Bool.and_eq_true, List.all_eq_true] at hr
    have := hr.2 w hw
    simp only [okW, decide_eq_true_eq] at this
    omega
  unfold rowsT
  by_cases hg : goodP tables 0 r.Writes = true
  · have hg2 := (good_image h0).1 hg
    by_cases h : r.Commit = 1 ∧ okM (groupT tables r.Writes) = true
    · rw [if_pos ⟨h.1, hg2.1, h.2, hg2.2⟩, if_pos ⟨hg, h.1, h.2⟩]
    · rw [if_neg (fun hh => h ⟨hh.1, hh.2.2.1⟩), if_neg (fun hh => h hh.2)]
  · rw [if_neg (fun hh => hg ((good_image h0).2 ⟨hh.2.1, hh.2.2.2⟩)), if_neg (fun hh => hg hh.1)]
theorem group_snoc {tables : Nat} {ws : List Write} {w : Write} {k : Nat} (hk : w.Table = k) (hlt : k < tables) : groupT tables (ws ++ [w]) = (groupT tables ws).set k (((groupT tables ws)[k]?.getD []) ++ [⟨w.Key, w.Value⟩]) := by
  apply List.ext_getElem?
  intro i
  simp only [groupT, List.getElem?_map, List.getElem?_set, List.length_map, List.length_range]
  by_cases hi : i < tables
  · rw [List.getElem?_range hi, Option.map_some, List.filter_append, List.map_append]
    by_cases h : k = i
    · subst h
      rw [if_pos rfl, if_pos hlt, List.getElem?_range hlt, Option.map_some, Option.getD_some]
      simp [hk]
    · rw [if_neg h]
      have : ¬ w.Table = (i : Int) := by omega
      simp [this]
  · rw [if_neg (by omega), List.getElem?_eq_none (by simp; omega)]; rfl
end Go.Mir.Q

/- How a log's data lie in the mirror. -/
set_option linter.unusedVariables false
namespace Go.Mir.Q
open Go.Mir
def smP (W : List Put) : Prop := W.length ≤ 1048576 ∧ ∀ p ∈ W, p.Text.length ≤ 1048576
def smDo (l : List Do) : Prop := l.length ≤ 1048576 ∧ ∀ p ∈ l, p.Put.Text.length ≤ 1048576
def smRows (l : List Row) : Prop := l.length ≤ 1048576 ∧ ∀ x ∈ l, x.Key.length ≤ 1048576 ∧ x.Value.length ≤ 1048576
def smM (m : Map) : Prop := m.length ≤ 1048576 ∧ ∀ l ∈ m, smRows l
def see (s : List UInt8) (i : Int) : List Put → List UInt8
  | [] => s
  | p :: r => see (if p.At = i then p.Text else s) i r
def eRow (x : Row) : List D := [.sc (.string (bs x.Key)), .sc (.string (bs x.Value))]
def oRow (x : Row) : List V := [.d (.sc (.string (bs x.Key))), .d (.sc (.string (bs x.Value)))]
def eMp (l : List Row) : List D := [.sl (l.map eRow)]
abbrev cWal (w : Wal) : List V := [.d (.sc (.int .i64 w.Run)), .d (.sc (.int .i64 w.Slot)), .d (.sc (.int .i64 w.At)), .d (.sc (.int .i64 w.Seq))]
def eWal (w : Wal) : List D := [.sc (.int .i64 w.Run), .sc (.int .i64 w.Slot), .sc (.int .i64 w.At), .sc (.int .i64 w.Seq)]
def oWal (w : Wal) : List V := [.d (.sc (.int .i64 w.Run)), .d (.sc (.int .i64 w.Slot)), .d (.sc (.int .i64 w.At)), .d (.sc (.int .i64 w.Seq))]
theorem toDss_oRow (l : List Row) : toDss (l.map oRow) = some (l.map eRow) := toDss_map (fun _ => rfl) l
theorem noSlss_oRow (l : List Row) : noSlss (l.map oRow) = true := noSlss_map (fun _ => rfl) l
theorem dV_eRow (l : List Row) : (l.map eRow).map (fun x => x.map V.d) = l.map oRow := by simp [eRow, oRow]
theorem all_oRow (l : List Row) : (l.map oRow).all (fun c => c.length == 2) = true := by simp [oRow]
theorem isD_oRow (l : List Row) : ((l.map oRow).all fun x => x.all V.isD) = true := by simp [oRow, V.isD]
theorem all_eRow (l : List Row) : (l.map eRow).all (fun c => c.length == 2) = true := by simp [eRow]
attribute [push_cast] toDss_oRow noSlss_oRow dV_eRow all_oRow isD_oRow all_eRow
theorem toDss_oWal (l : List Wal) : toDss (l.map oWal) = some (l.map eWal) := toDss_map (fun _ => rfl) l
theorem noSlss_oWal (l : List Wal) : noSlss (l.map oWal) = true := noSlss_map (fun _ => rfl) l
attribute [push_cast] toDss_oWal noSlss_oWal
theorem eqRow_fold (a b : Row) : (decide (a.Key = b.Key) && decide (a.Value = b.Value)) = decide (a = b) := by
  obtain ⟨a1, a2⟩ := a
  obtain ⟨b1, b2⟩ := b
  simp
end Go.Mir.Q

/- The order of texts. -/
set_option linter.unusedVariables false
namespace Go.Mir.Q
open Go.Mir
theorem less_irrefl : ∀ a : List UInt8, Op.bytesLess a a = false
  | [] => rfl
  | a :: x => by simp [Op.bytesLess, less_irrefl x]
theorem less_total : ∀ a b : List UInt8, (Op.bytesLess a b || decide (a = b)) = !Op.bytesLess b a
  | [], [] => rfl
  | [], _ :: _ => rfl
  | _ :: _, [] => by simp [Op.bytesLess]
  | a :: x, b :: y => by
    have ih := less_total x y
    simp only [Op.bytesLess]
    rcases Nat.lt_trichotomy a.toNat b.toNat with h | h | h
    · have h1 : a < b := h
      have h2 : ¬ b < a := fun hh => by have : b.toNat < a.toNat := hh; omega
      have h3 : ¬ b = a := fun hh => by subst hh; omega
      simp [h1, h2, h3]
    · have h0 : a = b := UInt8.toNat_inj.1 h
      subst h0
      have h2 : ¬ a < a := fun hh => by have : a.toNat < a.toNat := hh; omega
      simp only [h2, decide_false, beq_self_eq_true, Bool.true_and, Bool.false_or, List.cons.injEq, true_and]
      exact ih
    · have h1 : b < a := h
      have h2 : ¬ a < b := fun hh => by have : a.toNat < b.toNat := hh; omega
      have h3 : ¬ a = b := fun hh => by subst hh; omega
      simp [h1, h2, h3]
theorem less_trans : ∀ {a b c : List UInt8}, Op.bytesLess a b = true → Op.bytesLess b c = true → Op.bytesLess a c = true
  | _, [], c, h, _ => by simp [Op.bytesLess] at h
  | _, _ :: _, [], _, h => by simp [Op.bytesLess] at h
  | [], _ :: _, _ :: _, _, _ => rfl
  | a :: x, b :: y, c :: z, h1, h2 => by
    simp only [Op.bytesLess, Bool.or_eq_true, decide_eq_true_eq, Bool.and_eq_true, beq_iff_eq] at h1 h2 ⊢
    rcases h1 with h1 | ⟨rfl, h1⟩
    · rcases h2 with h2 | ⟨rfl, h2⟩
      · left; have h1 : a.toNat < b.toNat := h1; have h2 : b.toNat < c.toNat := h2; show a.toNat < c.toNat; omega
      · exact .inl h1
    · rcases h2 with h2 | ⟨rfl, h2⟩
      · exact .inl h2
      · exact .inr ⟨rfl, less_trans h1 h2⟩
theorem less_asymm {a b : List UInt8} (h : Op.bytesLess a b = true) : Op.bytesLess b a = false := by
  cases hb : Op.bytesLess b a with
  | false => rfl
  | true => have := less_trans h hb; rw [less_irrefl] at this; cases this
theorem less_ne {a b : List UInt8} (h : Op.bytesLess a b = true) : a ≠ b := fun e => by subst e; rw [less_irrefl] at h; cases h
theorem rising_snoc (x : Row) : ∀ l : List Row, rising (l ++ [x]) = (rising l && (match l.getLast? with | some y => Op.bytesLess y.Key x.Key | none => true))
  | [] => rfl
  | [a] => by simp [rising]
  | a :: b :: l => by
    have ih := rising_snoc x (b :: l)
    simp only [List.cons_append] at ih ⊢
    simp only [rising]
    rw [ih, List.getLast?_cons_cons, Bool.and_assoc]
theorem okRows_snoc (l : List Row) (x : Row) : okRows (l ++ [x]) = (okRows l && (okRow x && (match l.getLast? with | some y => Op.bytesLess y.Key x.Key | none => true))) := by
  simp only [okRows, List.all_append, List.all_cons, List.all_nil, Bool.and_true, rising_snoc]
  cases l.all okRow <;> cases rising l <;> cases okRow x <;> simp
theorem rising_pre : ∀ {l k : List Row}, rising (l ++ k) = true → rising l = true
  | [], _, _ => rfl
  | [_], _, _ => rfl
  | a :: b :: l, k, h => by
    simp only [List.cons_append, rising, Bool.and_eq_true] at h ⊢
    exact ⟨h.1, rising_pre (l := b :: l) h.2⟩
theorem okRows_pre {l k : List Row} (h : okRows (l ++ k) = true) : okRows l = true := by
  simp only [okRows, List.all_append, Bool.and_eq_true] at h ⊢
  exact ⟨h.1.1, rising_pre h.2⟩
end Go.Mir.Q

/- slices.Clone: the library's contract, laid over this program, for the mirror. -/
set_option linter.unusedVariables false
namespace Go.Mir
open Go Go.Proofs Go.Shelf
section
open Go.RowKit Go.Lib
variable {P : Program} {ρ : Ren}

set_option maxHeartbeats 2000000 in
set_option maxRecDepth 100000 in
/-- slices.Clone of no elements, wherever they would lie. -/
theorem clone_empty (L : SlLaysE0.n41 P ρ) (i0 : TypeInfo) (z : Value) (size bytes : Nat) (hi : P.info? (ρ.t 23) = some i0) (hz0 : i0.zero = some z) (hz1 : i0.size = size) (hz2 : i0.bytes = bytes) (hzs : z.cells.size = size) (hsz : 0 < size)
    (z23 : ∀ w, (Go.sizeOf (ρ.t 23)).run P w = .ok size w) (a : Addr) (c : Nat) (w : World) :
    Calls P (ρ.f 41) #[.slice (some a) 0 c] w fun e w' => ∃ v', e = .returned v' ∧ w'.ownsRow w.heap.size (ρ.t 23) size v' 0 [] ∧ Below w.heap.size w w' := by
  have mixed := L.mixed; have t4 := L.t4; have a4 := L.a4; have z4 := L.z4; have v4 := L.v4; have t22 := L.t22; have a22 := L.a22; have z22 := L.z22; have v22 := L.v22
  have q22 : ∀ (w : World) (a : Option Addr) (n c n' c' : Nat), (binOp .eql (ρ.t 22) (.slice a n c) (.slice none n' c')).run P w = .ok (.bool a.isNone) w := fun w a n c n' c' => Lib.run_eql_slice_nil w _ _ a n c n' c' L.t22
  have u22 : ∀ w, Sem.run P (underlying (ρ.t 22)) w = .ok (TypeDesc.slice (ρ.t 23)) w := run_underlying t22
  obtain ⟨_, _, FG⟩ := L.f41
  go_enter FG, SlBodyN.n41_ntmps ρ
  go_wp2_with (at_builtin; refine wpList_append_own _ rfl _ _ (ρ.t 22) rfl w.heap.size (ρ.t 23) i0 z size bytes t22 hi hz0 hz1 hz2 hzs hsz _ _ _ rfl (World.ownsRow_made w #[] 0 (Nat.le_refl _) (Nat.zero_le _) (by simp)) a 0 c [] rfl ?qc1 ?qc2 ?qc3 ?qc4 ?qc5 ?qc6 ?_)
  case qc1 => simp
  case qc2 => simp
  case qc3 => simp
  case qc4 => simp [maxLen]
  case qc5 => simp
  case qc6 => simp
  intro v' w1 hown hgrow hnil
  go_wp2
  go_ret
  refine ⟨v', rfl, by simpa using hown, ?_⟩
  exact ((Below.refl _ w).alloc (Nat.le_refl _) _).grown hgrow (by simp) (by intro k hk; simp [Value.ownBlock] at hk; omega)
end

/-- What is known of slices.Clone at an element type. -/
def cloneGiven (P : Program) (el : Nat) : List PM × (List T → Option Res) := ([.ro], fun
  | [.vs false [.d (.sl xs)]] =>
    if xs.all (fun c => c.length == P.cellsOf el) = true ∧ xs.length * P.bytesOf el ≤ 140737488355328 ∧ xs.length ≤ 140737488355328 then some (.one (.own el (xs.map (·.map .d))), []) else none
  | _ => none)

theorem clone_ok {P : Program} {ρ : Ren} (L : SlLaysE0.n41 P ρ) {i0 : TypeInfo} {z : Value} (hi : P.info? (ρ.t 23) = some i0) (hz0 : i0.zero = some z) (hzs : z.cells.size = i0.size) (hsz : 0 < i0.size)
    (z23 : ∀ w, (Go.sizeOf (ρ.t 23)).run P w = .ok i0.size w) (hfn : ∃ fn, P.funcs[ρ.f 41]? = some fn ∧ (fn.name == "runtime.NumGoroutine") = false ∧ fn.body.isNone = false)
    {pm : FuncId → List PM} (hpm : pm (ρ.f 41) = [.ro]) {args : List T} {r : Res} (h : (cloneGiven P (ρ.t 23)).2 args = some r) : CallR P pm (ρ.f 41) args r := by
  simp only [cloneGiven] at h
  split at h
  case h_2 => cases h
  rename_i xs
  split at h
  case isFalse => cases h
  rename_i hc
  obtain ⟨hall, hby, hln⟩ := hc
  cases h
  have hcs : P.cellsOf (ρ.t 23) = i0.size := by simp [Program.cellsOf, hi]
  have hbs : P.bytesOf (ρ.t 23) = i0.bytes := by simp [Program.bytesOf, hi]
  refine ⟨hfn, rfl, fun X w us Fa hX hl ha hd hx => ?_⟩
  match us, hl with
  | [u], _ =>
    have h0 := VS.toOne (ha 0 _ u rfl rfl)
    cases h0 with
    | blk _ hh => simp [Shape] at hh
    | d _ hro =>
      obtain ⟨A, c, rfl, us, hown, hr⟩ := RO.elems (P := P) hro
      by_cases hxne : xs = []
      · subst hxne
        clear hr
        cases A with
        | none =>
          refine (AnyE.slices_Clone_nil L 0 c w).mono fun en w' ⟨he, hw⟩ => ?_
          subst hw
          refine ⟨_, he, Grow.refl _ _, No, No, VS.ofOne (.nil fun _ h => h), ?_, fun _ h _ => h, fun b h => by rcases h with h | h <;> exact h.elim⟩
          rw [hpm]; exact ⟨rfl, fun _ => No, fun j v u h => by simp at h, fun i j b h => by simp at h, fun b => ⟨fun h => h.elim, fun ⟨_, _, h⟩ => h.elim⟩⟩
        | some a =>
          have := clone_empty L i0 z i0.size i0.bytes hi hz0 rfl rfl hzs hsz z23 a c w
          refine this.mono fun en w' ⟨v', he, hrow, hbel⟩ => ?_
          obtain ⟨hl1, hrow⟩ := hrow
          rcases hrow with ⟨rfl, _⟩ | ⟨g, cap, cur, rfl, hg1, hg2, hcap, hmax, hcur, hcells⟩
          · refine ⟨_, he, ⟨hbel.os, hbel.tape, hbel.output, hbel.size, fun k hk _ => hbel.block k hk⟩, No, No, VS.ofOne (.nil fun _ h => h), ?_, fun _ h _ => h, fun b h => by rcases h with h | h <;> exact h.elim⟩
            rw [hpm]; exact ⟨rfl, fun _ => No, fun j v u h => by simp at h, fun i j b h => by simp at h, fun b => ⟨fun h => h.elim, fun ⟨_, _, h⟩ => h.elim⟩⟩
          · refine ⟨_, he, ⟨hbel.os, hbel.tape, hbel.output, hbel.size, fun k hk _ => hbel.block k hk⟩, (fun b => b = g), No, ?_, ?_, fun _ h h2 => h2, fun b h => ?_⟩
            · exact VS.ofOne (.blk (fun _ => No) (vs := []) ⟨rfl, rfl, by omega, by simp, rfl, cap, by simp, by simp, hmax, by rw [hcs]; exact hcur⟩ hg2 (by simp) (by simp) (by simp) (fun b => ⟨.inl, fun h => h.elim id fun ⟨_, h, _⟩ => by simp at h⟩))
            · rw [hpm]; exact ⟨rfl, fun _ => No, fun j v u h => by simp at h, fun i j b h => by simp at h, fun b => ⟨fun h => h.elim, fun ⟨_, _, h⟩ => h.elim⟩⟩
            · rcases h with rfl | h
              · exact ⟨fun hh => by have := hX _ hh; omega, .inr hg1⟩
              · exact h.elim
      rcases hr with rfl | ⟨b, of, sz, hsz0, rfl, hlen, hok, hul, hlc, hcell, hel⟩
      · exact (hxne rfl).elim
      have hsze : sz = i0.size := by
        obtain ⟨x, r, rfl⟩ : ∃ x r, xs = x :: r := by cases xs with | nil => exact (hxne rfl).elim | cons x r => exact ⟨x, r, rfl⟩
        have h1 := hlen x (by simp)
        have h2 := List.all_eq_true.1 hall x (by simp)
        simp [hcs] at h2
        omega
      subst hsze
      have := AnyE.slices_Clone L i0 z i0.size i0.bytes hi hz0 rfl rfl hzs hsz z23 b of xs.length c us w hul (by simp only [maxLen]; omega) (by rw [← hbs]; exact hby) hcell hown.one
      refine this.mono fun en w' ⟨v', he, hrow, hnn, hbel⟩ => ?_
      obtain ⟨hl1, hrow⟩ := hrow
      rcases hrow with ⟨rfl, _⟩ | ⟨g, cap, cur, rfl, hg1, hg2, hcap, hmax, hcur, hcells⟩
      · exact absurd rfl hnn
      refine ⟨_, he, ⟨hbel.os, hbel.tape, hbel.output, hbel.size, fun k hk _ => hbel.block k hk⟩, (fun b => b = g), No, ?_, ?_, fun _ h h2 => h2, fun b h => ?_⟩
      · have hfl : (xs.map (·.map V.d)).flatten = xs.flatten.map V.d := by rw [List.map_flatten]
        refine VS.ofOne (.blk (fun _ => No) (vs := (xs.map (·.map V.d)).flatten) ⟨rfl, rfl, by omega, fun c hc => ?_, rfl, cap, by rw [List.length_map], by rw [List.length_map]; exact hcap, hmax, by rw [hcs]; exact hcur⟩ hg2 (fun j v u hv hu => ?_) (fun _ _ _ _ _ _ h => h.elim) (fun _ _ h => h) (fun b => ⟨.inl, fun h => h.elim id fun ⟨_, _, h⟩ => h.elim⟩))
        · obtain ⟨d, hd, rfl⟩ := List.mem_map.1 hc
          have := List.all_eq_true.1 hall d hd
          simpa using this
        · rw [hfl, List.getElem?_map] at hv
          obtain ⟨y, hy, rfl⟩ := Option.map_eq_some_iff.1 hv
          have hj : j < xs.length * i0.size := by
            have h1 := (List.getElem?_eq_some_iff.1 hy).1
            have h2 : xs.flatten.length = xs.length * i0.size := flat_len hlen
            omega
          have hu2 : us[j]? = some u := by
            rw [← hcells, List.getElem?_take, if_pos hj]
            simpa using hu
          refine .d (fun _ h => h) ((hel j y u hy hu2).mono fun k hk hkl => ⟨⟨hk.1, fun hh => by omega, fun h => h⟩, hbel.block k hkl⟩)
      · rw [hpm]; exact ⟨rfl, fun _ => No, fun j v u h => by simp at h, fun i j b h => by simp at h, fun b => ⟨fun h => h.elim, fun ⟨_, _, h⟩ => h.elim⟩⟩
      · rcases h with rfl | h
        · exact ⟨fun hh => by have := hX _ hh; omega, .inr hg1⟩
        · exact h.elim
end Go.Mir

/- strings.Repeat: the library's contract, laid over this program, for the mirror. -/
set_option linter.unusedVariables false
namespace Go.Mir.Try
open Go Go.Proofs Go.Shelf
def repF : Nat → Nat
  | 99 => 79 | 105 => 63 | 165 => 80 | 166 => 81 | 169 => 83 | 170 => 82 | 206 => 88 | 212 => 78 | 240 => 89 | 241 => 90 | 263 => 86 | 264 => 87 | 276 => 91 | 277 => 92 | n => n
def repT : Nat → Nat
  | 0 => 0 | 3 => 3 | 4 => 4 | 5 => 5 | 9 => 9 | 20 => 20 | 37 => 96 | 46 => 103 | 51 => 141 | 53 => 144 | 70 => 130 | 72 => 132 | 75 => 135 | 76 => 136 | 80 => 139 | 109 => 127 | 127 => 147 | 146 => 142 | 148 => 145 | 164 => 148 | n => n
def repRen : Ren := ⟨repF, repT, fun n => n⟩
theorem repLays : Lays.n105 Try.prog repRen := by
  constructor <;> intros <;> kernel_rfl
theorem repExtra : Builder.Extra Try.prog repRen := by
  constructor
  · constructor <;> intros <;> kernel_rfl
  all_goals first
    | (intros; kernel_rfl)
    | (intro h; exact absurd h (by decide))

theorem repeatL_eq (l : List UInt8) (n : Nat) : Lib.repeatL l n = (List.replicate n l).flatten := by
  induction n with
  | zero => rfl
  | succ n ih => simp [Lib.repeatL, ih, List.replicate_succ]

/-- What is known of strings.Repeat. -/
def repGiven : List PM × (List T → Option Res) := ([.ro, .ro], fun
  | [.vs false [.d (.sc (.string s))], .vs false [.d (.sc (.int .i64 c))]] =>
    if 0 ≤ c ∧ s.size * c.toNat ≤ 140737488355328 ∧ c ≤ 9223372036854775807 then some (.str (bs (List.replicate c.toNat s.data.toList).flatten), []) else none
  | _ => none)

theorem sc_of {P : Program} {w : World} {ok : Nat → Prop} {v u : Value} {F : Nat → Prop} (h : TRe P w ok (.vs false [.d (.sc v)]) u F) : u = v := by
  obtain ⟨_, hl, Fc, g1, _, _⟩ := h
  have := g1 0 _ u rfl (by simp [cellsOf])
  cases this with
  | d _ hr => cases hr; rfl
  | blk _ hh => simp [Shape] at hh
theorem of_sc {P : Program} {w : World} {ok : Nat → Prop} {v : Value} (hv : plain v = true) : TRe P w ok (.vs false [.d (.sc v)]) v No :=
  ⟨fun h => (by cases h), by simp [cellsOf], fun _ => No, fun j x u hx hu => by
    cases j with
    | zero =>
      simp [cellsOf] at hx hu
      subst hx; subst hu
      exact .d (fun _ h => h) (.sc hv)
    | succ j => simp at hx, fun _ _ _ _ _ _ h => h.elim, fun b => ⟨fun h => h.elim, fun ⟨_, _, h⟩ => h.elim⟩⟩
theorem own_none {P : Program} {w : World} {ok : Nat → Prop} : OwnL P w ok [] [] No :=
  ⟨rfl, fun _ => No, fun j v u h => by simp at h, fun i j b h => by simp at h, fun b => ⟨fun h => h.elim, fun ⟨_, _, h⟩ => h.elim⟩⟩

theorem rep_ok {pm : FuncId → List PM} (hpm : pm 63 = [.ro, .ro]) {args : List T} {r : Res} (h : repGiven.2 args = some r) : CallR Try.prog pm 63 args r := by
  simp only [repGiven] at h
  split at h
  case h_2 => cases h
  rename_i s c
  split at h
  case isFalse => cases h
  rename_i hc
  obtain ⟨h0, h1, h2⟩ := hc
  cases h
  refine ⟨⟨_, Try.func63, by kernel_rfl, by kernel_rfl⟩, rfl, fun X w us Fa hX hl ha hd hx => ?_⟩
  match us, hl with
  | [u, v], _ =>
    obtain rfl := sc_of (ha 0 _ u rfl rfl)
    obtain rfl := sc_of (ha 1 _ v rfl rfl)
    obtain ⟨n, rfl⟩ := Int.eq_ofNat_of_zero_le h0
    have := Any.strings_Repeat repLays repExtra s n w (by omega) (by simpa using h1)
    refine this.mono fun en w' ⟨he, hb⟩ => ?_
    refine ⟨_, he, ⟨hb.os, hb.tape, hb.output, hb.size, fun k hk _ => hb.block k hk⟩, No, No, ?_, ?_, fun _ h _ => h, fun b h => by rcases h with h | h <;> exact h.elim⟩
    · have e : (bs (List.replicate (n : Int).toNat s.data.toList).flatten) = ⟨(Lib.repeatL s.data.toList n).toArray⟩ := by rw [repeatL_eq]; rfl
      rw [e]
      exact of_sc rfl
    · rw [hpm]; exact own_none
end Go.Mir.Try

/- slices.Clone laid over this program. -/
set_option linter.unusedVariables false
set_option linter.unusedSimpArgs false
namespace Go.Mir.Try
open Go Go.Proofs Go.Shelf
def cloRen (f s t : Nat) : Ren := ⟨fun n => if n = 41 then f else n, fun n => if n = 22 then s else if n = 23 then t else n, fun n => n⟩
theorem cloS : SlLaysE0.n41 Try.prog (cloRen 51 24 9) := by
  constructor
  all_goals first
    | (intros; kernel_rfl)
    | exact ⟨_, by kernel_rfl, by kernel_rfl⟩
    | exact ⟨"slices.Clone[[]string,string]", by decide, by kernel_rfl⟩
theorem cloP : SlLaysE0.n41 Try.prog (cloRen 52 33 59) := by
  constructor
  all_goals first
    | (intros; kernel_rfl)
    | exact ⟨_, by kernel_rfl, by kernel_rfl⟩
    | exact ⟨"slices.Clone[[]quorum/api.Put,quorum/api.Put]", by decide, by kernel_rfl⟩
def infoOk (P : Program) (t : Nat) : Bool := match P.info? t with
  | some i => match i.zero with
    | some z => z.cells.size == i.size && decide (0 < i.size)
    | none => false
  | none => false
theorem clone_ok' {P : Program} {f s t : Nat} (L : SlLaysE0.n41 P (cloRen f s t)) (hi : infoOk P t = true) (hfn : ∃ fn, P.funcs[f]? = some fn ∧ (fn.name == "runtime.NumGoroutine") = false ∧ fn.body.isNone = false)
    {pm : FuncId → List PM} (hpm : pm f = [.ro]) {args : List T} {r : Res} (h : (cloneGiven P t).2 args = some r) : CallR P pm f args r := by
  unfold infoOk at hi
  split at hi
  · rename_i i hi0
    split at hi
    · rename_i z hz
      simp only [Bool.and_eq_true, beq_iff_eq, decide_eq_true_eq] at hi
      have hi1 : P.info? ((cloRen f s t).t 23) = some i := hi0
      exact clone_ok L hi1 hz hi.1 hi.2 (fun w => by simp [Go.sizeOf, typeInfo, hi1]) hfn hpm h
    · cases hi
  · cases hi
theorem cloS_ok {pm : FuncId → List PM} (hpm : pm 51 = [.ro]) {args : List T} {r : Res} (h : (cloneGiven Try.prog 9).2 args = some r) : CallR Try.prog pm 51 args r :=
  clone_ok' cloS (by decide +kernel) ⟨_, Try.func51, by kernel_rfl, by kernel_rfl⟩ hpm h
theorem cloP_ok {pm : FuncId → List PM} (hpm : pm 52 = [.ro]) {args : List T} {r : Res} (h : (cloneGiven Try.prog 59).2 args = some r) : CallR Try.prog pm 52 args r :=
  clone_ok' cloP (by decide +kernel) ⟨_, Try.func52, by kernel_rfl, by kernel_rfl⟩ hpm h
end Go.Mir.Try
