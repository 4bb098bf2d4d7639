/- The law WalMaps holds: a map with records one by one is that with all of them, with what was written last, or without what is gone, for inputs up to the stated size. Part 3 of its proof. -/
import Derived.Test.YtpjomofniedilaaGreatMirWm2
import Derived.Lib.Bytealg
import Derived.Shelf.SlicesE.Clone
import Derived.Shelf.RegionOpenPlain
import Derived.WalkKit
import Derived.Deep.LoopGhost
import Derived.Lib.Walk
import Derived.Lib.SliceRun
import Derived.KernelRfl
import Derived.Shelf.Strings.Repeat
import Derived.Test.YtpjomofniedilaaGreatProg
import Derived.Shelf.Spec.SlicesInsertGrow
import Derived.Shelf.SlGeneric
import Derived.Shelf.SlLaysE0
import Derived.Deep.RegionLaw
import Derived.Shelf.RegionOpen
import Derived.Sort.WalkB12
set_option linter.unusedVariables false
set_option linter.unusedSimpArgs false
set_option maxRecDepth 100000
namespace Go.Mir.Q
open Go.Mir
def okW (w : Write) : Bool := decide (0 ≤ w.Table ∧ w.Table < 3 ∧ w.Key ≠ [] ∧ w.Key.length ≤ 12 ∧ w.Value.length ≤ 20 ∧ (w.Gone = false ∨ w.Value = []))
def okR (r : Record) : Bool := decide (1 ≤ r.Commit ∧ r.Commit ≤ 1073741824 ∧ r.Writes.length ≤ 64) && r.Writes.all okW
def smS (l : List (List UInt8)) : Prop := l.length ≤ 1048576 ∧ ∀ s ∈ l, s.length ≤ 1048576
def smW (l : List Write) : Prop := l.length ≤ 1048576 ∧ ∀ w ∈ l, w.Key.length ≤ 1048576 ∧ w.Value.length ≤ 1048576
def smR (l : List Record) : Prop := l.length ≤ 1048576 ∧ ∀ r ∈ l, smW r.Writes ∧ okN r.Commit
theorem oB_byt (n : Int) : oB (byt n) = [.d (.sc (.int .u8 (n % 256)))] := by simp only [oB, byt_toNat]
theorem be4 (n : Int) : be 4 n = [byt (n / 16777216), byt (n / 65536), byt (n / 256), byt n] := by
  rw [be_cons, be_cons, be_cons, be_cons]; simp [be]
theorem or_byte {a b : Int} (h0 : 0 ≤ a) (h1 : a < 36028797018963968) (h2 : 0 ≤ b) (h3 : b < 256) : IntKind.i64.wrap ((BitVec.ofInt IntKind.i64.bits (a * 256) ||| BitVec.ofInt IntKind.i64.bits b).toNat) = a * 256 + b := by
  obtain ⟨m, rfl⟩ := Int.eq_ofNat_of_zero_le h0
  obtain ⟨k, rfl⟩ := Int.eq_ofNat_of_zero_le h2
  have e : (BitVec.ofInt IntKind.i64.bits ((m : Int) * 256) ||| BitVec.ofInt IntKind.i64.bits k).toNat = m * 256 + k := by
    have h4 : m * 256 % 18446744073709551616 = m * 256 := Nat.mod_eq_of_lt (by omega)
    have h5 : k % 18446744073709551616 = k := Nat.mod_eq_of_lt (by omega)
    have h6 : (m : Int) * 256 = ((m * 256 : Nat) : Int) := by push_cast; rfl
    rw [h6, BitVec.ofInt_natCast, BitVec.ofInt_natCast, BitVec.toNat_or, BitVec.toNat_ofNat, BitVec.toNat_ofNat]
    simp only [IntKind.bits]
    rw [show 2 ^ 64 = 18446744073709551616 from rfl, h4, h5]
    have := Nat.two_pow_add_eq_or_of_lt (i := 8) (b := k) (by omega) m
    rw [Nat.mul_comm m 256]
    exact this.symm
  rw [e, wrap_i64 (by omega) (by omega)]
  push_cast
  rfl
def num (l : List UInt8) : Int := l.foldl (fun a b => a * 256 + b.toNat) 0
theorem num_snoc (l : List UInt8) (b : UInt8) : num (l ++ [b]) = num l * 256 + b.toNat := by simp [num]
theorem num_bdk : ∀ (l : List UInt8) (k : Nat) (a : Int), 0 ≤ a → a < 256 ^ k → 0 ≤ l.foldl (fun a b => a * 256 + (b.toNat : Int)) a ∧ l.foldl (fun a b => a * 256 + (b.toNat : Int)) a < 256 ^ (k + l.length)
  | [], k, a, h0, h1 => ⟨h0, h1⟩
  | b :: l, k, a, h0, h1 => by
    have hb := b.toNat_lt
    have := num_bdk l (k + 1) (a * 256 + b.toNat) (by omega) (by rw [Int.pow_succ]; omega)
    rw [show k + (b :: l).length = k + 1 + l.length by simp; omega]
    exact this
theorem num_bd6 (l : List UInt8) (h : l.length ≤ 6) : 0 ≤ num l ∧ num l < 281474976710656 := by
  have h1 := num_bdk l 0 0 (by omega) (by simp)
  refine ⟨h1.1, Int.lt_of_lt_of_le h1.2 ?_⟩
  have : l.length = 0 ∨ l.length = 1 ∨ l.length = 2 ∨ l.length = 3 ∨ l.length = 4 ∨ l.length = 5 ∨ l.length = 6 := by omega
  rcases this with h | h | h | h | h | h | h <;> rw [h] <;> decide
def wr (w : Write) : List UInt8 := be 1 w.Table ++ be 1 (if w.Gone then 1 else 0) ++ be 1 w.Key.length ++ w.Key ++ be 1 w.Value.length ++ w.Value
def wrs (l : List Write) : List UInt8 := l.flatMap wr
def spelt (r : Record) : List UInt8 := be 4 r.Commit ++ be 4 r.Writes.length ++ wrs r.Writes
theorem wrs_snoc (l : List Write) (w : Write) : wrs (l ++ [w]) = wrs l ++ wr w := by simp [wrs]
theorem wrs_len (l : List Write) (h : ∀ w ∈ l, w.Key.length ≤ 1048576 ∧ w.Value.length ≤ 1048576) : (wrs l).length ≤ l.length * 2097156 := by
  induction l with
  | nil => simp [wrs]
  | cons w l ih =>
    have h1 := h w (by simp)
    have h2 := ih fun x hx => h x (List.mem_cons_of_mem _ hx)
    have : (wrs (w :: l)).length = (wr w).length + (wrs l).length := by simp [wrs]
    have h3 : (wr w).length = 4 + w.Key.length + w.Value.length := by simp [wr, be_length]; omega
    rw [this, List.length_cons]
    omega
abbrev Rdr := List UInt8 × Bool
abbrev bR (r : Rdr) : V := .box [.d (.sc (.string (bs r.1))), .d (.sc (.bool r.2))]
def tk (n : Nat) (r : Rdr) : List UInt8 × Rdr := if r.2 = true ∨ r.1.length < n then ([], (r.1, true)) else (r.1.take n, (r.1.drop n, false))
theorem tk_len (n : Nat) (r : Rdr) : (tk n r).1.length ≤ n ∧ (tk n r).2.1.length ≤ r.1.length := by
  unfold tk; split <;> simp <;> omega
theorem num_one (n : Nat) (hn : n ≤ 1) (r : Rdr) : 0 ≤ num (tk n r).1 ∧ num (tk n r).1 < 256 := by
  have h := (tk_len n r).1
  match hx : (tk n r).1 with
  | [] => simp [num]
  | [b] => have := b.toNat_lt; simp [num]; omega
  | _ :: _ :: _ => rw [hx] at h; simp at h; omega
def rdK (r : Rdr) : List UInt8 × Rdr := let l := tk 1 r; tk (num l.1).toNat l.2
def rdG (r : Rdr) : Rdr := let a := tk 1 r; let g := tk 1 a.2; (g.2.1, g.2.2 || decide (1 < num g.1))
def rdW (r : Rdr) : Write × Rdr := (⟨num (tk 1 r).1, (rdK (rdG r)).1, (rdK (rdK (rdG r)).2).1, decide (num (tk 1 (tk 1 r).2).1 = 1)⟩, (rdK (rdK (rdG r)).2).2)
def rdWs : Nat → Rdr → List Write × Rdr
  | 0, r => ([], r)
  | n + 1, r => if r.2 = true then ([], r) else ((rdW r).1 :: (rdWs n (rdW r).2).1, (rdWs n (rdW r).2).2)
def rdRec (s : List UInt8) : Record × Rdr := let c := tk 4 (s, false); let k := tk 4 c.2; let w := rdWs (num k.1).toNat k.2; (⟨num c.1, w.1⟩, w.2)
def take (s : List UInt8) : Option Record := let x := rdRec s; if x.2.2 = true ∨ x.2.1 ≠ [] ∨ okR x.1 = false then none else some x.1
def rc (s : List UInt8) : Record := (take s).getD ⟨0, []⟩
theorem tk_good {n : Nat} {r : Rdr} (h : (tk n r).2.2 = false) : r.2 = false ∧ (tk n r).2.1.length + n = r.1.length := by
  unfold tk at *
  split at h
  · cases h
  · rename_i hn
    rw [if_neg hn]
    rw [not_or, Bool.not_eq_true] at hn
    refine ⟨hn.1, ?_⟩
    simp only [List.length_drop]; omega
theorem rdW_good {r : Rdr} (h : (rdW r).2.2 = false) : r.2 = false ∧ (rdW r).2.1.length + 4 ≤ r.1.length := by
  simp only [rdW, rdK] at *
  have h1 := tk_good h
  have h2 := tk_good h1.1
  have h3 := tk_good h2.1
  have h4 := tk_good h3.1
  have h5 : (tk 1 (tk 1 r).2).2.2 = false := by
    have := h4.1
    simp only [rdG, Bool.or_eq_false_iff] at this
    exact this.1
  have h6 := tk_good h5
  have h7 := tk_good h6.1
  have e : (rdG r).1 = (tk 1 (tk 1 r).2).2.1 := rfl
  rw [e] at h4
  exact ⟨h7.1, by omega⟩
theorem rdW_len (r : Rdr) : (rdW r).2.1.length ≤ r.1.length := by
  simp only [rdW, rdK]
  have h1 := (tk_len (num (tk 1 (tk (num (tk 1 (rdG r)).1).toNat (tk 1 (rdG r)).2).2).1).toNat (tk 1 (tk (num (tk 1 (rdG r)).1).toNat (tk 1 (rdG r)).2).2).2).2
  have h2 := (tk_len 1 (tk (num (tk 1 (rdG r)).1).toNat (tk 1 (rdG r)).2).2).2
  have h3 := (tk_len (num (tk 1 (rdG r)).1).toNat (tk 1 (rdG r)).2).2
  have h4 := (tk_len 1 (rdG r)).2
  have h5 := (tk_len 1 (tk 1 r).2).2
  have h6 := (tk_len 1 r).2
  have e : (rdG r).1 = (tk 1 (tk 1 r).2).2.1 := rfl
  rw [e] at h4
  omega
section
variable {s : List UInt8} {a : Nat} (h : a + 4 ≤ s.length)
include h
end
theorem tk_app {n : Nat} {s t : List UInt8} (h : s.length = n) : tk n (s ++ t, false) = (s, t, false) := by
  subst h
  unfold tk
  rw [if_neg (by simp)]
  simp
theorem num_be1 {n : Int} (h0 : 0 ≤ n) (h1 : n < 256) : num (be 1 n) = n := by
  simp [be, num, byt_toNat]; omega
theorem num_be4 {n : Int} (h0 : 0 ≤ n) (h1 : n < 4294967296) : num (be 4 n) = n := by
  simp only [be4, num, List.foldl_cons, List.foldl_nil, byt_toNat]; omega
theorem tk_be1 {n : Int} {t : List UInt8} : tk 1 (be 1 n ++ t, false) = (be 1 n, t, false) := tk_app (be_length _ _)
theorem tk_be4 {n : Int} {t : List UInt8} : tk 4 (be 4 n ++ t, false) = (be 4 n, t, false) := tk_app (be_length _ _)
theorem rdK_app {s t : List UInt8} (h : s.length < 256) : rdK (be 1 s.length ++ (s ++ t), false) = (s, t, false) := by
  simp only [rdK, tk_be1]
  rw [num_be1 (by omega) (by omega), Int.toNat_natCast, tk_app rfl]
theorem rdW_wr {w : Write} {t : List UInt8} (h : okW w = true) : rdW (wr w ++ t, false) = (w, t, false) := by
  obtain ⟨a, k, v, g⟩ := w
  simp only [okW, decide_eq_true_eq] at h
  have e : wr ⟨a, k, v, g⟩ ++ t = be 1 a ++ (be 1 (if g then 1 else 0) ++ (be 1 k.length ++ (k ++ (be 1 v.length ++ (v ++ t))))) := by simp [wr]
  have eg : num (be 1 (if g then (1 : Int) else 0)) = if g then 1 else 0 := num_be1 (by split <;> omega) (by split <;> omega)
  have e2 : rdG (wr ⟨a, k, v, g⟩ ++ t, false) = (be 1 k.length ++ (k ++ (be 1 v.length ++ (v ++ t))), false) := by
    rw [e]
    simp only [rdG, tk_be1, eg]
    cases g <;> simp
  simp only [rdW, e2]
  rw [rdK_app (by omega), rdK_app (by omega), e]
  simp only [tk_be1, eg]
  rw [num_be1 (by omega) (by omega)]
  cases g <;> rfl
theorem rdWs_wrs : ∀ {l : List Write} {t : List UInt8}, (∀ w ∈ l, okW w = true) → rdWs l.length (wrs l ++ t, false) = (l, t, false)
  | [], t, _ => rfl
  | w :: l, t, h => by
    have e : wrs (w :: l) ++ t = wr w ++ (wrs l ++ t) := by simp [wrs]
    rw [e, List.length_cons, rdWs, if_neg (by simp), rdW_wr (h w (by simp)), rdWs_wrs fun x hx => h x (List.mem_cons_of_mem _ hx)]
theorem take_spelt {r : Record} (h : okR r = true) : take (spelt r) = some r := by
  obtain ⟨c, l⟩ := r
  have h' := h
  simp only [okR, Bool.and_eq_true, decide_eq_true_eq, List.all_eq_true] at h'
  have e : rdRec (spelt ⟨c, l⟩) = (⟨c, l⟩, [], false) := by
    have e1 : spelt ⟨c, l⟩ = be 4 c ++ (be 4 l.length ++ (wrs l ++ [])) := by simp [spelt]
    rw [e1]
    simp only [rdRec, tk_be4]
    rw [num_be4 (by omega) (by omega), num_be4 (by omega) (by omega), Int.toNat_natCast, rdWs_wrs h'.2]
  simp only [take, e, h]
  simp
theorem okR_len {r : Record} (h : okR r = true) : (spelt r).length ≤ 3000 ∧ 8 ≤ (spelt r).length := by
  simp only [okR, Bool.and_eq_true, decide_eq_true_eq, List.all_eq_true] at h
  have : ∀ l : List Write, (∀ w ∈ l, okW w = true) → (wrs l).length ≤ l.length * 36 := by
    intro l
    induction l with
    | nil => intro _; simp [wrs]
    | cons w l ih =>
      intro hw
      have h1 := hw w (by simp)
      simp only [okW, decide_eq_true_eq] at h1
      have h2 := ih fun x hx => hw x (List.mem_cons_of_mem _ hx)
      have h3 : (wrs (w :: l)).length = (wr w).length + (wrs l).length := by simp [wrs]
      have h4 : (wr w).length = 4 + w.Key.length + w.Value.length := by simp [wr, be_length]; omega
      rw [h3, List.length_cons]; omega
  have h1 := this r.Writes h.2
  have h2 : (spelt r).length = 8 + (wrs r.Writes).length := by simp [spelt, be_length]; omega
  omega
theorem take_ok {s : List UInt8} {r : Record} (h : take s = some r) : okR r = true := by
  simp only [take] at h
  split at h
  · cases h
  · rename_i hn
    simp only [not_or, Bool.not_eq_false] at hn
    cases h
    exact hn.2.2
def sec (run n : Int) (i : Nat) (last : Bool) (p : List UInt8) : List UInt8 :=
  be 4 run ++ be 4 n ++ [byt (i / 256), byt i, (if last then 1 else 0), byt p.length] ++ p ++ List.replicate (20 - p.length) 0
def cnt (s : List UInt8) : Nat := (s.length + 19) / 20
def piece (s : List UInt8) (i : Nat) : List UInt8 := (s.drop (20 * i)).take 20
def cutK (run n : Int) (s : List UInt8) (k : Nat) : List (List UInt8) := (List.range k).map fun i => sec run n i (decide (i + 1 = cnt s)) (piece s i)
def cuts (run n : Int) (s : List UInt8) : List (List UInt8) := cutK run n s (cnt s)
theorem cutK_succ (run n : Int) (s : List UInt8) (k : Nat) : cutK run n s (k + 1) = cutK run n s k ++ [sec run n k (decide (k + 1 = cnt s)) (piece s k)] := by
  simp [cutK, List.range_succ]
theorem cuts_len (run n : Int) (s : List UInt8) : (cuts run n s).length = cnt s := by simp [cuts, cutK]
theorem cuts_get {run n : Int} {s : List UInt8} {i : Nat} (h : i < cnt s) : (cuts run n s)[i]? = some (sec run n i (decide (i + 1 = cnt s)) (piece s i)) := by
  simp [cuts, cutK, h]
theorem piece_len (s : List UInt8) (i : Nat) : (piece s i).length ≤ 20 := by simp [piece]; omega
theorem sec_len {run n : Int} {i : Nat} {b : Bool} {p : List UInt8} (h : p.length ≤ 20) : (sec run n i b p).length = 32 := by
  simp [sec, be_length]; omega
theorem cuts_32 {run n : Int} {s : List UInt8} : ∀ x ∈ cuts run n s, x.length = 32 := by
  intro x hx
  simp only [cuts, cutK, List.mem_map] at hx
  obtain ⟨i, _, rfl⟩ := hx
  exact sec_len (piece_len s i)
theorem sec10 {run n : Int} {i : Nat} {b : Bool} {p : List UInt8} : (sec run n i b p)[10]? = some (if b then 1 else 0) := by simp [sec, be4]
theorem sec11 {run n : Int} {i : Nat} {b : Bool} {p : List UInt8} : (sec run n i b p)[11]? = some (byt p.length) := by simp [sec, be4]
theorem sec12 {run n : Int} {i : Nat} {b : Bool} {p : List UInt8} : ((sec run n i b p).drop 12).take p.length = p := by simp [sec, be4]
theorem byt_len {p : List UInt8} (h : p.length ≤ 20) : (byt p.length).toNat = p.length := by
  have := byt_toNat p.length; omega
def whole (run n : Int) (L : List (List UInt8)) : List (List UInt8) → Nat → List UInt8 → Record × Nat
  | [], _, _ => (⟨0, []⟩, 0)
  | s :: ss, i, b =>
    if s.length ≠ 32 then (⟨0, []⟩, 0) else if 20 < (s[11]?.getD 0).toNat then (⟨0, []⟩, 0) else
    if s[10]?.getD 0 = 0 then whole run n L ss (i + 1) (b ++ (s.drop 12).take (s[11]?.getD 0).toNat) else
    match take (b ++ (s.drop 12).take (s[11]?.getD 0).toNat) with
    | some r => if cuts run n (spelt r) = L.take (i + 1) then (r, i + 1) else (⟨0, []⟩, 0)
    | none => (⟨0, []⟩, 0)
def whole1 (run n : Int) (L : List (List UInt8)) : Record × Nat := whole run n L L 0 []
theorem whole_le (run n : Int) (L : List (List UInt8)) : ∀ (l : List (List UInt8)) (i : Nat) (b : List UInt8), (whole run n L l i b).2 ≤ i + l.length
  | [], i, b => by simp [whole]
  | s :: ss, i, b => by
    unfold whole
    have := whole_le run n L ss (i + 1) (b ++ (s.drop 12).take (s[11]?.getD 0).toNat)
    rw [List.length_cons]
    split
    · simp
    split
    · simp
    split
    · omega
    split
    · split <;> simp
    · simp
theorem whole1_le (run n : Int) (L : List (List UInt8)) : (whole1 run n L).2 ≤ L.length := by
  have := whole_le run n L L 0 []; unfold whole1; omega
theorem whole_sound {run n : Int} {L : List (List UInt8)} {r : Record} {k : Nat} : ∀ {l : List (List UInt8)} {i : Nat} {b : List UInt8}, whole run n L l i b = (r, k) → k ≠ 0 → cuts run n (spelt r) = L.take k ∧ okR r = true
  | [], i, b, h, hk => by simp [whole] at h; omega
  | s :: ss, i, b, h, hk => by
    unfold whole at h
    split at h
    · cases h; exact absurd rfl hk
    split at h
    · cases h; exact absurd rfl hk
    split at h
    · exact whole_sound h hk
    split at h
    · rename_i r' ht
      split at h
      · rename_i hc; cases h; exact ⟨hc, take_ok ht⟩
      · cases h; exact absurd rfl hk
    · cases h; exact absurd rfl hk
theorem cnt_pos {r : Record} (h : okR r = true) : 0 < cnt (spelt r) ∧ cnt (spelt r) ≤ 151 := by
  have := okR_len h; unfold cnt; omega
theorem whole1_none {run n : Int} {L : List (List UInt8)} (h : ∀ (s : List UInt8) (k : Nat), 0 < cnt s → k = cnt s → k ≤ L.length → cuts run n s = L.take k → False) : (whole1 run n L).2 = 0 := by
  obtain ⟨⟨r, k⟩, hw⟩ : ∃ x, whole1 run n L = x := ⟨_, rfl⟩
  have hle := whole1_le run n L
  rw [hw] at hle ⊢
  refine Classical.byContradiction fun hk => ?_
  obtain ⟨hc, hr⟩ := whole_sound hw hk
  have h1 := congrArg List.length hc
  simp only at hle
  rw [cuts_len, List.length_take, Nat.min_eq_left hle] at h1
  exact h _ k (cnt_pos hr).1 h1.symm hle hc
theorem whole_cut {run n : Int} {r : Record} {S : List (List UInt8)} (hr : okR r = true) : ∀ (d i : Nat), i + d + 1 = cnt (spelt r) → whole run n (cuts run n (spelt r) ++ S) ((cuts run n (spelt r) ++ S).drop i) i ((spelt r).take (20 * i)) = (r, cnt (spelt r))
  | d, i, hd => by
    obtain ⟨s, hs⟩ : ∃ s, spelt r = s := ⟨_, rfl⟩
    have ht := take_spelt hr
    have ih := fun d' (h : d = d' + 1) => whole_cut (run := run) (n := n) (S := S) hr d' (i + 1) (by omega)
    rw [hs] at hd ht ih ⊢
    have hi : i < cnt s := by omega
    have hil : i < (cuts run n s ++ S).length := by rw [List.length_append, cuts_len]; omega
    have hg : (cuts run n s ++ S)[i] = sec run n i (decide (i + 1 = cnt s)) (piece s i) := by
      have := cuts_get (run := run) (n := n) hi
      rw [← List.getElem?_append_left (l₂ := S) (by rw [cuts_len]; exact hi), List.getElem?_eq_getElem hil] at this
      exact Option.some.inj this
    have hp := piece_len s i
    have hpt : s.take (20 * i) ++ piece s i = s.take (20 * (i + 1)) := by
      rw [piece, show 20 * (i + 1) = 20 * i + 20 by omega, List.take_add]
    rw [List.drop_eq_getElem_cons hil, hg, whole, if_neg (by rw [sec_len hp]; simp), sec11, Option.getD_some, byt_len hp, if_neg (by omega), sec10, Option.getD_some, sec12, hpt]
    by_cases hl : i + 1 = cnt s
    · have e : s.take (20 * (i + 1)) = s := List.take_of_length_le (by unfold cnt at hl; omega)
      simp only [hl, decide_true, if_true]
      rw [if_neg (by decide)]
      rw [hl] at e
      rw [e, ht]
      simp only
      rw [hs, if_pos (by rw [← cuts_len run n s, List.take_left])]
    · rw [decide_eq_false hl]
      simp only [Bool.false_eq_true, if_false, if_true]
      obtain ⟨d', rfl⟩ : ∃ d', d = d' + 1 := ⟨d - 1, by omega⟩
      exact ih d' rfl
theorem whole1_cut {run n : Int} {r : Record} {S : List (List UInt8)} (hr : okR r = true) : whole1 run n (cuts run n (spelt r) ++ S) = (r, cnt (spelt r)) := by
  have := whole_cut (run := run) (n := n) (S := S) hr (cnt (spelt r) - 1) 0 (by have := (cnt_pos hr).1; omega)
  simpa [whole1] using this
def runF (run : Int) (L : List (List UInt8)) : Nat → Int → Nat → List Record × Nat
  | 0, _, m => ([], m)
  | j + 1, n, m => if 1073741824 < n then ([], m) else
    let w := whole1 run n (L.drop m)
    if w.2 = 0 then ([], m) else (w.1 :: (runF run L j (n + 1) (m + w.2)).1, (runF run L j (n + 1) (m + w.2)).2)
def rd (run n : Int) (L : List (List UInt8)) : List Record × Nat := runF run L (L.length + 1) n 0
theorem runF_ub (run : Int) (L : List (List UInt8)) : ∀ (j : Nat) (n : Int) (m : Nat), m ≤ L.length → (runF run L j n m).2 ≤ L.length
  | 0, n, m, h => h
  | j + 1, n, m, h => by
    unfold runF
    split
    · exact h
    dsimp only
    split
    · exact h
    · have hle := whole1_le run n (L.drop m)
      rw [List.length_drop] at hle
      exact runF_ub run L j (n + 1) (m + (whole1 run n (L.drop m)).2) (by omega)
theorem rd_le (run n : Int) (L : List (List UInt8)) : (rd run n L).2 ≤ L.length := runF_ub run L _ n 0 (Nat.zero_le _)
theorem okR_smW {r : Record} (h : okR r = true) : smW r.Writes := by
  simp only [okR, Bool.and_eq_true, decide_eq_true_eq, List.all_eq_true] at h
  refine ⟨by omega, fun w hw => ?_⟩
  have := h.2 w hw
  simp only [okW, decide_eq_true_eq] at this
  omega
end Go.Mir.Q

set_option linter.unusedVariables false
set_option linter.unusedSimpArgs false
namespace Go.Mir.Q
open Go.Mir
structure Row where
  Key : List UInt8
  Value : List UInt8
deriving DecidableEq
abbrev Map := List (List Row)
structure Wal where
  Run : Int
  Slot : Int
  At : Int
  Seq : Int
deriving DecidableEq
def okRow (r : Row) : Bool := decide (1 ≤ r.Key.length ∧ r.Key.length ≤ 12 ∧ r.Value.length ≤ 20)
def rising : List Row → Bool
  | [] => true
  | [_] => true
  | a :: b :: l => Op.bytesLess a.Key b.Key && rising (b :: l)
def okRows (l : List Row) : Bool := l.all okRow && rising l
def okM (m : Map) : Bool := decide (m.length ≤ 3) && m.all okRows
def wrRow (t : Nat) (x : Row) : Write := ⟨t, x.Key, x.Value, false⟩
def imageF (t : Nat) : Map → List Write
  | [] => []
  | l :: m => l.map (wrRow t) ++ imageF (t + 1) m
def image (m : Map) : List Write := imageF 0 m
theorem image_ok : ∀ {m : Map} {t : Nat}, t + m.length ≤ 3 → m.all okRows = true → ∀ w ∈ imageF t m, okW w = true
  | [], t, _, _, w, hw => by simp [imageF] at hw
  | l :: m, t, ht, hm, w, hw => by
    simp only [List.all_cons, Bool.and_eq_true] at hm
    simp only [imageF, List.mem_append, List.mem_map] at hw
    simp only [List.length_cons] at ht
    rcases hw with ⟨x, hx, rfl⟩ | hw
    · have := hm.1
      simp only [okRows, Bool.and_eq_true, List.all_eq_true] at this
      have hx := this.1 x hx
      simp only [okRow, decide_eq_true_eq] at hx
      simp only [okW, wrRow, decide_eq_true_eq]
      refine ⟨by omega, by omega, ?_, by omega, by omega, by simp⟩
      intro h; rw [h] at hx; simp at hx
    · exact image_ok (by omega) hm.2 w hw
theorem image_okR {m : Map} (h : okM m = true) (h64 : (image m).length ≤ 64) : okR ⟨1, image m⟩ = true := by
  simp only [okM, Bool.and_eq_true, decide_eq_true_eq] at h
  simp only [okR, Bool.and_eq_true, decide_eq_true_eq, List.all_eq_true]
  exact ⟨⟨by omega, by omega, h64⟩, image_ok (by omega) h.2⟩
theorem okR_cnt {r : Record} (h : okR r = true) : cnt (spelt r) ≤ 116 := by
  simp only [okR, Bool.and_eq_true, decide_eq_true_eq, List.all_eq_true] at h
  have : ∀ l : List Write, (∀ w ∈ l, okW w = true) → (wrs l).length ≤ l.length * 36 := by
    intro l
    induction l with
    | nil => intro _; simp [wrs]
    | cons w l ih =>
      intro hw
      have h1 := hw w (by simp)
      simp only [okW, decide_eq_true_eq] at h1
      have h2 := ih fun x hx => hw x (List.mem_cons_of_mem _ hx)
      have h3 : (wrs (w :: l)).length = (wr w).length + (wrs l).length := by simp [wrs]
      have h4 : (wr w).length = 4 + w.Key.length + w.Value.length := by simp [wr, be_length]; omega
      rw [h3, List.length_cons]; omega
  have h1 := this r.Writes h.2
  have h2 : (spelt r).length = 8 + (wrs r.Writes).length := by simp [spelt, be_length]; omega
  unfold cnt; omega
def startS (slot : Int) : Nat := if slot = 0 then 1 else 128
def putsW (a : Nat) : List (List UInt8) → List Put
  | [] => []
  | s :: l => ⟨a, s⟩ :: putsW (a + 1) l
def putsD (a : Nat) (l : List (List UInt8)) : List Do := (putsW a l).map fun p => ⟨false, p⟩
def syncD : Do := ⟨true, ⟨0, []⟩⟩
def superS (run slot : Int) : List UInt8 := sec 0 run 0 true (spelt ⟨slot + 1, []⟩)
def layD (run slot : Int) (m : Map) : List Do := putsD (startS slot) (cuts run 0 (spelt ⟨1, image m⟩)) ++ syncD :: (putsD 0 [superS run slot] ++ [syncD])
theorem putsW_len : ∀ (l : List (List UInt8)) (a : Nat), (putsW a l).length = l.length
  | [], a => rfl
  | s :: l, a => by simp [putsW, putsW_len l]
theorem putsD_len (l : List (List UInt8)) (a : Nat) : (putsD a l).length = l.length := by simp [putsD, putsW_len]
theorem putsW_app : ∀ (l k : List (List UInt8)) (a : Nat), putsW a (l ++ k) = putsW a l ++ putsW (a + l.length) k
  | [], k, a => by simp [putsW]
  | s :: l, k, a => by
    simp only [List.cons_append, putsW, putsW_app l k (a + 1), List.length_cons]
    rw [show a + 1 + l.length = a + (l.length + 1) by omega]
theorem putsW_mem : ∀ {l : List (List UInt8)} {a : Nat} {p : Put}, p ∈ putsW a l → (a : Int) ≤ p.At ∧ p.At < ((a + l.length : Nat) : Int) ∧ p.Text ∈ l
  | [], a, p, h => by simp [putsW] at h
  | s :: l, a, p, h => by
    simp only [putsW, List.mem_cons] at h
    rcases h with rfl | h
    · simp; omega
    · have := putsW_mem h
      simp only [List.length_cons, List.mem_cons]
      exact ⟨by omega, by omega, .inr this.2.2⟩
theorem spelt_super (slot : Int) : (spelt ⟨slot + 1, []⟩).length = 8 := by simp [spelt, wrs, be_length]
theorem cuts_super (run slot : Int) : cuts 0 run (spelt ⟨slot + 1, []⟩) = [superS run slot] := by
  have h := spelt_super slot
  have hc : cnt (spelt ⟨slot + 1, []⟩) = 1 := by simp [cnt, h]
  have hp : piece (spelt ⟨slot + 1, []⟩) 0 = spelt ⟨slot + 1, []⟩ := by rw [piece, Nat.mul_zero, List.drop_zero, List.take_of_length_le (by omega)]
  simp [cuts, cutK, hc, superS, hp, List.range_succ]
theorem play_puts : ∀ (P : List Put) (S : List (List UInt8)) (W : List Put), (∀ p ∈ P, 0 ≤ p.At ∧ p.At < S.length ∧ p.Text.length = 32) → W.length + P.length ≤ 2048 → playT ⟨S, W⟩ (P.map fun p => ⟨false, p⟩) = (0, ⟨S, W ++ P⟩)
  | [], S, W, _, _ => by simp [playT]
  | p :: P, S, W, h, hl => by
    have h1 := h p (by simp)
    simp only [List.length_cons] at hl
    have := step_ok (T := ⟨S, W⟩) (d := ⟨false, p⟩) rfl ⟨h1.1, h1.2.1⟩ h1.2.2 (by simp only; omega)
    simp only [List.map_cons, playT, this, if_true]
    rw [play_puts P S (W ++ [p]) (fun q hq => h q (by simp [hq])) (by simp; omega)]
    simp
theorem play_sync (S : List (List UInt8)) (W : List Put) : playT ⟨S, W⟩ [syncD] = (0, ⟨flush S W, []⟩) := by simp [playT, stepT, syncD]
def over (S : List (List UInt8)) (a : Nat) (l : List (List UInt8)) : List (List UInt8) := flush S (putsW a l)
theorem over_length (S l : List (List UInt8)) (a : Nat) : (over S a l).length = S.length := flush_length _ _
theorem put1_get (S : List (List UInt8)) (a : Nat) (s : List UInt8) (i : Nat) : (put1 S ⟨a, s⟩)[i]? = if i = a ∧ a < S.length then some s else S[i]? := by
  simp only [put1, Int.toNat_natCast, List.getElem?_set]
  by_cases h : a = i
  · subst h
    by_cases h2 : a < S.length
    · simp [h2]
    · simp [h2]
  · rw [if_neg h, if_neg (by omega)]
theorem over_get : ∀ (l S : List (List UInt8)) (a i : Nat), a + l.length ≤ S.length → (over S a l)[i]? = if a ≤ i ∧ i < a + l.length then l[i - a]? else S[i]?
  | [], S, a, i, h => by
    rw [if_neg (by simp)]; rfl
  | s :: l, S, a, i, h => by
    simp only [List.length_cons] at h
    have h1 : over S a (s :: l) = over (put1 S ⟨a, s⟩) (a + 1) l := rfl
    rw [h1, over_get l _ (a + 1) i (by rw [put1_length]; omega), put1_get]
    simp only [List.length_cons]
    by_cases h2 : a + 1 ≤ i ∧ i < a + 1 + l.length
    · rw [if_pos h2, if_pos (by omega)]
      obtain ⟨j, rfl⟩ : ∃ j, i = j + (a + 1) := ⟨i - (a + 1), by omega⟩
      rw [Nat.add_sub_cancel, show j + (a + 1) - a = j + 1 by omega, List.getElem?_cons_succ]
    · rw [if_neg h2]
      by_cases h3 : i = a
      · subst h3
        rw [if_pos ⟨rfl, by omega⟩, if_pos (by omega), Nat.sub_self, List.getElem?_cons_zero]
      · rw [if_neg (fun h => h3 h.1), if_neg (by omega)]
theorem over_eq (l S : List (List UInt8)) (a : Nat) (h : a + l.length ≤ S.length) : over S a l = S.take a ++ l ++ S.drop (a + l.length) := by
  apply List.ext_getElem?
  intro i
  rw [over_get l S a i h]
  have hta : (S.take a).length = a := by rw [List.length_take]; omega
  by_cases h1 : i < a
  · rw [if_neg (by omega), List.append_assoc, List.getElem?_append_left (by omega), List.getElem?_take, if_pos h1]
  · by_cases h2 : i < a + l.length
    · rw [if_pos ⟨by omega, h2⟩, List.append_assoc, List.getElem?_append_right (by omega), hta, List.getElem?_append_left (by omega)]
    · rw [if_neg (by omega), List.getElem?_append_right (by rw [List.length_append, hta]; omega), List.length_append, hta, List.getElem?_drop]
      congr 1; omega
def runOf (s : List UInt8) : Int := num ((s.drop 4).take 4)
def turnT (s : List UInt8) : Option (Int × Int) :=
  if 1 ≤ runOf s ∧ runOf s < 1073741824 then (if s = superS (runOf s) 1 then some (runOf s, 1) else if s = superS (runOf s) 0 then some (runOf s, 0) else none) else none
def groupT (tables : Nat) (ws : List Write) : Map := (List.range tables).map fun t : Nat => (ws.filter fun w => decide (w.Table = (t : Int))).map fun w => ⟨w.Key, w.Value⟩
def rowsT (tables : Nat) (r : Record) : Option Map :=
  if r.Commit = 1 ∧ (∀ w ∈ r.Writes, w.Table < tables ∧ w.Gone = false) ∧ okM (groupT tables r.Writes) = true ∧ image (groupT tables r.Writes) = r.Writes then some (groupT tables r.Writes) else none
def seg (S : List (List UInt8)) (slot : Int) : List (List UInt8) := (S.drop (startS slot)).take 127
def openT (S : List (List UInt8)) (tables : Nat) : Option (Map × List Record × Wal) :=
  match turnT (S[0]?.getD []) with
  | none => none
  | some (run, slot) =>
    if (whole1 run 0 (seg S slot)).2 = 0 then none else
    match rowsT tables (whole1 run 0 (seg S slot)).1 with
    | none => none
    | some m => some (m, (rd run 1 (S.drop 255)).1, ⟨run, slot, 255 + ((rd run 1 (S.drop 255)).2 : Nat), 1 + ((rd run 1 (S.drop 255)).1.length : Nat)⟩)
theorem sec_run {run n : Int} {i : Nat} {b : Bool} {p : List UInt8} : ((sec run n i b p).drop 4).take 4 = be 4 n := by
  simp [sec, be4]
theorem sec_run0 {run n : Int} {i : Nat} {b : Bool} {p : List UInt8} : (sec run n i b p).take 4 = be 4 run := by
  simp [sec, be4]
theorem runOf_super {run slot : Int} (h0 : 0 ≤ run) (h1 : run < 4294967296) : runOf (superS run slot) = run := by
  rw [runOf, superS, sec_run, num_be4 h0 h1]
theorem super_ne (run run' : Int) : superS run 0 ≠ superS run' 1 := by
  intro h
  have h1 := congrArg (fun s => s.drop 12) h
  simp [superS, sec, be4, spelt, wrs] at h1
  revert h1
  decide
theorem turnT_super {run slot : Int} (h0 : 1 ≤ run) (h1 : run < 1073741824) (hs : slot = 0 ∨ slot = 1) : turnT (superS run slot) = some (run, slot) := by
  have h := runOf_super (run := run) (slot := slot) (by omega) (by omega)
  simp only [turnT, h]
  rw [if_pos ⟨h0, h1⟩]
  rcases hs with rfl | rfl
  · rw [if_neg (super_ne run run), if_pos rfl]
  · rw [if_pos rfl]
theorem map_row_wr (t : Nat) (l : List Row) : (l.map (wrRow t)).map (fun w => (⟨w.Key, w.Value⟩ : Row)) = l := by
  rw [List.map_map]
  conv => rhs; rw [← List.map_id l]
  exact List.map_congr_left fun x _ => rfl
theorem image_tables : ∀ {m : Map} {t : Nat} {w : Write}, w ∈ imageF t m → (t : Int) ≤ w.Table ∧ w.Table < ((t + m.length : Nat) : Int) ∧ w.Gone = false
  | [], t, w, h => by simp [imageF] at h
  | l :: m, t, w, h => by
    simp only [imageF, List.mem_append, List.mem_map] at h
    simp only [List.length_cons]
    rcases h with ⟨x, _, rfl⟩ | h
    · simp only [wrRow]; exact ⟨by omega, by omega, trivial⟩
    · have := image_tables h; exact ⟨by omega, by omega, this.2.2⟩
theorem filter_image : ∀ (m : Map) (t : Nat) (i : Nat), i < m.length → (imageF t m).filter (fun w => decide (w.Table = ((t + i : Nat) : Int))) = (m[i]?.getD []).map (wrRow (t + i))
  | [], t, i, h => by simp at h
  | l :: m, t, i, h => by
    simp only [imageF, List.filter_append]
    cases i with
    | zero =>
      have h1 : (l.map (wrRow t)).filter (fun w => decide (w.Table = ((t + 0 : Nat) : Int))) = l.map (wrRow t) := by
        rw [List.filter_eq_self]; intro w hw
        obtain ⟨x, _, rfl⟩ := List.mem_map.1 hw; simp [wrRow]
      have h2 : (imageF (t + 1) m).filter (fun w => decide (w.Table = ((t + 0 : Nat) : Int))) = [] := by
        rw [List.filter_eq_nil_iff]; intro w hw
        have := image_tables hw; simp; omega
      rw [h1, h2]; simp
    | succ i =>
      have h1 : (l.map (wrRow t)).filter (fun w => decide (w.Table = ((t + (i + 1) : Nat) : Int))) = [] := by
        rw [List.filter_eq_nil_iff]; intro w hw
        obtain ⟨x, _, rfl⟩ := List.mem_map.1 hw; exact fun hh => by have := of_decide_eq_true hh; simp only [wrRow] at this; omega
      have h2 := filter_image m (t + 1) i (Nat.lt_of_succ_lt_succ h)
      rw [show t + 1 + i = t + (i + 1) by omega] at h2
      rw [h1, h2]; simp
theorem group_image (m : Map) : groupT m.length (image m) = m := by
  apply List.ext_getElem?
  intro i
  simp only [groupT, List.getElem?_map]
  by_cases h : i < m.length
  · have := filter_image m 0 i h
    rw [Nat.zero_add] at this
    rw [List.getElem?_range h, Option.map_some]
    simp only [image]
    rw [this, map_row_wr, List.getElem?_eq_getElem h, Option.getD_some]
  · rw [List.getElem?_eq_none (by simp; omega), List.getElem?_eq_none (by omega)]; rfl
theorem rowsT_image {m : Map} (hm : okM m = true) : rowsT m.length ⟨1, image m⟩ = some m := by
  have hg := group_image m
  have ha : ∀ w ∈ image m, w.Table < m.length ∧ w.Gone = false := fun w hw => by
    have := image_tables hw
    exact ⟨by omega, this.2.2⟩
  unfold rowsT
  rw [hg, if_pos ⟨rfl, ha, hm, rfl⟩]
theorem open_std {S : List (List UInt8)} {run slot : Int} {m : Map} (h0 : 1 ≤ run) (h1 : run < 1073741824) (hs : slot = 0 ∨ slot = 1) (hm : okM m = true) (h64 : (image m).length ≤ 64)
    (hS0 : S[0]? = some (superS run slot)) (hseg : ∃ R, S.drop (startS slot) = cuts run 0 (spelt ⟨1, image m⟩) ++ R) :
    openT S m.length = some (m, (rd run 1 (S.drop 255)).1, ⟨run, slot, 255 + ((rd run 1 (S.drop 255)).2 : Nat), 1 + ((rd run 1 (S.drop 255)).1.length : Nat)⟩) := by
  obtain ⟨R, hR⟩ := hseg
  have hr := image_okR hm h64
  have hc := okR_cnt hr
  have hp := (cnt_pos hr).1
  have hg : seg S slot = cuts run 0 (spelt ⟨1, image m⟩) ++ R.take (127 - cnt (spelt ⟨1, image m⟩)) := by
    rw [seg, hR, List.take_append, cuts_len, List.take_of_length_le (by rw [cuts_len]; omega)]
  simp only [openT, hS0, Option.getD_some, turnT_super h0 h1 hs, hg, whole1_cut hr]
  rw [if_neg (by omega)]
  simp only [rowsT_image hm]
def catR (run n : Int) : List Record → List (List UInt8)
  | [] => []
  | r :: rs => cuts run n (spelt r) ++ catR run (n + 1) rs
theorem catR_snoc (run : Int) (r : Record) : ∀ (rs : List Record) (n : Int), catR run n (rs ++ [r]) = catR run n rs ++ cuts run (n + rs.length) (spelt r)
  | [], n => by simp [catR]
  | x :: rs, n => by
    have := catR_snoc run r rs (n + 1)
    simp only [List.cons_append, catR, this, List.append_assoc, List.length_cons]
    rw [show n + 1 + (rs.length : Int) = n + ((rs.length + 1 : Nat) : Int) by omega]
theorem catR_len (run : Int) : ∀ (rs : List Record) (n : Int), (∀ r ∈ rs, okR r = true) → rs.length ≤ (catR run n rs).length
  | [], n, _ => by simp [catR]
  | r :: rs, n, h => by
    have h1 := cnt_pos (h r (by simp))
    have h2 := catR_len run rs (n + 1) fun x hx => h x (List.mem_cons_of_mem _ hx)
    simp only [catR, List.length_append, cuts_len, List.length_cons]; omega
theorem runF_catR {run : Int} {L T : List (List UInt8)} : ∀ (rs : List Record) (n : Int) (m j : Nat), (whole1 run (n + rs.length) T).2 = 0 → (∀ r ∈ rs, okR r = true) → rs.length < j → n + rs.length ≤ 1073741824 → L.drop m = catR run n rs ++ T → runF run L j n m = (rs, m + (catR run n rs).length)
  | [], n, m, j, hT, _, hj, hn, hL => by
    obtain ⟨k, rfl⟩ : ∃ k, j = k + 1 := ⟨j - 1, by simp at hj; omega⟩
    simp only [List.length_nil] at hT hn
    rw [runF, if_neg (by omega), hL]
    rw [show n + ((0 : Nat) : Int) = n by omega] at hT
    simp only [catR, List.nil_append, hT]
    rfl
  | r :: rs, n, m, j, hT, hok, hj, hn, hL => by
    simp only [List.length_cons] at hj hn hT
    obtain ⟨k, rfl⟩ : ∃ k, j = k + 1 := ⟨j - 1, by omega⟩
    have hr := hok r (by simp)
    have h0 := (cnt_pos hr).1
    rw [catR, List.append_assoc] at hL
    rw [runF, if_neg (by omega), hL]
    simp only [whole1_cut hr]
    rw [if_neg (by omega)]
    have ih := runF_catR (L := L) (T := T) rs (n + 1) (m + cnt (spelt r)) k (by rw [show n + 1 + (rs.length : Int) = n + ((rs.length + 1 : Nat) : Int) by omega]; exact hT) (fun x hx => hok x (List.mem_cons_of_mem _ hx)) (by omega) (by omega) (by
      rw [← List.drop_drop, hL, ← cuts_len run n, List.drop_left])
    rw [ih]
    simp only [catR, List.length_append, cuts_len, Nat.add_assoc]
theorem rd_catR {run n : Int} {rs : List Record} {T : List (List UInt8)} (hT : (whole1 run (n + rs.length) T).2 = 0) (hok : ∀ r ∈ rs, okR r = true) (hn : n + rs.length ≤ 1073741824) : rd run n (catR run n rs ++ T) = (rs, (catR run n rs).length) := by
  have h1 := catR_len run rs n hok
  have := runF_catR (L := catR run n rs ++ T) (T := T) rs n 0 ((catR run n rs ++ T).length + 1) hT hok (by rw [List.length_append]; omega) hn rfl
  rw [rd, this]; simp
theorem none_clean {run n : Int} {T : List (List UInt8)} (h : ∀ s, T[0]? = some s → s.take 4 ≠ be 4 run) : (whole1 run n T).2 = 0 := by
  refine whole1_none fun s k h0 hk hl he => ?_
  have h1 := congrArg (·[0]?) he
  simp only [List.getElem?_take] at h1
  rw [if_pos (by omega), cuts_get h0] at h1
  exact h _ h1.symm sec_run0
theorem be4_inj {a b : Int} (h0 : 0 ≤ a) (h1 : a < 4294967296) (h2 : 0 ≤ b) (h3 : b < 4294967296) (h : be 4 a = be 4 b) : a = b := by
  rw [← num_be4 h0 h1, ← num_be4 h2 h3, h]
theorem zeros_run {run : Int} (h0 : 1 ≤ run) (h1 : run < 4294967296) : zeros.take 4 ≠ be 4 run := by
  intro h
  have := be4_inj (a := 0) (b := run) (by omega) (by omega) (by omega) h1 (by rw [← h]; decide)
  omega
end Go.Mir.Q

set_option linter.unusedVariables false
set_option linter.unusedSimpArgs false
namespace Go.Mir.Q
open Go.Mir
theorem drop_get (S : List (List UInt8)) (a i : Nat) : (S.drop a)[i]? = S[a + i]? := by rw [List.getElem?_drop]
theorem over_drop {S l : List (List UInt8)} {a b : Nat} (h : a + l.length ≤ S.length) (hb : a + l.length ≤ b) : (over S a l).drop b = S.drop b := by
  apply List.ext_getElem?
  intro i
  rw [drop_get, drop_get, over_get l S a _ h, if_neg (by omega)]
theorem over_drop_self {S l : List (List UInt8)} {a : Nat} (h : a + l.length ≤ S.length) : (over S a l).drop a = l ++ S.drop (a + l.length) := by
  rw [over_eq l S a h, List.append_assoc, List.drop_append, List.length_take, Nat.min_eq_left (by omega), List.drop_of_length_le (by rw [List.length_take]; omega)]
  simp
theorem over_below {S l : List (List UInt8)} {a b n : Nat} (h : a + l.length ≤ S.length) (hb : b + n ≤ a) : ((over S a l).drop b).take n = (S.drop b).take n := by
  apply List.ext_getElem?
  intro i
  rw [List.getElem?_take, List.getElem?_take]
  split
  · rw [drop_get, drop_get, over_get l S a _ h, if_neg (by omega)]
  · rfl
theorem over_zero {S l : List (List UInt8)} {a : Nat} (h : a + l.length ≤ S.length) (ha : 1 ≤ a) : (over S a l)[0]? = S[0]? := by
  rw [over_get l S a _ h, if_neg (by omega)]
theorem prefix_take {α : Type} {A L : List α} : (∃ R, L = A ++ R) ↔ L.take A.length = A := by
  constructor
  · rintro ⟨R, rfl⟩; rw [List.take_left]
  · intro h; exact ⟨L.drop A.length, by conv => lhs; rw [← List.take_append_drop A.length L, h]⟩
def all32 (S : List (List UInt8)) : Prop := ∀ s ∈ S, s.length = 32
theorem all32_get {S : List (List UInt8)} : all32 S ↔ ∀ (i : Nat) (s : List UInt8), S[i]? = some s → s.length = 32 :=
  ⟨fun h i s hs => h s (List.mem_of_getElem? hs), fun h s hs => by obtain ⟨i, hi, rfl⟩ := List.mem_iff_getElem.1 hs; exact h i _ (List.getElem?_eq_getElem hi)⟩
theorem over_32 {S l : List (List UInt8)} {a : Nat} (h : a + l.length ≤ S.length) (hS : all32 S) (hl : all32 l) : all32 (over S a l) := by
  rw [all32_get] at *
  intro i s hs
  rw [over_get l S a i h] at hs
  split at hs
  · exact hl _ s hs
  · exact hS _ s hs
theorem super_32 (run slot : Int) : (superS run slot).length = 32 := sec_len (by rw [spelt_super]; omega)
structure Laid (S : List (List UInt8)) (w : Wal) (m : Map) (recs : List Record) : Prop where
  len : S.length = 512
  a32 : all32 S
  run : 1 ≤ w.Run ∧ w.Run < 1073741824
  slot : w.Slot = 0 ∨ w.Slot = 1
  okm : okM m = true
  l64 : (image m).length ≤ 64
  zero : S[0]? = some (superS w.Run w.Slot)
  seg : (S.drop (startS w.Slot)).take (cnt (spelt ⟨1, image m⟩)) = cuts w.Run 0 (spelt ⟨1, image m⟩)
  okr : ∀ r ∈ recs, okR r = true
  log : ∃ T, S.drop 255 = catR w.Run 1 recs ++ T ∧ ∀ s ∈ T, s = zeros
  at_ : w.At = 255 + ((catR w.Run 1 recs).length : Nat)
  seq : w.Seq = 1 + (recs.length : Nat)
theorem clean_zeros {run : Int} {T : List (List UInt8)} (h0 : 1 ≤ run) (h1 : run < 1073741824) (h : ∀ s ∈ T, s = zeros) {n : Int} : (whole1 run n T).2 = 0 :=
  none_clean fun s hs => by rw [h s (List.mem_of_getElem? hs)]; exact zeros_run h0 (by omega)
theorem Laid.few {S : List (List UInt8)} {w : Wal} {m : Map} {recs : List Record} (h : Laid S w m recs) : (catR w.Run 1 recs).length ≤ 257 ∧ recs.length ≤ 257 := by
  obtain ⟨T, hT, _⟩ := h.log
  have h1 := congrArg List.length hT
  rw [List.length_drop, h.len, List.length_append] at h1
  have h2 := catR_len w.Run recs 1 h.okr
  omega
theorem Laid.open {S : List (List UInt8)} {w : Wal} {m : Map} {recs : List Record} (h : Laid S w m recs) : openT S m.length = some (m, recs, w) := by
  obtain ⟨T, hT, hz⟩ := h.log
  have hf := h.few
  have hs := open_std h.run.1 h.run.2 h.slot h.okm h.l64 h.zero (prefix_take.2 (by rw [cuts_len]; exact h.seg))
  have hr := rd_catR (run := w.Run) (n := 1) (rs := recs) (T := T) (clean_zeros h.run.1 h.run.2 hz) h.okr (by omega)
  rw [hs, hT, hr]
  obtain ⟨a, b, c, d⟩ := w
  have h1 := h.at_
  have h2 := h.seq
  simp only at h1 h2 ⊢
  rw [h1, h2]
def layS (S : List (List UInt8)) (run slot : Int) (m : Map) : List (List UInt8) := over (over S (startS slot) (cuts run 0 (spelt ⟨1, image m⟩))) 0 [superS run slot]
theorem startS_le {slot : Int} : 1 ≤ startS slot ∧ startS slot ≤ 128 := by unfold startS; split <;> omega
theorem puts_ok {S : List (List UInt8)} {l : List (List UInt8)} {a : Nat} (h : a + l.length ≤ S.length) (hl : all32 l) : ∀ p ∈ putsW a l, 0 ≤ p.At ∧ p.At < S.length ∧ p.Text.length = 32 := fun p hp => by
  have := putsW_mem hp
  exact ⟨by omega, by omega, hl _ this.2.2⟩
theorem play_over {S l : List (List UInt8)} {a : Nat} (h : a + l.length ≤ S.length) (hl : all32 l) (hk : l.length ≤ 2048) : playT ⟨S, []⟩ (putsD a l ++ [syncD]) = (0, ⟨over S a l, []⟩) := by
  have h1 := play_puts (putsW a l) S [] (puts_ok h hl) (by rw [putsW_len]; simpa using hk)
  have h2 : playT ⟨S, []⟩ (putsD a l) = (0, ⟨S, putsW a l⟩) := by simpa [putsD] using h1
  rw [playT_app (by rw [h2]), h2]
  exact play_sync _ _
theorem play_lay {S : List (List UInt8)} {run slot : Int} {m : Map} (hS : S.length = 512) (hm : okM m = true) (h64 : (image m).length ≤ 64) : playT ⟨S, []⟩ (layD run slot m) = (0, ⟨layS S run slot m, []⟩) := by
  have hc := okR_cnt (image_okR hm h64)
  have hst := startS_le (slot := slot)
  have e : layD run slot m = (putsD (startS slot) (cuts run 0 (spelt ⟨1, image m⟩)) ++ [syncD]) ++ (putsD 0 [superS run slot] ++ [syncD]) := by simp [layD]
  have h1 := play_over (S := S) (l := cuts run 0 (spelt ⟨1, image m⟩)) (a := startS slot) (by rw [cuts_len]; omega) cuts_32 (by rw [cuts_len]; omega)
  have h2 := play_over (S := over S (startS slot) (cuts run 0 (spelt ⟨1, image m⟩))) (l := [superS run slot]) (a := 0) (by rw [over_length]; simp; omega) (fun s hs => by rw [List.mem_singleton.1 hs]; exact super_32 _ _) (by simp)
  rw [e, playT_app (by rw [h1]), h1]
  exact h2
theorem Laid.lay {S : List (List UInt8)} {run slot : Int} {m : Map} (hS : S.length = 512) (h32 : all32 S) (h0 : 1 ≤ run) (h1 : run < 1073741824) (hs : slot = 0 ∨ slot = 1) (hm : okM m = true) (h64 : (image m).length ≤ 64) (hz : ∀ s ∈ S.drop 255, s = zeros) :
    Laid (layS S run slot m) ⟨run, slot, 255, 1⟩ m [] := by
  have hc := okR_cnt (image_okR hm h64)
  have hst := startS_le (slot := slot)
  have b1 : startS slot + (cuts run 0 (spelt ⟨1, image m⟩)).length ≤ S.length := by rw [cuts_len]; omega
  have b2 : 0 + [superS run slot].length ≤ (over S (startS slot) (cuts run 0 (spelt ⟨1, image m⟩))).length := by rw [over_length]; simp; omega
  have d1 : ∀ b, 1 ≤ b → (layS S run slot m).drop b = (over S (startS slot) (cuts run 0 (spelt ⟨1, image m⟩))).drop b := fun b hb => over_drop b2 (by simpa using hb)
  refine ⟨by simp [layS, over_length, hS], over_32 b2 (over_32 b1 h32 cuts_32) (fun s hs => by rw [List.mem_singleton.1 hs]; exact super_32 _ _), ⟨h0, h1⟩, hs, hm, h64, ?_, ?_, by simp, ⟨S.drop 255, ?_, hz⟩, by simp [catR], by simp⟩
  · rw [layS, over_get _ _ _ _ b2]; simp
  · rw [d1 _ hst.1, over_drop_self b1, List.take_append, cuts_len, Nat.sub_self, List.take_of_length_le (by rw [cuts_len]; exact Nat.le_refl _)]; simp
  · rw [d1 _ (by omega), over_drop b1 (by rw [cuts_len]; omega)]; simp [catR]
theorem Laid.add {S : List (List UInt8)} {w : Wal} {m : Map} {recs : List Record} (h : Laid S w m recs) {r : Record} (hr : okR r = true) (hfit : w.At + (cnt (spelt r) : Nat) ≤ 512) :
    Laid (over S w.At.toNat (cuts w.Run w.Seq (spelt r))) ⟨w.Run, w.Slot, w.At + (cnt (spelt r) : Nat), w.Seq + 1⟩ m (recs ++ [r]) := by
  obtain ⟨T, hT, hz⟩ := h.log
  have hat := h.at_
  have hw : w.At.toNat = 255 + (catR w.Run 1 recs).length := by omega
  have hc := okR_cnt (image_okR h.okm h.l64)
  have hst := startS_le (slot := w.Slot)
  have b1 : w.At.toNat + (cuts w.Run w.Seq (spelt r)).length ≤ S.length := by rw [cuts_len, h.len]; omega
  refine ⟨by rw [over_length]; exact h.len, over_32 b1 h.a32 cuts_32, h.run, h.slot, h.okm, h.l64, ?_, ?_, ?_, ?_, ?_, ?_⟩
  · rw [over_zero b1 (by omega)]; exact h.zero
  · rw [over_below b1 (by rw [hw]; simp only; omega)]; exact h.seg
  · intro x hx
    rcases List.mem_append.1 hx with hx | hx
    · exact h.okr x hx
    · rw [List.mem_singleton.1 hx]; exact hr
  · have hTl := congrArg List.length hT
    rw [List.length_drop, h.len, List.length_append] at hTl
    refine ⟨T.drop (cnt (spelt r)), ?_, fun s hs => hz s (List.mem_of_mem_drop hs)⟩
    have e1 : (over S w.At.toNat (cuts w.Run w.Seq (spelt r))).drop 255 = (S.drop 255).take (catR w.Run 1 recs).length ++ (over S w.At.toNat (cuts w.Run w.Seq (spelt r))).drop w.At.toNat := by
      rw [hw]
      rw [← List.drop_drop]
      conv => lhs; rw [← List.take_append_drop (catR w.Run 1 recs).length ((over S (255 + (catR w.Run 1 recs).length) (cuts w.Run w.Seq (spelt r))).drop 255)]
      rw [over_below (by rw [← hw]; exact b1) (Nat.le_refl _)]
    rw [e1, over_drop_self b1, hT, List.take_left, catR_snoc, List.append_assoc]
    congr 1
    have : (1 : Int) + (recs.length : Nat) = w.Seq := h.seq.symm
    rw [this]
    congr 1
    rw [cuts_len, hw, show 255 + (catR w.Run 1 recs).length + cnt (spelt r) = 255 + ((catR w.Run 1 recs).length + cnt (spelt r)) by omega, ← List.drop_drop, hT, List.drop_append, List.drop_of_length_le (by omega)]
    simp
  · have : (1 : Int) + (recs.length : Nat) = w.Seq := h.seq.symm
    rw [catR_snoc, List.length_append, this, cuts_len]
    simp only; omega
  · have := h.seq
    simp only [List.length_append, List.length_singleton]; omega
end Go.Mir.Q

set_option linter.unusedVariables false
set_option linter.unusedSimpArgs false
namespace Go.Mir.Q
open Go.Mir
end Go.Mir.Q

set_option linter.unusedVariables false
set_option linter.unusedSimpArgs false
namespace Go.Mir.Q
open Go.Mir
theorem okR_super {slot : Int} (h : slot = 0 ∨ slot = 1) : okR ⟨slot + 1, []⟩ = true := by rcases h with rfl | rfl <;> decide
theorem turn_eq {s : List UInt8} (h0 : 1 ≤ runOf s) (h1 : runOf s < 1073741824) :
    turnT s = if (whole1 0 (runOf s) [s]).2 = 1 ∧ (whole1 0 (runOf s) [s]).1.Writes = [] ∧ ((whole1 0 (runOf s) [s]).1.Commit - 1 = 0 ∨ (whole1 0 (runOf s) [s]).1.Commit - 1 = 1) then some (runOf s, (whole1 0 (runOf s) [s]).1.Commit - 1) else none := by
  have key : ∀ slot : Int, (slot = 0 ∨ slot = 1) → s = superS (runOf s) slot → whole1 0 (runOf s) [s] = (⟨slot + 1, []⟩, 1) := fun slot hs he => by
    have h := whole1_cut (run := 0) (n := runOf s) (r := ⟨slot + 1, []⟩) (S := []) (okR_super hs)
    rw [cuts_super, List.append_nil, ← he] at h
    rw [h]
    congr 1
    simp [cnt, spelt_super]
  by_cases hs1 : s = superS (runOf s) 1
  · have h := key 1 (.inr rfl) hs1
    rw [h]
    simp only [turnT]
    rw [if_pos ⟨h0, h1⟩, if_pos hs1]
    simp
  by_cases hs0 : s = superS (runOf s) 0
  · have h := key 0 (.inl rfl) hs0
    rw [h]
    simp only [turnT]
    rw [if_pos ⟨h0, h1⟩, if_neg hs1, if_pos hs0]
    simp
  · rw [if_neg]
    · simp only [turnT]
      rw [if_pos ⟨h0, h1⟩, if_neg hs1, if_neg hs0]
    · rintro ⟨g1, g2, g3⟩
      obtain ⟨⟨⟨c, ws⟩, k⟩, hw⟩ : ∃ x, whole1 0 (runOf s) [s] = x := ⟨_, rfl⟩
      rw [hw] at g1 g2 g3
      simp only at g1 g2 g3
      subst g1 g2
      obtain ⟨hc, _⟩ := whole_sound hw (by omega)
      rcases g3 with g | g
      · obtain rfl : c = 0 + 1 := by omega
        rw [cuts_super] at hc
        simp only [List.take_succ_cons, List.take_zero, List.cons.injEq, and_true] at hc
        exact hs0 hc.symm
      · obtain rfl : c = 1 + 1 := by omega
        rw [cuts_super] at hc
        simp only [List.take_succ_cons, List.take_zero, List.cons.injEq, and_true] at hc
        exact hs1 hc.symm
def goodP (tables : Nat) : Int → List Write → Bool
  | _, [] => true
  | last, w :: ws => decide (w.Table < tables ∧ last ≤ w.Table ∧ w.Gone = false) && goodP tables w.Table ws
theorem goodP_snoc {tables : Nat} {w : Write} : ∀ {ws : List Write} {last : Int}, goodP tables last (ws ++ [w]) = (goodP tables last ws && decide (w.Table < tables ∧ ((ws.getLast?.map (·.Table)).getD last) ≤ w.Table ∧ w.Gone = false))
  | [], last => by
    cases h : w.Gone <;> by_cases h1 : w.Table < (tables : Int) <;> by_cases h2 : last ≤ w.Table <;> simp [goodP, *]
  | x :: ws, last => by
    simp only [List.cons_append, goodP, goodP_snoc, Bool.and_assoc]
    cases ws with
    | nil => rfl
    | cons y ws =>
      rw [List.getLast?_cons_cons]
      obtain ⟨z, hz⟩ : ∃ z, (y :: ws).getLast? = some z := ⟨_, List.getLast?_eq_some_getLast (by simp)⟩
      rw [hz]; rfl
theorem goodP_iff {tables : Nat} : ∀ {ws : List Write} {last : Int}, goodP tables last ws = true ↔ (∀ w ∈ ws, w.Table < tables ∧ w.Gone = false ∧ last ≤ w.Table) ∧ ws.Pairwise (fun a b => a.Table ≤ b.Table)
  | [], last => by simp [goodP]
  | w :: ws, last => by
    simp only [goodP, Bool.and_eq_true, decide_eq_true_eq, goodP_iff, List.pairwise_cons, List.mem_cons]
    constructor
    · rintro ⟨⟨h1, h2, h3⟩, h4, h5⟩
      exact ⟨fun x hx => by rcases hx with rfl | hx; exact ⟨h1, h3, h2⟩; have := h4 x hx; exact ⟨this.1, this.2.1, by omega⟩, fun x hx => (h4 x hx).2.2, h5⟩
    · rintro ⟨h1, h2, h3⟩
      have hw := h1 w (.inl rfl)
      exact ⟨⟨hw.1, hw.2.2, hw.2.1⟩, fun x hx => ⟨(h1 x (.inr hx)).1, (h1 x (.inr hx)).2.1, h2 x hx⟩, h3⟩
theorem split_first {t : Int} : ∀ {ws : List Write}, ws.Pairwise (fun a b => a.Table ≤ b.Table) → (∀ w ∈ ws, t ≤ w.Table) → ws = ws.filter (fun w => decide (w.Table = t)) ++ ws.filter (fun w => decide (w.Table ≠ t))
  | [], _, _ => rfl
  | w :: ws, hp, ht => by
    rw [List.pairwise_cons] at hp
    have ih := split_first (t := t) hp.2 (fun x hx => ht x (by simp [hx]))
    by_cases h : w.Table = t
    · rw [List.filter_cons_of_pos (by simp [h]), List.filter_cons_of_neg (by simp [h]), List.cons_append, ← ih]
    · have hw := ht w (by simp)
      have h1 : (w :: ws).filter (fun w => decide (w.Table = t)) = [] := by
        rw [List.filter_eq_nil_iff]
        intro x hx hh
        have hh := of_decide_eq_true hh
        rcases List.mem_cons.1 hx with rfl | hx
        · exact h hh
        · have := hp.1 x hx; omega
      have h2 : (w :: ws).filter (fun w => decide (w.Table ≠ t)) = w :: ws := by
        rw [List.filter_eq_self]
        intro x hx
        have : x.Table ≠ t := by
          rcases List.mem_cons.1 hx with rfl | hx
          · exact h
          · have := hp.1 x hx; omega
        exact decide_eq_true this
      rw [h1, h2]; rfl
def groupF (t k : Nat) (ws : List Write) : Map := (List.range k).map fun i : Nat => (ws.filter fun w => decide (w.Table = ((t + i : Nat) : Int))).map fun w => ⟨w.Key, w.Value⟩
theorem groupF_eq (k : Nat) (ws : List Write) : groupF 0 k ws = groupT k ws := by simp [groupF, groupT]
theorem image_group : ∀ (k t : Nat) (ws : List Write), ws.Pairwise (fun a b => a.Table ≤ b.Table) → (∀ w ∈ ws, (t : Int) ≤ w.Table ∧ w.Table < ((t + k : Nat) : Int) ∧ w.Gone = false) → imageF t (groupF t k ws) = ws
  | 0, t, [], _, _ => rfl
  | 0, t, w :: ws, _, h => by have := h w (by simp); omega
  | k + 1, t, ws, hp, h => by
    have hs := split_first (t := t) hp (fun w hw => (h w hw).1)
    have e1 : groupF t (k + 1) ws = ((ws.filter fun w => decide (w.Table = (t : Int))).map fun w => ⟨w.Key, w.Value⟩) :: groupF (t + 1) k (ws.filter fun w => decide (w.Table ≠ (t : Int))) := by
      simp only [groupF, List.range_succ_eq_map, List.map_cons, List.map_map, Nat.add_zero]
      congr 1
      refine List.map_congr_left fun i _ => ?_
      simp only [Function.comp]
      rw [List.filter_filter]
      congr 1
      refine List.filter_congr fun w hw => ?_
      have : (w.Table = ((t + Nat.succ i : Nat) : Int)) ↔ (w.Table = ((t + 1 + i : Nat) : Int) ∧ w.Table ≠ (t : Int)) := by omega
      simp only [decide_eq_decide.2 this, Bool.decide_and]
    have e2 : ((ws.filter fun w => decide (w.Table = (t : Int))).map fun w => (⟨w.Key, w.Value⟩ : Row)).map (wrRow t) = ws.filter fun w => decide (w.Table = (t : Int)) := by
      rw [List.map_map]
      conv => rhs; rw [← List.map_id (ws.filter fun w => decide (w.Table = (t : Int)))]
      refine List.map_congr_left fun w hw => ?_
      obtain ⟨hw1, hw2⟩ := List.mem_filter.1 hw
      have hw2 := of_decide_eq_true hw2
      have hw3 := (h w hw1).2.2
      obtain ⟨a, b, c, d⟩ := w
      simp only at hw2 hw3
      simp [wrRow, hw2, hw3]
    have ih := image_group k (t + 1) (ws.filter fun w => decide (w.Table ≠ (t : Int))) (hp.filter _) (fun w hw => by
      obtain ⟨hw1, hw2⟩ := List.mem_filter.1 hw
      have hw2 := of_decide_eq_true hw2
      have := h w hw1
      exact ⟨by omega, by omega, this.2.2⟩)
    rw [e1, imageF, e2, ih, ← hs]
theorem image_sorted : ∀ (m : Map) (t : Nat), (imageF t m).Pairwise (fun a b => a.Table ≤ b.Table)
  | [], t => by simp [imageF]
  | l :: m, t => by
    simp only [imageF, List.pairwise_append]
    refine ⟨?_, image_sorted m (t + 1), fun a ha b hb => ?_⟩
    · rw [List.pairwise_map]
      exact List.Pairwise.imp (R := fun _ _ => True) (fun _ => by simp [wrRow]) (List.pairwise_of_forall fun _ _ => trivial)
    · obtain ⟨x, _, rfl⟩ := List.mem_map.1 ha
      have := image_tables hb
      simp only [wrRow]; omega
theorem good_image {tables : Nat} {ws : List Write} (h0 : ∀ w ∈ ws, 0 ≤ w.Table) : goodP tables 0 ws = true ↔ (∀ w ∈ ws, w.Table < tables ∧ w.Gone = false) ∧ image (groupT tables ws) = ws := by
  rw [goodP_iff]
  constructor
  · rintro ⟨h1, h2⟩
    refine ⟨fun w hw => ⟨(h1 w hw).1, (h1 w hw).2.1⟩, ?_⟩
    rw [image, ← groupF_eq]
    exact image_group tables 0 ws h2 fun w hw => ⟨by have := h0 w hw; omega, by have := (h1 w hw).1; omega, (h1 w hw).2.1⟩
  · rintro ⟨h1, h2⟩
    refine ⟨fun w hw => ⟨(h1 w hw).1, (h1 w hw).2, h0 w hw⟩, ?_⟩
    rw [← h2]
    exact image_sorted _ 0
theorem rows_eq {tables : Nat} {r : Record} (hr : okR r = true) : rowsT tables r = if goodP tables 0 r.Writes = true ∧ r.Commit = 1 ∧ okM (groupT tables r.Writes) = true then some (groupT tables r.Writes) else none := by
  have h0 : ∀ w ∈ r.Writes, 0 ≤ w.Table := fun w hw => by
    simp only [okR, Bool.and_eq_true, List.all_eq_true] at hr
    have := hr.2 w hw
    simp only [okW, decide_eq_true_eq] at this
    omega
  unfold rowsT
  by_cases hg : goodP tables 0 r.Writes = true
  · have hg2 := (good_image h0).1 hg
    by_cases h : r.Commit = 1 ∧ okM (groupT tables r.Writes) = true
    · rw [if_pos ⟨h.1, hg2.1, h.2, hg2.2⟩, if_pos ⟨hg, h.1, h.2⟩]
    · rw [if_neg (fun hh => h ⟨hh.1, hh.2.2.1⟩), if_neg (fun hh => h hh.2)]
  · rw [if_neg (fun hh => hg ((good_image h0).2 ⟨hh.2.1, hh.2.2.2⟩)), if_neg (fun hh => hg hh.1)]
theorem group_snoc {tables : Nat} {ws : List Write} {w : Write} {k : Nat} (hk : w.Table = k) (hlt : k < tables) : groupT tables (ws ++ [w]) = (groupT tables ws).set k (((groupT tables ws)[k]?.getD []) ++ [⟨w.Key, w.Value⟩]) := by
  apply List.ext_getElem?
  intro i
  simp only [groupT, List.getElem?_map, List.getElem?_set, List.length_map, List.length_range]
  by_cases hi : i < tables
  · rw [List.getElem?_range hi, Option.map_some, List.filter_append, List.map_append]
    by_cases h : k = i
    · subst h
      rw [if_pos rfl, if_pos hlt, List.getElem?_range hlt, Option.map_some, Option.getD_some]
      simp [hk]
    · rw [if_neg h]
      have : ¬ w.Table = (i : Int) := by omega
      simp [this]
  · rw [if_neg (by omega), List.getElem?_eq_none (by simp; omega)]; rfl
end Go.Mir.Q

set_option linter.unusedVariables false
namespace Go.Mir.Q
open Go.Mir
def smDo (l : List Do) : Prop := l.length ≤ 1048576 ∧ ∀ p ∈ l, p.Put.Text.length ≤ 1048576
def smRows (l : List Row) : Prop := l.length ≤ 1048576 ∧ ∀ x ∈ l, x.Key.length ≤ 1048576 ∧ x.Value.length ≤ 1048576
def smM (m : Map) : Prop := m.length ≤ 1048576 ∧ ∀ l ∈ m, smRows l
def eRow (x : Row) : List D := [.sc (.string (bs x.Key)), .sc (.string (bs x.Value))]
def oRow (x : Row) : List V := [.d (.sc (.string (bs x.Key))), .d (.sc (.string (bs x.Value)))]
def eMp (l : List Row) : List D := [.sl (l.map eRow)]
abbrev cWal (w : Wal) : List V := [.d (.sc (.int .i64 w.Run)), .d (.sc (.int .i64 w.Slot)), .d (.sc (.int .i64 w.At)), .d (.sc (.int .i64 w.Seq))]
def eWal (w : Wal) : List D := [.sc (.int .i64 w.Run), .sc (.int .i64 w.Slot), .sc (.int .i64 w.At), .sc (.int .i64 w.Seq)]
def oWal (w : Wal) : List V := [.d (.sc (.int .i64 w.Run)), .d (.sc (.int .i64 w.Slot)), .d (.sc (.int .i64 w.At)), .d (.sc (.int .i64 w.Seq))]
theorem toDss_oRow (l : List Row) : toDss (l.map oRow) = some (l.map eRow) := toDss_map (fun _ => rfl) l
theorem noSlss_oRow (l : List Row) : noSlss (l.map oRow) = true := noSlss_map (fun _ => rfl) l
theorem dV_eRow (l : List Row) : (l.map eRow).map (fun x => x.map V.d) = l.map oRow := by simp [eRow, oRow]
theorem all_oRow (l : List Row) : (l.map oRow).all (fun c => c.length == 2) = true := by simp [oRow]
theorem isD_oRow (l : List Row) : ((l.map oRow).all fun x => x.all V.isD) = true := by simp [oRow, V.isD]
theorem all_eRow (l : List Row) : (l.map eRow).all (fun c => c.length == 2) = true := by simp [eRow]
attribute [push_cast] toDss_oRow noSlss_oRow dV_eRow all_oRow isD_oRow all_eRow
theorem toDss_oWal (l : List Wal) : toDss (l.map oWal) = some (l.map eWal) := toDss_map (fun _ => rfl) l
theorem noSlss_oWal (l : List Wal) : noSlss (l.map oWal) = true := noSlss_map (fun _ => rfl) l
attribute [push_cast] toDss_oWal noSlss_oWal
theorem eqRow_fold (a b : Row) : (decide (a.Key = b.Key) && decide (a.Value = b.Value)) = decide (a = b) := by
  obtain ⟨a1, a2⟩ := a
  obtain ⟨b1, b2⟩ := b
  simp
end Go.Mir.Q

set_option linter.unusedVariables false
namespace Go.Mir.Q
open Go.Mir
theorem less_irrefl : ∀ a : List UInt8, Op.bytesLess a a = false
  | [] => rfl
  | a :: x => by simp [Op.bytesLess, less_irrefl x]
theorem less_total : ∀ a b : List UInt8, (Op.bytesLess a b || decide (a = b)) = !Op.bytesLess b a
  | [], [] => rfl
  | [], _ :: _ => rfl
  | _ :: _, [] => by simp [Op.bytesLess]
  | a :: x, b :: y => by
    have ih := less_total x y
    simp only [Op.bytesLess]
    rcases Nat.lt_trichotomy a.toNat b.toNat with h | h | h
    · have h1 : a < b := h
      have h2 : ¬ b < a := fun hh => by have : b.toNat < a.toNat := hh; omega
      have h3 : ¬ b = a := fun hh => by subst hh; omega
      simp [h1, h2, h3]
    · have h0 : a = b := UInt8.toNat_inj.1 h
      subst h0
      have h2 : ¬ a < a := fun hh => by have : a.toNat < a.toNat := hh; omega
      simp only [h2, decide_false, beq_self_eq_true, Bool.true_and, Bool.false_or, List.cons.injEq, true_and]
      exact ih
    · have h1 : b < a := h
      have h2 : ¬ a < b := fun hh => by have : a.toNat < b.toNat := hh; omega
      have h3 : ¬ a = b := fun hh => by subst hh; omega
      simp [h1, h2, h3]
theorem less_trans : ∀ {a b c : List UInt8}, Op.bytesLess a b = true → Op.bytesLess b c = true → Op.bytesLess a c = true
  | _, [], c, h, _ => by simp [Op.bytesLess] at h
  | _, _ :: _, [], _, h => by simp [Op.bytesLess] at h
  | [], _ :: _, _ :: _, _, _ => rfl
  | a :: x, b :: y, c :: z, h1, h2 => by
    simp only [Op.bytesLess, Bool.or_eq_true, decide_eq_true_eq, Bool.and_eq_true, beq_iff_eq] at h1 h2 ⊢
    rcases h1 with h1 | ⟨rfl, h1⟩
    · rcases h2 with h2 | ⟨rfl, h2⟩
      · left; have h1 : a.toNat < b.toNat := h1; have h2 : b.toNat < c.toNat := h2; show a.toNat < c.toNat; omega
      · exact .inl h1
    · rcases h2 with h2 | ⟨rfl, h2⟩
      · exact .inl h2
      · exact .inr ⟨rfl, less_trans h1 h2⟩
theorem less_asymm {a b : List UInt8} (h : Op.bytesLess a b = true) : Op.bytesLess b a = false := by
  cases hb : Op.bytesLess b a with
  | false => rfl
  | true => have := less_trans h hb; rw [less_irrefl] at this; cases this
theorem rising_snoc (x : Row) : ∀ l : List Row, rising (l ++ [x]) = (rising l && (match l.getLast? with | some y => Op.bytesLess y.Key x.Key | none => true))
  | [] => rfl
  | [a] => by simp [rising]
  | a :: b :: l => by
    have ih := rising_snoc x (b :: l)
    simp only [List.cons_append] at ih ⊢
    simp only [rising]
    rw [ih, List.getLast?_cons_cons, Bool.and_assoc]
theorem okRows_snoc (l : List Row) (x : Row) : okRows (l ++ [x]) = (okRows l && (okRow x && (match l.getLast? with | some y => Op.bytesLess y.Key x.Key | none => true))) := by
  simp only [okRows, List.all_append, List.all_cons, List.all_nil, Bool.and_true, rising_snoc]
  cases l.all okRow <;> cases rising l <;> cases okRow x <;> simp
theorem rising_pre : ∀ {l k : List Row}, rising (l ++ k) = true → rising l = true
  | [], _, _ => rfl
  | [_], _, _ => rfl
  | a :: b :: l, k, h => by
    simp only [List.cons_append, rising, Bool.and_eq_true] at h ⊢
    exact ⟨h.1, rising_pre (l := b :: l) h.2⟩
theorem okRows_pre {l k : List Row} (h : okRows (l ++ k) = true) : okRows l = true := by
  simp only [okRows, List.all_append, Bool.and_eq_true] at h ⊢
  exact ⟨h.1.1, rising_pre h.2⟩
end Go.Mir.Q

set_option linter.unusedVariables false
set_option linter.unusedSimpArgs false
namespace Go.Mir.Q
open Go Go.Mir
theorem u8_tri (a b : UInt8) (h1 : ¬ a < b) (h2 : ¬ b < a) : a = b := by
  rw [UInt8.lt_iff_toNat_lt] at h1 h2
  exact UInt8.toNat_inj.1 (by omega)
theorem less_self (a : List UInt8) : Op.bytesLess a a = false := less_irrefl a
theorem less_tri : ∀ {a b : List UInt8}, Op.bytesLess a b = false → Op.bytesLess b a = false → a = b
  | [], [], _, _ => rfl
  | [], _ :: _, h, _ => by simp [Op.bytesLess] at h
  | _ :: _, [], _, h => by simp [Op.bytesLess] at h
  | a :: x, b :: y, h1, h2 => by
    simp only [Op.bytesLess, Bool.or_eq_false_iff, Bool.and_eq_false_iff, decide_eq_false_iff_not, beq_eq_false_iff_ne] at h1 h2
    have e : a = b := u8_tri a b h1.1 h2.1
    subst e
    have h3 := h1.2.resolve_left (fun h => h rfl)
    have h4 := h2.2.resolve_left (fun h => h rfl)
    rw [less_tri h3 h4]
theorem less_ntrans {a b c : List UInt8} (h1 : Op.bytesLess a b = false) (h2 : Op.bytesLess b c = false) : Op.bytesLess a c = false := by
  rw [← Bool.not_eq_true]; intro h
  cases h3 : Op.bytesLess b a with
  | true => have := less_trans h3 h; rw [h2] at this; cases this
  | false => have := less_tri h1 h3; subst this; rw [h] at h2; cases h2
theorem cmp_neg : ∀ a b : List UInt8, decide (Lib.compareBytes a b < 0) = Op.bytesLess a b
  | [], [] => rfl
  | [], _ :: _ => rfl
  | _ :: _, [] => rfl
  | a :: x, b :: y => by
    simp only [Lib.compareBytes, Op.bytesLess]
    by_cases h1 : a < b
    · simp [h1]
    · by_cases h2 : b < a
      · have : a ≠ b := fun e => by subst e; exact h1 h2
        simp [h1, h2, this]
      · have e := u8_tri a b h1 h2
        subst e
        simp [h1, cmp_neg x y]
theorem cmp_zero : ∀ a b : List UInt8, decide (Lib.compareBytes a b = 0) = decide (a = b)
  | [], [] => rfl
  | [], _ :: _ => by simp [Lib.compareBytes]
  | _ :: _, [] => by simp [Lib.compareBytes]
  | a :: x, b :: y => by
    simp only [Lib.compareBytes]
    by_cases h1 : a < b
    · have : a ≠ b := fun e => by subst e; rw [UInt8.lt_iff_toNat_lt] at h1; omega
      simp [h1, this]
    · by_cases h2 : b < a
      · have : a ≠ b := fun e => by subst e; exact h1 h2
        simp [h1, h2, this]
      · have e := u8_tri a b h1 h2
        subst e
        have := cmp_zero x y
        simp only [decide_eq_decide] at this
        simp [h1, this]
def ordW (a b : Write) : Int := if IntKind.i64.wrap (a.Table - b.Table) = 0 then Lib.compareBytes a.Key b.Key else IntKind.i64.wrap (a.Table - b.Table)
def ltW (a b : Write) : Bool := decide (ordW a b < 0)
def eqW (a b : Write) : Bool := decide (ordW a b = 0)
def okT3 (w : Write) : Prop := 0 ≤ w.Table ∧ w.Table < 3
theorem wrap3 {a b : Write} (ha : okT3 a) (hb : okT3 b) : IntKind.i64.wrap (a.Table - b.Table) = a.Table - b.Table := by
  obtain ⟨h1, h2⟩ := ha; obtain ⟨h3, h4⟩ := hb
  generalize a.Table = x at *
  generalize b.Table = y at *
  have hx : x = 0 ∨ x = 1 ∨ x = 2 := by omega
  have hy : y = 0 ∨ y = 1 ∨ y = 2 := by omega
  rcases hx with rfl | rfl | rfl <;> rcases hy with rfl | rfl | rfl <;> rfl
theorem ltW_iff {a b : Write} (ha : okT3 a) (hb : okT3 b) : ltW a b = true ↔ a.Table < b.Table ∨ (a.Table = b.Table ∧ Op.bytesLess a.Key b.Key = true) := by
  simp only [ltW, ordW, wrap3 ha hb, decide_eq_true_eq]
  have h1 := cmp_neg a.Key b.Key
  split
  · rename_i h
    have : a.Table = b.Table := by omega
    rw [← h1]; simp only [decide_eq_true_eq]
    constructor
    · exact fun h => .inr ⟨this, h⟩
    · rintro (h | h)
      · omega
      · exact h.2
  · constructor
    · exact fun h => .inl (by omega)
    · rintro (h | h) <;> omega
theorem eqW_iff {a b : Write} (ha : okT3 a) (hb : okT3 b) : eqW a b = true ↔ a.Table = b.Table ∧ a.Key = b.Key := by
  simp only [eqW, ordW, wrap3 ha hb, decide_eq_true_eq]
  have h1 := cmp_zero a.Key b.Key
  simp only [decide_eq_decide] at h1
  split
  · rename_i h
    have : a.Table = b.Table := by omega
    rw [h1]; exact ⟨fun h => ⟨this, h⟩, fun h => h.2⟩
  · constructor
    · intro h; omega
    · intro h; omega
theorem ltW_ntrans {a b c : Write} (ha : okT3 a) (hb : okT3 b) (hc : okT3 c) (h1 : ltW a b = false) (h2 : ltW b c = false) : ltW a c = false := by
  rw [← Bool.not_eq_true, ltW_iff ha hb] at h1
  rw [← Bool.not_eq_true, ltW_iff hb hc] at h2
  rw [← Bool.not_eq_true, ltW_iff ha hc]
  rintro (h | ⟨h, h3⟩)
  · exact (by omega : False) |>.elim
      |> fun x => x
  · have e1 : a.Table = b.Table := by omega
    have e2 : b.Table = c.Table := by omega
    have k1 : Op.bytesLess a.Key b.Key = false := by rw [← Bool.not_eq_true]; exact fun h => h1 (.inr ⟨e1, h⟩)
    have k2 : Op.bytesLess b.Key c.Key = false := by rw [← Bool.not_eq_true]; exact fun h => h2 (.inr ⟨e2, h⟩)
    rw [less_ntrans k1 k2] at h3; cases h3
theorem ltW_asymm {a b : Write} (ha : okT3 a) (hb : okT3 b) (h : ltW a b = true) : ltW b a = false := by
  rw [ltW_iff ha hb] at h
  rw [← Bool.not_eq_true, ltW_iff hb ha]
  rintro (h2 | ⟨h2, h3⟩)
  · rcases h with h | h <;> omega
  · rcases h with h | h
    · omega
    · rw [less_asymm h.2] at h3; cases h3
theorem ltW_tri {a b : Write} (ha : okT3 a) (hb : okT3 b) (h1 : ltW a b = false) (h2 : ltW b a = false) : eqW a b = true := by
  rw [← Bool.not_eq_true, ltW_iff ha hb] at h1
  rw [← Bool.not_eq_true, ltW_iff hb ha] at h2
  have e : a.Table = b.Table := by omega
  refine (eqW_iff ha hb).2 ⟨e, less_tri ?_ ?_⟩
  · rw [← Bool.not_eq_true]; exact fun h => h1 (.inr ⟨e, h⟩)
  · rw [← Bool.not_eq_true]; exact fun h => h2 (.inr ⟨e.symm, h⟩)
def insRev (x : Write) : List Write → List Write
  | [] => [x]
  | b :: r => if ltW x b then b :: insRev x r else x :: b :: r
def isortR (l : List Write) : List Write := l.foldl (fun a x => insRev x a) []
theorem insRev_len (x : Write) : ∀ l, (insRev x l).length = l.length + 1
  | [] => rfl
  | b :: r => by
    simp only [insRev]; split
    · simp [insRev_len x r]
    · simp
theorem insRev_mem {x y : Write} : ∀ {l}, y ∈ insRev x l ↔ y = x ∨ y ∈ l
  | [] => by simp [insRev]
  | b :: r => by
    simp only [insRev]; split
    · simp only [List.mem_cons, insRev_mem (l := r)]
      constructor
      · rintro (h | h | h) <;> simp [h]
      · rintro (h | h | h) <;> simp [h]
    · simp
theorem insRev_find {p : Write → Bool} {x : Write} : ∀ {l : List Write}, (p x = true → ∀ b ∈ l, ltW x b = true → p b = false) → (insRev x l).reverse.find? p = (l.reverse.find? p).or ([x].find? p)
  | [], _ => rfl
  | b :: r, h => by
    simp only [insRev]
    split
    · rename_i hl
      rw [List.reverse_cons, List.find?_append, insRev_find (l := r) (fun hx c hc => h hx c (by simp [hc])), List.reverse_cons, List.find?_append]
      cases hx : p x with
      | true =>
        have := h hx b (by simp) hl
        simp [this]
      | false => simp [hx, Option.or_assoc]
    · rw [List.reverse_cons, List.find?_append]
def sortedR (l : List Write) : Prop := l.Pairwise fun a b => ltW a b = false
theorem insRev_sorted {x : Write} (hx : okT3 x) : ∀ {l : List Write}, (∀ b ∈ l, okT3 b) → sortedR l → sortedR (insRev x l)
  | [], _, _ => List.pairwise_singleton _ _
  | b :: r, ho, hs => by
    have hb := ho b (by simp)
    obtain ⟨h1, h2⟩ := List.pairwise_cons.1 hs
    simp only [insRev]
    split
    · rename_i hl
      refine List.pairwise_cons.2 ⟨fun y hy => ?_, insRev_sorted hx (fun c hc => ho c (by simp [hc])) h2⟩
      rcases insRev_mem.1 hy with rfl | hy
      · exact ltW_asymm hx hb hl
      · exact h1 y hy
    · rename_i hl
      refine List.pairwise_cons.2 ⟨fun y hy => ?_, hs⟩
      rcases List.mem_cons.1 hy with rfl | hy
      · simpa using hl
      · exact ltW_ntrans hx hb (ho y (by simp [hy])) (by simpa using hl) (h1 y hy)
theorem isort_fold {p : Write → Bool} (hp : ∀ x y, okT3 x → okT3 y → p x = true → ltW x y = true → p y = false) : ∀ (l a : List Write), (∀ b ∈ l, okT3 b) → (∀ b ∈ a, okT3 b) → sortedR a →
    sortedR (l.foldl (fun a x => insRev x a) a) ∧ (∀ y, y ∈ l.foldl (fun a x => insRev x a) a ↔ y ∈ l ∨ y ∈ a) ∧ (l.foldl (fun a x => insRev x a) a).reverse.find? p = (a.reverse ++ l).find? p
  | [], a, _, _, hs => ⟨hs, fun y => by simp, by simp⟩
  | x :: l, a, hl, ha, hs => by
    have hx := hl x (by simp)
    obtain ⟨h1, h2, h3⟩ := isort_fold hp l (insRev x a) (fun b hb => hl b (by simp [hb])) (fun b hb => by rcases insRev_mem.1 hb with rfl | hb; exact hx; exact ha b hb) (insRev_sorted hx ha hs)
    refine ⟨h1, fun y => ?_, ?_⟩
    · rw [List.foldl_cons, h2, insRev_mem, List.mem_cons]
      constructor
      · rintro (h | h | h) <;> simp [h]
      · rintro ((h | h) | h) <;> simp [h]
    · rw [List.foldl_cons, h3, List.find?_append, insRev_find (fun h b hb hlt => hp x b hx (ha b hb) h hlt), List.find?_append]
      cases hpx : p x with
      | true => simp [List.find?_cons, hpx, Option.or_assoc]
      | false => simp [List.find?_cons, hpx]
def cpR : List Write → List Write
  | [] => []
  | [x] => [x]
  | x :: y :: r => if eqW x y then cpR (y :: r) else x :: cpR (y :: r)
theorem cpR_sub {y : Write} : ∀ {l : List Write}, y ∈ cpR l → y ∈ l
  | [], h => h
  | [x], h => h
  | x :: z :: r, h => by
    simp only [cpR] at h
    split at h
    · exact List.mem_cons_of_mem _ (cpR_sub h)
    · rcases List.mem_cons.1 h with rfl | h
      · simp
      · exact List.mem_cons_of_mem _ (cpR_sub h)
theorem cpR_find {p : Write → Bool} : ∀ {l : List Write}, (∀ x ∈ l, ∀ y ∈ l, eqW x y = true → p x = true → p y = true) → (cpR l).reverse.find? p = l.reverse.find? p
  | [], _ => rfl
  | [x], _ => rfl
  | x :: y :: r, h => by
    have ih := cpR_find (p := p) (l := y :: r) (fun a ha b hb => h a (by simp [ha]) b (by simp [hb]))
    simp only [cpR]
    split
    · rename_i he
      rw [ih, List.reverse_cons (a := x), List.find?_append]
      cases hx : p x with
      | true =>
        have hy := h x (by simp) y (by simp) he hx
        have : ((y :: r).reverse.find? p).isSome = true := by
          rw [List.find?_isSome]; exact ⟨y, by simp, hy⟩
        cases hf : (y :: r).reverse.find? p with
        | none => rw [hf] at this; cases this
        | some z => rfl
      | false => simp [hx]
    · rw [List.reverse_cons, List.find?_append, ih, List.reverse_cons (a := x), List.find?_append]
theorem cpR_strict : ∀ {l : List Write}, (∀ b ∈ l, okT3 b) → sortedR l → (cpR l).Pairwise fun a b => ltW b a = true
  | [], _, _ => List.Pairwise.nil
  | [x], _, _ => List.pairwise_singleton _ _
  | x :: y :: r, ho, hs => by
    have hx := ho x (by simp)
    have hy := ho y (by simp)
    obtain ⟨h1, h2⟩ := List.pairwise_cons.1 hs
    have ih := cpR_strict (fun b hb => ho b (by simp [hb])) h2
    simp only [cpR]
    split
    · exact ih
    · rename_i he
      refine List.pairwise_cons.2 ⟨fun z hz => ?_, ih⟩
      have hz' := cpR_sub hz
      have hoz := ho z (by simp [hz'])
      have hyx : ltW y x = true := by
        cases h3 : ltW y x with
        | true => rfl
        | false => exact absurd (ltW_tri hx hy (h1 y (by simp)) h3) he
      rcases List.mem_cons.1 hz' with rfl | hz'
      · exact hyx
      · cases h4 : ltW z x with
        | true => rfl
        | false =>
          have h5 := (List.pairwise_cons.1 h2).1 z hz'
          have := ltW_ntrans hy hoz hx h5 h4
          rw [hyx] at this; cases this
def allW (l : List Write) : List Write := (cpR (isortR l.reverse)).reverse
def isK (t : Int) (k : List UInt8) (w : Write) : Bool := decide (w.Table = t ∧ w.Key = k)
def lastK (t : Int) (k : List UInt8) (l : List Write) : Option Write := l.reverse.find? (isK t k)
theorem isK_lt (t : Int) (k : List UInt8) (x y : Write) (hx : okT3 x) (hy : okT3 y) (h : isK t k x = true) (hl : ltW x y = true) : isK t k y = false := by
  simp only [isK, decide_eq_true_eq, decide_eq_false_iff_not] at h ⊢
  rintro ⟨h1, h2⟩
  rw [ltW_iff hx hy] at hl
  rcases hl with hl | ⟨_, hl⟩
  · omega
  · rw [h.2, h2, less_self] at hl; cases hl
theorem allW_facts {l : List Write} (ho : ∀ b ∈ l, okT3 b) : (∀ w ∈ allW l, w ∈ l) ∧ (allW l).Pairwise (fun a b => ltW a b = true) ∧ ∀ t k, (allW l).find? (isK t k) = lastK t k l := by
  have hr : ∀ b ∈ l.reverse, okT3 b := fun b hb => ho b (by simpa using hb)
  have hno : ∀ b ∈ ([] : List Write), okT3 b := fun b hb => by cases hb
  obtain ⟨s1, s2, _⟩ := isort_fold (p := fun _ => false) (fun x y _ _ h => by cases h) l.reverse [] hr hno List.Pairwise.nil
  have hm : ∀ b ∈ isortR l.reverse, b ∈ l := fun b hb => by simpa using (s2 b).1 hb
  refine ⟨fun w hw => hm w (cpR_sub (by simpa [allW] using hw)), ?_, fun t k => ?_⟩
  · unfold allW
    rw [List.pairwise_reverse]
    exact cpR_strict (fun b hb => ho b (hm b hb)) s1
  · obtain ⟨_, _, s3⟩ := isort_fold (p := isK t k) (isK_lt t k) l.reverse [] hr hno List.Pairwise.nil
    unfold allW lastK
    rw [cpR_find (fun x hx y hy he hp => ?_)]
    · exact s3
    · rw [eqW_iff (ho x (hm x hx)) (ho y (hm y hy))] at he
      simp only [isK, decide_eq_true_eq] at hp ⊢
      rw [← he.1, ← he.2]; exact hp
def lb (k : List UInt8) (l : List Row) : Nat := (l.takeWhile fun r => Op.bytesLess r.Key k).length
def thereR (k : List UInt8) (l : List Row) : Bool := l.any fun r => decide (r.Key = k)
def putR (l : List Row) (w : Write) : List Row :=
  let x := if thereR w.Key l then l.take (lb w.Key l) ++ l.drop (lb w.Key l + 1) else l
  if w.Gone then x else x.take (lb w.Key l) ++ ⟨w.Key, w.Value⟩ :: x.drop (lb w.Key l)
def getR (k : List UInt8) (l : List Row) : Option (List UInt8) := (l.find? fun r => decide (r.Key = k)).map Row.Value
def upR (l : List Row) : Prop := l.Pairwise fun a b => Op.bytesLess a.Key b.Key = true
theorem rising_iff : ∀ {l : List Row}, rising l = true ↔ upR l
  | [] => by simp [rising, upR]
  | [x] => by simp [rising, upR]
  | a :: b :: l => by
    have ih := rising_iff (l := b :: l)
    simp only [rising, Bool.and_eq_true, ih, upR]
    constructor
    · rintro ⟨h1, h2⟩
      refine List.pairwise_cons.2 ⟨fun c hc => ?_, h2⟩
      rcases List.mem_cons.1 hc with rfl | hc
      · exact h1
      · exact less_trans h1 ((List.pairwise_cons.1 h2).1 c hc)
    · intro h
      obtain ⟨h1, h2⟩ := List.pairwise_cons.1 h
      exact ⟨h1 b (by simp), h2⟩
theorem cut_at (k : List UInt8) : ∀ {l : List Row}, upR l → ∃ A B : List Row, l = A ++ B ∧ A.length = lb k l ∧ (∀ r ∈ A, Op.bytesLess r.Key k = true) ∧
    ((thereR k l = false ∧ ∀ r ∈ B, Op.bytesLess k r.Key = true) ∨ (thereR k l = true ∧ ∃ v C, B = ⟨k, v⟩ :: C ∧ ∀ r ∈ C, Op.bytesLess k r.Key = true))
  | [], _ => ⟨[], [], rfl, rfl, by simp, .inl ⟨rfl, by simp⟩⟩
  | a :: l, h => by
    obtain ⟨h1, h2⟩ := List.pairwise_cons.1 h
    cases ha : Op.bytesLess a.Key k with
    | true =>
      obtain ⟨A, B, e, e2, e3, e4⟩ := cut_at k h2
      have hne : a.Key ≠ k := fun e => by rw [e, less_self] at ha; cases ha
      have ht : thereR k (a :: l) = thereR k l := by simp [thereR, hne]
      refine ⟨a :: A, B, by rw [e]; rfl, by simp [lb, ha] at e2 ⊢; exact e2, fun r hr => ?_, by rw [ht]; exact e4⟩
      rcases List.mem_cons.1 hr with rfl | hr
      · exact ha
      · exact e3 r hr
    | false =>
      refine ⟨[], a :: l, rfl, by simp [lb, ha], by simp, ?_⟩
      by_cases hk : a.Key = k
      · right
        refine ⟨by simp [thereR, hk], a.Value, l, by obtain ⟨x, y⟩ := a; simp only at hk; subst hk; rfl, fun r hr => by rw [← hk]; exact h1 r hr⟩
      · left
        have hlt : Op.bytesLess k a.Key = true := by
          cases h3 : Op.bytesLess k a.Key with
          | true => rfl
          | false => exact absurd (less_tri ha h3) hk
        have hall : ∀ r ∈ a :: l, Op.bytesLess k r.Key = true := fun r hr => by
          rcases List.mem_cons.1 hr with rfl | hr
          · exact hlt
          · exact less_trans hlt (h1 r hr)
        refine ⟨?_, hall⟩
        simp only [thereR, List.any_eq_false, decide_eq_true_eq]
        intro r hr he
        have := hall r hr
        rw [he, less_self] at this; cases this
theorem putR_eq {l : List Row} (w : Write) (h : upR l) : ∃ A C : List Row, (∀ r ∈ A, Op.bytesLess r.Key w.Key = true) ∧ (∀ r ∈ C, Op.bytesLess w.Key r.Key = true) ∧
    (l = A ++ C ∨ ∃ v, l = A ++ ⟨w.Key, v⟩ :: C) ∧ putR l w = A ++ (if w.Gone then C else ⟨w.Key, w.Value⟩ :: C) := by
  obtain ⟨A, B, e, e2, e3, e4⟩ := cut_at w.Key h
  rcases e4 with ⟨e4, e5⟩ | ⟨e4, v, C, e5, e6⟩
  · refine ⟨A, B, e3, e5, .inl e, ?_⟩
    rw [e] at e2 e4 ⊢
    simp only [putR, e4, ← e2, if_neg Bool.false_ne_true]
    cases w.Gone <;> simp
  · refine ⟨A, C, e3, e6, .inr ⟨v, by rw [e, e5]⟩, ?_⟩
    simp only [putR, e4, ← e2, if_true]
    rw [e, e5]
    have h1 : (A ++ ⟨w.Key, v⟩ :: C).take A.length = A := by simp
    have h2 : (A ++ ⟨w.Key, v⟩ :: C).drop (A.length + 1) = C := by
      rw [List.drop_append, List.drop_eq_nil_of_le (by omega)]; simp
    rw [h1, h2]
    cases w.Gone <;> simp
theorem get_app {k : List UInt8} {A B : List Row} (h : ∀ r ∈ A, r.Key ≠ k) : getR k (A ++ B) = getR k B := by
  have : A.find? (fun r => decide (r.Key = k)) = none := by
    rw [List.find?_eq_none]; intro r hr; simpa using h r hr
  simp [getR, List.find?_append, this]
theorem get_cons {k : List UInt8} {a : Row} {B : List Row} (h : a.Key ≠ k) : getR k (a :: B) = getR k B := get_app (A := [a]) (by simpa using h)
theorem get_none {k : List UInt8} {A : List Row} (h : ∀ r ∈ A, r.Key ≠ k) : getR k A = none := by
  have := get_app (B := []) h
  rw [List.append_nil] at this; rw [this]; rfl
theorem getR_putR {l : List Row} (w : Write) (h : upR l) (k : List UInt8) : getR k (putR l w) = if k = w.Key then (if w.Gone then none else some w.Value) else getR k l := by
  obtain ⟨A, C, hA, hC, hl, hp⟩ := putR_eq w h
  have nA : ∀ r ∈ A, r.Key ≠ w.Key := fun r hr e => by have := hA r hr; rw [e, less_self] at this; cases this
  have nC : ∀ r ∈ C, r.Key ≠ w.Key := fun r hr e => by have := hC r hr; rw [e, less_self] at this; cases this
  rw [hp]
  by_cases hk : k = w.Key
  · subst hk
    rw [if_pos rfl, get_app nA]
    cases w.Gone with
    | true => exact get_none nC
    | false => simp [getR]
  · rw [if_neg hk]
    have e1 : getR k (A ++ (if w.Gone then C else ⟨w.Key, w.Value⟩ :: C)) = getR k (A ++ C) := by
      cases w.Gone with
      | true => rfl
      | false =>
        simp only [getR, List.find?_append, if_neg Bool.false_ne_true]
        rw [List.find?_cons_of_neg (by simpa using fun e => hk e.symm)]
    rw [e1]
    rcases hl with hl | ⟨v, hl⟩
    · rw [hl]
    · rw [hl]
      simp only [getR, List.find?_append]
      rw [List.find?_cons_of_neg (by simpa using fun e => hk e.symm)]
theorem putR_up {l : List Row} (w : Write) (h : upR l) : upR (putR l w) := by
  obtain ⟨A, C, hA, hC, hl, hp⟩ := putR_eq w h
  have hAC : upR (A ++ C) := by
    rcases hl with hl | ⟨v, hl⟩
    · rw [← hl]; exact h
    · rw [hl] at h
      exact h.sublist (List.Sublist.append_left (List.sublist_cons_self _ _) A)
  rw [hp]
  cases w.Gone with
  | true => exact hAC
  | false =>
    simp only [if_neg Bool.false_ne_true]
    obtain ⟨h1, h2, h3⟩ := List.pairwise_append.1 hAC
    refine List.pairwise_append.2 ⟨h1, List.pairwise_cons.2 ⟨fun r hr => hC r hr, h2⟩, fun a ha b hb => ?_⟩
    rcases List.mem_cons.1 hb with rfl | hb
    · exact hA a ha
    · exact h3 a ha b hb
theorem putR_mem {l : List Row} {w : Write} (h : upR l) {r : Row} (hr : r ∈ putR l w) : r ∈ l ∨ (w.Gone = false ∧ r = ⟨w.Key, w.Value⟩) := by
  obtain ⟨A, C, hA, hC, hl, hp⟩ := putR_eq w h
  rw [hp] at hr
  have hin : r ∈ A ++ C → r ∈ l := fun hx => by
    rcases hl with hl | ⟨v, hl⟩
    · rw [hl]; exact hx
    · rw [hl]; simp only [List.mem_append, List.mem_cons] at hx ⊢; rcases hx with hx | hx <;> simp [hx]
  cases hg : w.Gone with
  | true => rw [hg] at hr; exact .inl (hin hr)
  | false =>
    rw [hg] at hr
    simp only [if_neg Bool.false_ne_true, List.mem_append, List.mem_cons] at hr
    rcases hr with hr | hr | hr
    · exact .inl (hin (by simp [hr]))
    · exact .inr ⟨rfl, hr⟩
    · exact .inl (hin (by simp [hr]))
def mergeF (t : Int) (rows : List Row) (l : List Write) : List Row := l.foldl (fun a w => if w.Table = t then putR a w else a) rows
def mergeR (t : Int) (rows : List Row) (l : List Write) : List Row := mergeF t rows (allW l)
def goneV (w : Write) : Option (List UInt8) := if w.Gone then none else some w.Value
theorem mergeF_up (t : Int) : ∀ (l : List Write) {rows : List Row}, upR rows → upR (mergeF t rows l)
  | [], _, h => h
  | w :: l, rows, h => by
    show upR (mergeF t (if w.Table = t then putR rows w else rows) l)
    refine mergeF_up t l ?_
    split
    · exact putR_up w h
    · exact h
theorem mergeF_mem (t : Int) : ∀ (l : List Write) {rows : List Row}, upR rows → ∀ r ∈ mergeF t rows l, r ∈ rows ∨ ∃ w ∈ l, w.Gone = false ∧ r = ⟨w.Key, w.Value⟩
  | [], _, _, r, hr => .inl hr
  | w :: l, rows, h, r, hr => by
    have hr' : r ∈ mergeF t (if w.Table = t then putR rows w else rows) l := hr
    rcases mergeF_mem t l (by split; exact putR_up w h; exact h) r hr' with hr | ⟨x, hx, hy⟩
    · split at hr
      · rcases putR_mem h hr with hr | hr
        · exact .inl hr
        · exact .inr ⟨w, by simp, hr⟩
      · exact .inl hr
    · exact .inr ⟨x, by simp [hx], hy⟩
theorem mergeF_get (t : Int) (k : List UInt8) : ∀ (l : List Write) {rows : List Row}, upR rows → l.Pairwise (fun a b => ltW a b = true) → (∀ b ∈ l, okT3 b) →
    getR k (mergeF t rows l) = match l.find? (isK t k) with | some w => goneV w | none => getR k rows
  | [], _, _, _, _ => rfl
  | w :: l, rows, h, hp, ho => by
    obtain ⟨h1, h2⟩ := List.pairwise_cons.1 hp
    have e : getR k (mergeF t rows (w :: l)) = getR k (mergeF t (if w.Table = t then putR rows w else rows) l) := rfl
    rw [e, mergeF_get t k l (by split; exact putR_up w h; exact h) h2 (fun b hb => ho b (by simp [hb]))]
    cases hk : isK t k w with
    | true =>
      have hn : l.find? (isK t k) = none := by
        rw [List.find?_eq_none]
        intro b hb
        rw [Bool.not_eq_true]
        exact isK_lt t k w b (ho w (by simp)) (ho b (by simp [hb])) hk (h1 b hb)
      simp only [hn, List.find?_cons, hk]
      simp only [isK, decide_eq_true_eq] at hk
      rw [if_pos hk.1, getR_putR w h, if_pos hk.2.symm]; rfl
    | false =>
      simp only [List.find?_cons, hk]
      cases l.find? (isK t k) with
      | some x => rfl
      | none =>
        simp only
        split
        · rename_i ht
          rw [getR_putR w h, if_neg]
          intro e
          simp [isK, ht, e] at hk
        · rfl
theorem mergeR_facts {t : Int} {rows : List Row} {l : List Write} (hr : okRows rows = true) (hl : l.all okW = true) : okRows (mergeR t rows l) = true ∧ ∀ k, getR k (mergeR t rows l) = match lastK t k l with | some w => goneV w | none => getR k rows := by
  simp only [okRows, Bool.and_eq_true, List.all_eq_true] at hr
  rw [List.all_eq_true] at hl
  have hu := rising_iff.1 hr.2
  have ho : ∀ b ∈ l, okT3 b := fun b hb => by
    have := hl b hb; simp only [okW, decide_eq_true_eq] at this; exact ⟨this.1, this.2.1⟩
  obtain ⟨a1, a2, a3⟩ := allW_facts ho
  refine ⟨?_, fun k => ?_⟩
  · simp only [okRows, Bool.and_eq_true, List.all_eq_true]
    refine ⟨fun r hr2 => ?_, rising_iff.2 (mergeF_up t _ hu)⟩
    rcases mergeF_mem t _ hu r hr2 with h | ⟨w, hw, hg, rfl⟩
    · exact hr.1 r h
    · have := hl w (a1 w hw)
      simp only [okW, decide_eq_true_eq] at this
      simp only [okRow, decide_eq_true_eq]
      have h0 : w.Key.length ≠ 0 := fun e => this.2.2.1 (List.length_eq_zero_iff.1 e)
      omega
  · have := mergeF_get t k (allW l) hu a2 (fun b hb => ho b (a1 b hb))
    rw [a3] at this
    exact this
def laidP (m : Map) (l : List Write) : Map := m.mapIdx fun t rows => mergeR (t : Int) rows l
def cut12 : Nat → List Write → List (List Write)
  | 0, _ => []
  | n + 1, l => if l = [] then [] else l.take 12 :: cut12 n (l.drop 12)
def laidC (m : Map) (c : List (List Write)) : Map := c.foldl laidP m
def laidR (m : Map) (r : Record) : Map := laidC m (cut12 r.Writes.length r.Writes)
def laidRs (m : Map) (R : List Record) : Map := R.foldl laidR m
def getM (m : Map) (t : Int) (k : List UInt8) : Option (List UInt8) := match m[t.toNat]? with | some rows => getR k rows | none => none
theorem cut12_flat : ∀ (n : Nat) (l : List Write), l.length ≤ n → (cut12 n l).flatten = l
  | 0, l, h => by obtain rfl : l = [] := List.length_eq_zero_iff.1 (by omega); rfl
  | n + 1, l, h => by
    simp only [cut12]
    split
    · rename_i e; subst e; rfl
    · rename_i e
      have : 0 < l.length := List.length_pos_iff.2 e
      rw [List.flatten_cons, cut12_flat n _ (by rw [List.length_drop]; omega), List.take_append_drop]
theorem okM_iff {m : Map} : okM m = true ↔ m.length ≤ 3 ∧ ∀ rows ∈ m, okRows rows = true := by simp [okM]
theorem laidP_ok {m : Map} {l : List Write} (hm : okM m = true) (hl : l.all okW = true) : okM (laidP m l) = true := by
  rw [okM_iff] at hm ⊢
  refine ⟨by simpa [laidP] using hm.1, fun rows hr => ?_⟩
  obtain ⟨i, hi, rfl⟩ := List.mem_iff_getElem.1 hr
  simp only [laidP, List.getElem_mapIdx]
  exact (mergeR_facts (hm.2 _ (List.getElem_mem _)) hl).1
theorem laidP_len (m : Map) (l : List Write) : (laidP m l).length = m.length := by simp [laidP]
theorem laidP_get {m : Map} {l : List Write} (hm : okM m = true) (hl : l.all okW = true) {t : Int} (h0 : 0 ≤ t) (ht : t < m.length) (k : List UInt8) :
    getM (laidP m l) t k = match lastK t k l with | some w => goneV w | none => getM m t k := by
  rw [okM_iff] at hm
  obtain ⟨n, rfl⟩ := Int.eq_ofNat_of_zero_le h0
  have hn : n < m.length := by omega
  have h1 : (laidP m l)[n]? = some (mergeR (n : Int) m[n] l) := by
    rw [List.getElem?_eq_getElem (by rw [laidP_len]; exact hn)]; simp [laidP]
  simp only [getM, Int.toNat_natCast, h1, List.getElem?_eq_getElem hn]
  exact (mergeR_facts (hm.2 _ (List.getElem_mem hn)) hl).2 k
theorem lastK_app (t : Int) (k : List UInt8) (a b : List Write) : lastK t k (a ++ b) = (lastK t k b).or (lastK t k a) := by
  simp [lastK, List.find?_append]
theorem laidC_facts : ∀ (c : List (List Write)) {m : Map}, okM m = true → (∀ l ∈ c, l.all okW = true) → okM (laidC m c) = true ∧ (laidC m c).length = m.length ∧
    ∀ (t : Int) k, 0 ≤ t → t < m.length → getM (laidC m c) t k = match lastK t k c.flatten with | some w => goneV w | none => getM m t k
  | [], m, hm, _ => ⟨hm, rfl, fun t k _ _ => rfl⟩
  | l :: c, m, hm, hc => by
    have hl := hc l (by simp)
    obtain ⟨h1, h2, h3⟩ := laidC_facts c (laidP_ok hm hl) (fun x hx => hc x (by simp [hx]))
    refine ⟨h1, h2.trans (laidP_len m l), fun t k h0 ht => ?_⟩
    have e : laidC m (l :: c) = laidC (laidP m l) c := rfl
    rw [e, h3 t k h0 (by rw [laidP_len]; exact ht), laidP_get hm hl h0 ht, List.flatten_cons, lastK_app]
    cases lastK t k c.flatten with
    | some w => rfl
    | none => rfl
theorem laidR_facts {m : Map} {r : Record} (hm : okM m = true) (hr : r.Writes.all okW = true) : okM (laidR m r) = true ∧ (laidR m r).length = m.length ∧
    ∀ (t : Int) k, 0 ≤ t → t < m.length → getM (laidR m r) t k = match lastK t k r.Writes with | some w => goneV w | none => getM m t k := by
  have hf := cut12_flat r.Writes.length r.Writes (Nat.le_refl _)
  have := laidC_facts (cut12 r.Writes.length r.Writes) hm (fun l hl => by
    rw [List.all_eq_true] at hr ⊢
    intro w hw
    exact hr w (by rw [← hf]; exact List.mem_flatten.2 ⟨l, hl, hw⟩))
  rw [hf] at this
  exact this
end Go.Mir.Q

set_option linter.unusedVariables false
namespace Go.Mir
open Go Go.Proofs Go.Shelf
section
open Go.RowKit Go.Lib
variable {P : Program} {ρ : Ren}
set_option maxHeartbeats 2000000 in
set_option maxRecDepth 100000 in
theorem clone_empty (L : SlLaysE0.n41 P ρ) (i0 : TypeInfo) (z : Value) (size bytes : Nat) (hi : P.info? (ρ.t 23) = some i0) (hz0 : i0.zero = some z) (hz1 : i0.size = size) (hz2 : i0.bytes = bytes) (hzs : z.cells.size = size) (hsz : 0 < size)
    (z23 : ∀ w, (Go.sizeOf (ρ.t 23)).run P w = .ok size w) (a : Addr) (c : Nat) (w : World) :
    Calls P (ρ.f 41) #[.slice (some a) 0 c] w fun e w' => ∃ v', e = .returned v' ∧ w'.ownsRow w.heap.size (ρ.t 23) size v' 0 [] ∧ Below w.heap.size w w' := by
  have mixed := L.mixed; have t4 := L.t4; have a4 := L.a4; have z4 := L.z4; have v4 := L.v4; have t22 := L.t22; have a22 := L.a22; have z22 := L.z22; have v22 := L.v22
  have q22 : ∀ (w : World) (a : Option Addr) (n c n' c' : Nat), (binOp .eql (ρ.t 22) (.slice a n c) (.slice none n' c')).run P w = .ok (.bool a.isNone) w := fun w a n c n' c' => Lib.run_eql_slice_nil w _ _ a n c n' c' L.t22
  have u22 : ∀ w, Sem.run P (underlying (ρ.t 22)) w = .ok (TypeDesc.slice (ρ.t 23)) w := run_underlying t22
  obtain ⟨_, _, FG⟩ := L.f41
  go_enter FG, SlBodyN.n41_ntmps ρ
  go_wp2_with (at_builtin; refine wpList_append_own _ rfl _ _ (ρ.t 22) rfl w.heap.size (ρ.t 23) i0 z size bytes t22 hi hz0 hz1 hz2 hzs hsz _ _ _ rfl (World.ownsRow_made w #[] 0 (Nat.le_refl _) (Nat.zero_le _) (by simp)) a 0 c [] rfl ?qc1 ?qc2 ?qc3 ?qc4 ?qc5 ?qc6 ?_)
  case qc1 => simp
  case qc2 => simp
  case qc3 => simp
  case qc4 => simp [maxLen]
  case qc5 => simp
  case qc6 => simp
  intro v' w1 hown hgrow hnil
  go_wp2
  go_ret
  refine ⟨v', rfl, by simpa using hown, ?_⟩
  exact ((Below.refl _ w).alloc (Nat.le_refl _) _).grown hgrow (by simp) (by intro k hk; simp [Value.ownBlock] at hk; omega)
end
def cloneGiven (P : Program) (el : Nat) : List PM × (List T → Option Res) := ([.ro], fun
  | [.vs false [.d (.sl xs)]] =>
    if xs.all (fun c => c.length == P.cellsOf el) = true ∧ xs.length * P.bytesOf el ≤ 140737488355328 ∧ xs.length ≤ 140737488355328 then some (.one (.own el (xs.map (·.map .d))), []) else none
  | _ => none)
theorem clone_ok {P : Program} {ρ : Ren} (L : SlLaysE0.n41 P ρ) {i0 : TypeInfo} {z : Value} (hi : P.info? (ρ.t 23) = some i0) (hz0 : i0.zero = some z) (hzs : z.cells.size = i0.size) (hsz : 0 < i0.size)
    (z23 : ∀ w, (Go.sizeOf (ρ.t 23)).run P w = .ok i0.size w) (hfn : ∃ fn, P.funcs[ρ.f 41]? = some fn ∧ (fn.name == "runtime.NumGoroutine") = false ∧ fn.body.isNone = false)
    {pm : FuncId → List PM} (hpm : pm (ρ.f 41) = [.ro]) {args : List T} {r : Res} (h : (cloneGiven P (ρ.t 23)).2 args = some r) : CallR P pm (ρ.f 41) args r := by
  simp only [cloneGiven] at h
  split at h
  case h_2 => cases h
  rename_i xs
  split at h
  case isFalse => cases h
  rename_i hc
  obtain ⟨hall, hby, hln⟩ := hc
  cases h
  have hcs : P.cellsOf (ρ.t 23) = i0.size := by simp [Program.cellsOf, hi]
  have hbs : P.bytesOf (ρ.t 23) = i0.bytes := by simp [Program.bytesOf, hi]
  refine ⟨hfn, rfl, fun X w us Fa hX hl ha hd hx => ?_⟩
  match us, hl with
  | [u], _ =>
    have h0 := VS.toOne (ha 0 _ u rfl rfl)
    cases h0 with
    | blk _ hh => simp [Shape] at hh
    | d _ hro =>
      obtain ⟨A, c, rfl, us, hown, hr⟩ := RO.elems (P := P) hro
      by_cases hxne : xs = []
      · subst hxne
        clear hr
        cases A with
        | none =>
          refine (AnyE.slices_Clone_nil L 0 c w).mono fun en w' ⟨he, hw⟩ => ?_
          subst hw
          refine ⟨_, he, Grow.refl _ _, No, No, VS.ofOne (.nil fun _ h => h), ?_, fun _ h _ => h, fun b h => by rcases h with h | h <;> exact h.elim⟩
          rw [hpm]; exact ⟨rfl, fun _ => No, fun j v u h => by simp at h, fun i j b h => by simp at h, fun b => ⟨fun h => h.elim, fun ⟨_, _, h⟩ => h.elim⟩⟩
        | some a =>
          have := clone_empty L i0 z i0.size i0.bytes hi hz0 rfl rfl hzs hsz z23 a c w
          refine this.mono fun en w' ⟨v', he, hrow, hbel⟩ => ?_
          obtain ⟨hl1, hrow⟩ := hrow
          rcases hrow with ⟨rfl, _⟩ | ⟨g, cap, cur, rfl, hg1, hg2, hcap, hmax, hcur, hcells⟩
          · refine ⟨_, he, ⟨hbel.os, hbel.tape, hbel.output, hbel.size, fun k hk _ => hbel.block k hk⟩, No, No, VS.ofOne (.nil fun _ h => h), ?_, fun _ h _ => h, fun b h => by rcases h with h | h <;> exact h.elim⟩
            rw [hpm]; exact ⟨rfl, fun _ => No, fun j v u h => by simp at h, fun i j b h => by simp at h, fun b => ⟨fun h => h.elim, fun ⟨_, _, h⟩ => h.elim⟩⟩
          · refine ⟨_, he, ⟨hbel.os, hbel.tape, hbel.output, hbel.size, fun k hk _ => hbel.block k hk⟩, (fun b => b = g), No, ?_, ?_, fun _ h h2 => h2, fun b h => ?_⟩
            · exact VS.ofOne (.blk (fun _ => No) (vs := []) ⟨rfl, rfl, by omega, by simp, rfl, cap, by simp, by simp, hmax, by rw [hcs]; exact hcur⟩ hg2 (by simp) (by simp) (by simp) (fun b => ⟨.inl, fun h => h.elim id fun ⟨_, h, _⟩ => by simp at h⟩))
            · rw [hpm]; exact ⟨rfl, fun _ => No, fun j v u h => by simp at h, fun i j b h => by simp at h, fun b => ⟨fun h => h.elim, fun ⟨_, _, h⟩ => h.elim⟩⟩
            · rcases h with rfl | h
              · exact ⟨fun hh => by have := hX _ hh; omega, .inr hg1⟩
              · exact h.elim
      rcases hr with rfl | ⟨b, of, sz, hsz0, rfl, hlen, hok, hul, hlc, hcell, hel⟩
      · exact (hxne rfl).elim
      have hsze : sz = i0.size := by
        obtain ⟨x, r, rfl⟩ : ∃ x r, xs = x :: r := by cases xs with | nil => exact (hxne rfl).elim | cons x r => exact ⟨x, r, rfl⟩
        have h1 := hlen x (by simp)
        have h2 := List.all_eq_true.1 hall x (by simp)
        simp [hcs] at h2
        omega
      subst hsze
      have := AnyE.slices_Clone L i0 z i0.size i0.bytes hi hz0 rfl rfl hzs hsz z23 b of xs.length c us w hul (by simp only [maxLen]; omega) (by rw [← hbs]; exact hby) hcell hown.one
      refine this.mono fun en w' ⟨v', he, hrow, hnn, hbel⟩ => ?_
      obtain ⟨hl1, hrow⟩ := hrow
      rcases hrow with ⟨rfl, _⟩ | ⟨g, cap, cur, rfl, hg1, hg2, hcap, hmax, hcur, hcells⟩
      · exact absurd rfl hnn
      refine ⟨_, he, ⟨hbel.os, hbel.tape, hbel.output, hbel.size, fun k hk _ => hbel.block k hk⟩, (fun b => b = g), No, ?_, ?_, fun _ h h2 => h2, fun b h => ?_⟩
      · have hfl : (xs.map (·.map V.d)).flatten = xs.flatten.map V.d := by rw [List.map_flatten]
        refine VS.ofOne (.blk (fun _ => No) (vs := (xs.map (·.map V.d)).flatten) ⟨rfl, rfl, by omega, fun c hc => ?_, rfl, cap, by rw [List.length_map], by rw [List.length_map]; exact hcap, hmax, by rw [hcs]; exact hcur⟩ hg2 (fun j v u hv hu => ?_) (fun _ _ _ _ _ _ h => h.elim) (fun _ _ h => h) (fun b => ⟨.inl, fun h => h.elim id fun ⟨_, _, h⟩ => h.elim⟩))
        · obtain ⟨d, hd, rfl⟩ := List.mem_map.1 hc
          have := List.all_eq_true.1 hall d hd
          simpa using this
        · rw [hfl, List.getElem?_map] at hv
          obtain ⟨y, hy, rfl⟩ := Option.map_eq_some_iff.1 hv
          have hj : j < xs.length * i0.size := by
            have h1 := (List.getElem?_eq_some_iff.1 hy).1
            have h2 : xs.flatten.length = xs.length * i0.size := flat_len hlen
            omega
          have hu2 : us[j]? = some u := by
            rw [← hcells, List.getElem?_take, if_pos hj]
            simpa using hu
          refine .d (fun _ h => h) ((hel j y u hy hu2).mono fun k hk hkl => ⟨⟨hk.1, fun hh => by omega, fun h => h⟩, hbel.block k hkl⟩)
      · rw [hpm]; exact ⟨rfl, fun _ => No, fun j v u h => by simp at h, fun i j b h => by simp at h, fun b => ⟨fun h => h.elim, fun ⟨_, _, h⟩ => h.elim⟩⟩
      · rcases h with rfl | h
        · exact ⟨fun hh => by have := hX _ hh; omega, .inr hg1⟩
        · exact h.elim
end Go.Mir

set_option linter.unusedVariables false
namespace Go.Mir.Tryz
open Go Go.Proofs Go.Shelf
def repF : Nat → Nat
  | 99 => 117 | 105 => 97 | 165 => 118 | 166 => 119 | 169 => 121 | 170 => 120 | 206 => 130 | 212 => 116 | 240 => 131 | 241 => 132 | 263 => 128 | 264 => 129 | 276 => 139 | 277 => 140 | n => n
def repT : Nat → Nat
  | 0 => 0 | 3 => 3 | 4 => 4 | 5 => 5 | 9 => 9 | 20 => 20 | 37 => 45 | 46 => 94 | 51 => 179 | 53 => 182 | 70 => 165 | 72 => 167 | 75 => 170 | 76 => 171 | 80 => 174 | 109 => 162 | 127 => 185 | 146 => 180 | 148 => 183 | 164 => 193 | n => n
def repRen : Ren := ⟨repF, repT, fun n => n⟩
theorem repLays : Lays.n105 Tryz.prog repRen := by
  constructor <;> intros <;> kernel_rfl
theorem repExtra : Builder.Extra Tryz.prog repRen := by
  constructor
  · constructor <;> intros <;> kernel_rfl
  all_goals first
    | (intros; kernel_rfl)
    | (intro h; exact absurd h (by decide))
theorem repeatL_eq (l : List UInt8) (n : Nat) : Lib.repeatL l n = (List.replicate n l).flatten := by
  induction n with
  | zero => rfl
  | succ n ih => simp [Lib.repeatL, ih, List.replicate_succ]
def repGiven : List PM × (List T → Option Res) := ([.ro, .ro], fun
  | [.vs false [.d (.sc (.string s))], .vs false [.d (.sc (.int .i64 c))]] =>
    if 0 ≤ c ∧ s.size * c.toNat ≤ 140737488355328 ∧ c ≤ 9223372036854775807 then some (.str (bs (List.replicate c.toNat s.data.toList).flatten), []) else none
  | _ => none)
theorem sc_of {P : Program} {w : World} {ok : Nat → Prop} {v u : Value} {F : Nat → Prop} (h : TRe P w ok (.vs false [.d (.sc v)]) u F) : u = v := by
  obtain ⟨_, hl, Fc, g1, _, _⟩ := h
  have := g1 0 _ u rfl (by simp [cellsOf])
  cases this with
  | d _ hr => cases hr; rfl
  | blk _ hh => simp [Shape] at hh
theorem of_sc {P : Program} {w : World} {ok : Nat → Prop} {v : Value} (hv : plain v = true) : TRe P w ok (.vs false [.d (.sc v)]) v No :=
  ⟨fun h => (by cases h), by simp [cellsOf], fun _ => No, fun j x u hx hu => by
    cases j with
    | zero =>
      simp [cellsOf] at hx hu
      subst hx; subst hu
      exact .d (fun _ h => h) (.sc hv)
    | succ j => simp at hx, fun _ _ _ _ _ _ h => h.elim, fun b => ⟨fun h => h.elim, fun ⟨_, _, h⟩ => h.elim⟩⟩
theorem own_none {P : Program} {w : World} {ok : Nat → Prop} : OwnL P w ok [] [] No :=
  ⟨rfl, fun _ => No, fun j v u h => by simp at h, fun i j b h => by simp at h, fun b => ⟨fun h => h.elim, fun ⟨_, _, h⟩ => h.elim⟩⟩
theorem rep_ok {pm : FuncId → List PM} (hpm : pm 97 = [.ro, .ro]) {args : List T} {r : Res} (h : repGiven.2 args = some r) : CallR Tryz.prog pm 97 args r := by
  simp only [repGiven] at h
  split at h
  case h_2 => cases h
  rename_i s c
  split at h
  case isFalse => cases h
  rename_i hc
  obtain ⟨h0, h1, h2⟩ := hc
  cases h
  refine ⟨⟨_, Tryz.func97, by kernel_rfl, by kernel_rfl⟩, rfl, fun X w us Fa hX hl ha hd hx => ?_⟩
  match us, hl with
  | [u, v], _ =>
    obtain rfl := sc_of (ha 0 _ u rfl rfl)
    obtain rfl := sc_of (ha 1 _ v rfl rfl)
    obtain ⟨n, rfl⟩ := Int.eq_ofNat_of_zero_le h0
    have := Any.strings_Repeat repLays repExtra s n w (by omega) (by simpa using h1)
    refine this.mono fun en w' ⟨he, hb⟩ => ?_
    refine ⟨_, he, ⟨hb.os, hb.tape, hb.output, hb.size, fun k hk _ => hb.block k hk⟩, No, No, ?_, ?_, fun _ h _ => h, fun b h => by rcases h with h | h <;> exact h.elim⟩
    · have e : (bs (List.replicate (n : Int).toNat s.data.toList).flatten) = ⟨(Lib.repeatL s.data.toList n).toArray⟩ := by rw [repeatL_eq]; rfl
      rw [e]
      exact of_sc rfl
    · rw [hpm]; exact own_none
end Go.Mir.Tryz

set_option linter.unusedVariables false
set_option linter.unusedSimpArgs false
namespace Go.Mir.Tryz
open Go Go.Proofs Go.Shelf
def cloRen (f s t : Nat) : Ren := ⟨fun n => if n = 41 then f else n, fun n => if n = 22 then s else if n = 23 then t else n, fun n => n⟩
theorem cloS : SlLaysE0.n41 Tryz.prog (cloRen 88 24 9) := by
  constructor
  all_goals first
    | (intros; kernel_rfl)
    | exact ⟨_, by kernel_rfl, by kernel_rfl⟩
    | exact ⟨"slices.Clone[[]string,string]", by decide, by kernel_rfl⟩
theorem cloP : SlLaysE0.n41 Tryz.prog (cloRen 89 33 72) := by
  constructor
  all_goals first
    | (intros; kernel_rfl)
    | exact ⟨_, by kernel_rfl, by kernel_rfl⟩
    | exact ⟨"slices.Clone[[]quorum/api.Put,quorum/api.Put]", by decide, by kernel_rfl⟩
def infoOk (P : Program) (t : Nat) : Bool := match P.info? t with
  | some i => match i.zero with
    | some z => z.cells.size == i.size && decide (0 < i.size)
    | none => false
  | none => false
theorem clone_ok' {P : Program} {f s t : Nat} (L : SlLaysE0.n41 P (cloRen f s t)) (hi : infoOk P t = true) (hfn : ∃ fn, P.funcs[f]? = some fn ∧ (fn.name == "runtime.NumGoroutine") = false ∧ fn.body.isNone = false)
    {pm : FuncId → List PM} (hpm : pm f = [.ro]) {args : List T} {r : Res} (h : (cloneGiven P t).2 args = some r) : CallR P pm f args r := by
  unfold infoOk at hi
  split at hi
  · rename_i i hi0
    split at hi
    · rename_i z hz
      simp only [Bool.and_eq_true, beq_iff_eq, decide_eq_true_eq] at hi
      have hi1 : P.info? ((cloRen f s t).t 23) = some i := hi0
      exact clone_ok L hi1 hz hi.1 hi.2 (fun w => by simp [Go.sizeOf, typeInfo, hi1]) hfn hpm h
    · cases hi
  · cases hi
theorem cloS_ok {pm : FuncId → List PM} (hpm : pm 88 = [.ro]) {args : List T} {r : Res} (h : (cloneGiven Tryz.prog 9).2 args = some r) : CallR Tryz.prog pm 88 args r :=
  clone_ok' cloS (by decide +kernel) ⟨_, Tryz.func88, by kernel_rfl, by kernel_rfl⟩ hpm h
theorem cloP_ok {pm : FuncId → List PM} (hpm : pm 89 = [.ro]) {args : List T} {r : Res} (h : (cloneGiven Tryz.prog 72).2 args = some r) : CallR Tryz.prog pm 89 args r :=
  clone_ok' cloP (by decide +kernel) ⟨_, Tryz.func89, by kernel_rfl, by kernel_rfl⟩ hpm h
end Go.Mir.Tryz

set_option linter.unusedVariables false
set_option linter.unusedSimpArgs false
set_option linter.unusedSectionVars false
namespace Go.Mir
open Go Go.Proofs Go.Shelf Go.RowKit Go.Lib
variable {P : Program} {ρ : Ren}
structure InsL (P : Program) (ρ : Ren) : Prop where
  mixed : P.follows .mixedOrders = true
  f22 : Bears P (ρ.f 22) (Body2.n22 ρ)
  f29 : ∀ args w, (callFunc (ρ.f 29) args).run P w = ((Extern.SlicesOverlaps.overlaps #[(ρ.t 24), (ρ.t 24)] #[(ρ.t 4)] args).run P w).andThen fun v w' => .ok (.value v) w'
  t0 : P.underlying (ρ.t 0) = some (TypeDesc.tuple #[])
  a0 : ∀ w, (isAgg (ρ.t 0)).run P w = .ok false w
  z0 : ∀ w, (Go.sizeOf (ρ.t 0)).run P w = .ok 1 w
  v0 : ∀ w, (zeroValue (ρ.t 0)).run P w = .ok (Value.tuple #[]) w
  t3 : P.underlying (ρ.t 3) = some (TypeDesc.int IntKind.i64)
  a3 : ∀ w, (isAgg (ρ.t 3)).run P w = .ok false w
  z3 : ∀ w, (Go.sizeOf (ρ.t 3)).run P w = .ok 1 w
  v3 : ∀ w, (zeroValue (ρ.t 3)).run P w = .ok (Value.int IntKind.i64 0) w
  t4 : P.underlying (ρ.t 4) = some (TypeDesc.bool)
  a4 : ∀ w, (isAgg (ρ.t 4)).run P w = .ok false w
  z4 : ∀ w, (Go.sizeOf (ρ.t 4)).run P w = .ok 1 w
  v4 : ∀ w, (zeroValue (ρ.t 4)).run P w = .ok (Value.bool false) w
  t24 : P.underlying (ρ.t 24) = some (TypeDesc.slice (ρ.t 9))
  a24 : ∀ w, (isAgg (ρ.t 24)).run P w = .ok false w
  z24 : ∀ w, (Go.sizeOf (ρ.t 24)).run P w = .ok 1 w
  v24 : ∀ w, (zeroValue (ρ.t 24)).run P w = .ok (Value.slice none 0 0) w
theorem run_copy_cellsK (w : World) (dT sT ty elem : TypeId) (size b o dLen dCap : Nat) (a : Addr) (sLen sCap : Nat) (cs : List Value)
    (hu : P.underlying dT = some (.slice elem)) (hs : (P.info? elem).map (·.size) = some size) (hn : cs.length = Nat.min sLen dLen * size)
    (hsrc : ∀ j v, cs[j]? = some v → w.cell? (a.add j) = some v) (hc : ∀ j, j < cs.length → (w.cell? ⟨b, o + j, none⟩).isSome = true) (hf : ∀ j, j < cs.length → w.frozen? ⟨b, o + j, none⟩ = false) (h1 : ∀ v ∈ cs, v.oneCell' = true) :
    (Builtin.copy_ #[dT, sT] ty #[.slice (some ⟨b, o, none⟩) dLen dCap, .slice (some a) sLen sCap]).run P w = .ok (goInt (Nat.min sLen dLen)) (w.setCells b o cs) := by
  have hl := run_loadCells_list (P := P) w a cs hsrc
  have hst := run_storeCells_cells (P := P) b o cs 0 w (by simpa using hc) (by simpa using hf) h1
  cases hq : P.info? elem with
  | none => simp [hq] at hs
  | some i =>
    have hi : i.size = size := by simpa [hq] using hs
    obtain ⟨k, hk⟩ : ∃ k, k = Nat.min sLen dLen := ⟨_, rfl⟩
    rw [← hk] at hn ⊢
    rw [hn] at hl
    simp [Builtin.copy_, run_underlying hu, Builtin.lenOf, Builtin.firstCells, sizeOf, typeInfo, hq, hi, ← hk, hl, hst]
section
variable (L : InsL P ρ) (i0 : TypeInfo) (z : Value) (size : Nat) (hi : P.info? (ρ.t 9) = some i0) (hz0 : i0.zero = some z) (hz1 : i0.size = size) (hzs : z.cells.size = size) (hsz : 0 < size) (z9 : ∀ w, (Go.sizeOf (ρ.t 9)).run P w = .ok size w)
include L hi hz1 hsz z9
set_option maxHeartbeats 4000000 in
set_option maxRecDepth 100000 in
theorem ins_shift (b off n c i vb voff vc : Nat) (cs vs : List Value) (w : World) (hin0 : i < n) (hroom : n + 1 ≤ c) (hc63 : c ≤ 9223372036854775807) (hvb : vb ≠ b)
    (hcl : cs.length = n * size) (hvl : vs.length = size)
    (hcs : ∀ j v, cs[j]? = some v → w.cell? ⟨b, off + j, none⟩ = some v) (hsp : ∀ j, j < (n + 1) * size → (w.cell? ⟨b, off + j, none⟩).isSome = true) (hfz : ∀ j, j < (n + 1) * size → w.frozen? ⟨b, off + j, none⟩ = false)
    (hvs : ∀ j v, vs[j]? = some v → w.cell? ⟨vb, voff + j, none⟩ = some v) (h1c : ∀ v ∈ cs, v.oneCell' = true) (h1v : ∀ v ∈ vs, v.oneCell' = true)
    (tA tB : TypeId) (kA kB : Nat) (hsa : w.shape? vb = some (tA, kA)) (hsb : w.shape? b = some (tB, kB)) (hkB : kB ≠ 0) (hfa : w.frozen? ⟨vb, voff, none⟩ = false) (hfe : w.frozen? ⟨vb, kA, none⟩ = false) :
    Calls P (ρ.f 22) #[.slice (some ⟨b, off, none⟩) n c, .int .i64 i, .slice (some ⟨vb, voff, none⟩) 1 vc] w fun e w' =>
      e = .returned (.slice (some ⟨b, off, none⟩) (n + 1) c) ∧ w' = (w.drew.setCells b (off + (i * size + size)) (cs.drop (i * size))).setCells b (off + i * size) vs := by
  have t0 := L.t0; have a0 := L.a0; have z0 := L.z0; have v0 := L.v0; have t3 := L.t3; have a3 := L.a3; have z3 := L.z3; have v3 := L.v3; have t4 := L.t4; have a4 := L.a4; have z4 := L.z4; have v4 := L.v4; have t24 := L.t24; have a24 := L.a24; have z24 := L.z24; have v24 := L.v24
  have u0 := run_underlying L.t0; have u3 := run_underlying L.t3; have u4 := run_underlying L.t4; have u24 := run_underlying L.t24
  have hz2 : ¬ ((i : Int) = (n : Int)) := by omega
  have hszz : (P.info? (ρ.t 9)).map (·.size) = some size := by rw [hi]; simp [hz1]
  have hov : ∀ lb cb, (callFunc (ρ.f 29) #[.slice (some ⟨vb, voff, none⟩) 1 vc, .slice (some ⟨b, off + (i * size + size), none⟩) lb cb]).run P w = .ok (.value (.bool false)) w := fun lb cb => by
    rw [L.f29,
      Lib.run_overlaps_apart w (ρ.t 24) (ρ.t 4) (ρ.t 9) L.t24 size z9 ⟨vb, voff, none⟩ ⟨b, off + (i * size + size), none⟩ 1 vc lb cb hvb tA tB kA kB hsa hsb hkB hfa hfe]
    rfl
  have hmul : (n - i) * size = n * size - i * size := Nat.sub_mul n i size
  have hile : i * size ≤ n * size := Nat.mul_le_mul_right _ (by omega)
  have hn1 : (n + 1) * size = n * size + size := Nat.succ_mul n size
  have hi1 : (i + 1) * size = i * size + size := Nat.succ_mul i size
  have hdl : (cs.drop (i * size)).length = (n - i) * size := by rw [List.length_drop, hcl, hmul]
  have mixed := L.mixed
  have hw1 : IntKind.i64.wrap ((i : Int) + 1) = (i : Int) + 1 := by rw [IntKind.wrap_i64]; omega
  have hb1 : (0 : Int) ≤ (i : Int) + 1 := by omega
  have hin : i ≤ n := by omega
  have htn : ((i : Int) + 1).toNat = i + 1 := by omega
  have hb2 : ¬ (c = i + 1) := by omega
  have hb3 : (i : Int) ≤ (n : Int) + 1 := by omega
  have hb4 : ¬ (c = i) := by omega
  have hmin1 : Nat.min (n + 1 - i) (n - i) = n - i := by simp only [Nat.min_def]; split <;> omega
  have hmin2 : Nat.min 1 (n + 1 - i) = 1 := by simp only [Nat.min_def]; split <;> omega
  have hcp1 : ∀ ty dc sc, (Builtin.copy_ #[(ρ.t 24), (ρ.t 24)] ty #[.slice (some ⟨b, off + (i * size + size), none⟩) (n - i) dc, .slice (some ⟨b, off + i * size, none⟩) (n + 1 - i) sc]).run P w.drew = .ok (goInt ((n - i : Nat) : Int)) (w.drew.setCells b (off + (i * size + size)) (cs.drop (i * size))) := fun ty dc sc => by
    have h := run_copy_cellsK (P := P) w.drew (ρ.t 24) (ρ.t 24) ty (ρ.t 9) size b (off + (i * size + size)) (n - i) dc ⟨b, off + i * size, none⟩ (n + 1 - i) sc (cs.drop (i * size)) L.t24 hszz (by rw [hdl, hmin1])
      (fun j v hj => by rw [Addr.add_lit, Nat.add_assoc]; exact hcs (i * size + j) v (by rwa [List.getElem?_drop] at hj))
      (fun j hj => by rw [Nat.add_assoc]; exact hsp _ (by omega)) (fun j hj => by rw [Nat.add_assoc]; exact hfz _ (by omega)) (fun v hv => h1c v (List.mem_of_mem_drop hv))
    rw [hmin1] at h
    exact h
  obtain ⟨W1, hW1⟩ : ∃ W1, W1 = w.drew.setCells b (off + (i * size + size)) (cs.drop (i * size)) := ⟨_, rfl⟩
  have hsp1 : ∀ k, k < (n + 1) * size → (W1.cell? ⟨b, off + k, none⟩).isSome = true := fun k hk => by
    rw [hW1]
    exact isSome_setCells b _ _ _ (fun j hj => by rw [Nat.add_assoc]; exact hsp _ (by omega)) _ (hsp k hk)
  have hcp2 : ∀ (W : World), (∀ x, W.cell? x = W1.cell? x) → (∀ x, W.frozen? x = W1.frozen? x) → ∀ ty dc, (Builtin.copy_ #[(ρ.t 24), (ρ.t 24)] ty #[.slice (some ⟨b, off + i * size, none⟩) (n + 1 - i) dc, .slice (some ⟨vb, voff, none⟩) 1 vc]).run P W = .ok (goInt 1) (W.setCells b (off + i * size) vs) := fun W hWc hWf ty dc => by
    have h := run_copy_cellsK (P := P) W (ρ.t 24) (ρ.t 24) ty (ρ.t 9) size b (off + i * size) (n + 1 - i) dc ⟨vb, voff, none⟩ 1 vc vs L.t24 hszz (by rw [hvl, hmin2, Nat.one_mul])
      (fun j v hj => by
        rw [Addr.add_lit, hWc, hW1, World.cell?_setCells_out b _ _ _ _ (fun h _ => absurd h hvb)]
        exact hvs j v hj)
      (fun j hj => by rw [hWc, Nat.add_assoc]; exact hsp1 _ (by omega)) (fun j hj => by rw [hWf, hW1, World.frozen?_setCells, Nat.add_assoc]; exact hfz _ (by omega)) h1v
    rw [hmin2] at h
    exact h
  rw [← hW1] at hcp1
  obtain ⟨_, _, F22⟩ := L.f22
  go_enter F22, Body2.n22_ntmps ρ
  go_wp2_with (simp only [hov])
  go_region_law_o (refine step_copy_runI rfl _ _ (ρ.t 24) (ρ.t 24) rfl _ _ (by simp [Act.eval, Act.put]) (by simp [Act.eval, Act.put]) (hcp1 _ _ _) ?_)
  go_wp2_with (at_builtin; refine wpList_copy_runI _ rfl _ _ (ρ.t 24) (ρ.t 24) rfl _ _ rfl rfl (hcp2 _ (fun _ => rfl) (fun _ => rfl) _ _) ?_)
  go_ret
  first | exact ⟨rfl, rfl⟩ | exact ⟨rfl, by rw [hW1]⟩
set_option maxHeartbeats 4000000 in
set_option maxRecDepth 100000 in
theorem ins_end_room (b n c : Nat) (vs : List Value) (vb voff vc : Nat) (w : World) (hvl : vs.length = size) (hroom : n + 1 ≤ c) (hc63 : c ≤ 9223372036854775807)
    (hsp : ∀ j, j < vs.length → (w.cell? ⟨b, 0 + n * i0.size + j, none⟩).isSome = true) (hfz : ∀ j, j < vs.length → w.frozen? ⟨b, 0 + n * i0.size + j, none⟩ = false)
    (hvs : ∀ j v, vs[j]? = some v → w.cell? ⟨vb, voff + j, none⟩ = some v) (h1v : ∀ v ∈ vs, v.oneCell' = true) :
    Calls P (ρ.f 22) #[.slice (some ⟨b, 0, none⟩) n c, .int .i64 n, .slice (some ⟨vb, voff, none⟩) 1 vc] w fun e w' => e = .returned (.slice (some ⟨b, 0, none⟩) (n + 1) c) ∧ w' = w.setCells b (0 + n * i0.size) vs := by
  have t0 := L.t0; have a0 := L.a0; have z0 := L.z0; have v0 := L.v0; have t3 := L.t3; have a3 := L.a3; have z3 := L.z3; have v3 := L.v3; have t4 := L.t4; have a4 := L.a4; have z4 := L.z4; have v4 := L.v4; have t24 := L.t24; have a24 := L.a24; have z24 := L.z24; have v24 := L.v24
  have u0 := run_underlying L.t0; have u3 := run_underlying L.t3; have u4 := run_underlying L.t4; have u24 := run_underlying L.t24
  have mixed := L.mixed
  have hsrc : Src P i0.size (ρ.t 24) (.slice (some ⟨vb, voff, none⟩) 1 vc) 1 vs w := by
    rw [hz1]
    exact Src.ofSlice (w := w) L.t24 ⟨vb, voff, none⟩ 1 vc vs (by rw [hvl, Nat.one_mul]) (fun j u hj => by rw [Addr.add_lit]; exact hvs j u hj) h1v
  have hrun : ∀ ty, (Builtin.append_ #[(ρ.t 24), (ρ.t 24)] ty #[.slice (some ⟨b, 0, none⟩) n c, .slice (some ⟨vb, voff, none⟩) 1 vc]).run P w = _ := fun ty =>
    run_append_room_src (P := P) w (ρ.t 24) (ρ.t 24) ty (ρ.t 9) i0 L.t24 hi b 0 n c _ 1 vs hsrc hroom hsp hfz
  clear hsp hfz hvs
  obtain ⟨_, _, F22⟩ := L.f22
  go_enter F22, Body2.n22_ntmps ρ
  go_wp2_with (at_builtin; refine Lib.wpList_append_run _ rfl _ _ _ _ rfl _ _ rfl rfl _ _ (hrun _) ?_)
  all_goals (go_ret; exact ⟨rfl, by rw [Nat.zero_add, hz1]⟩)
include hz0 hzs in
set_option maxHeartbeats 4000000 in
set_option maxRecDepth 100000 in
theorem ins_end_grow (base : Option Addr) (n c : Nat) (cs vs : List Value) (vb voff vc : Nat) (w : World) (hvl : vs.length = size) (hnc : n ≤ c) (hroom : c < n + 1) (hmax : n + 1 ≤ maxLen) (hbig : (n + 1) * i0.bytes ≤ 140737488355328)
    (hold : (Builtin.firstCells i0.size n (.slice base n c)).run P w.drew = .ok cs.toArray w.drew) (hnil : base = none → n = 0)
    (hvs : ∀ j v, vs[j]? = some v → w.cell? ⟨vb, voff + j, none⟩ = some v) (h1v : ∀ v ∈ vs, v.oneCell' = true) :
    Calls P (ρ.f 22) #[.slice base n c, .int .i64 n, .slice (some ⟨vb, voff, none⟩) 1 vc] w fun e w' =>
      e = .returned (.slice (some ⟨w.heap.size, 0, none⟩) (n + 1) (grownCap w (n + 1) c (ρ.t 9))) ∧
      w' = w.drew.alloc (.cells ((cs ++ vs).toArray ++ Builtin.zeroCells z.cells (grownCap w (n + 1) c (ρ.t 9) - (n + 1))) (ρ.t 9)) := by
  have t0 := L.t0; have a0 := L.a0; have z0 := L.z0; have v0 := L.v0; have t3 := L.t3; have a3 := L.a3; have z3 := L.z3; have v3 := L.v3; have t4 := L.t4; have a4 := L.a4; have z4 := L.z4; have v4 := L.v4; have t24 := L.t24; have a24 := L.a24; have z24 := L.z24; have v24 := L.v24
  have u0 := run_underlying L.t0; have u3 := run_underlying L.t3; have u4 := run_underlying L.t4; have u24 := run_underlying L.t24
  have mixed := L.mixed
  have hmax' : n + 1 ≤ 9223372036854775807 := by unfold maxLen at hmax; omega
  have hsrc : Src P i0.size (ρ.t 24) (.slice (some ⟨vb, voff, none⟩) 1 vc) 1 vs w := by
    rw [hz1]
    exact Src.ofSlice (w := w) L.t24 ⟨vb, voff, none⟩ 1 vc vs (by rw [hvl, Nat.one_mul]) (fun j u hj => by rw [Addr.add_lit]; exact hvs j u hj) h1v
  have hrun : ∀ ty, (Builtin.append_ #[(ρ.t 24), (ρ.t 24)] ty #[.slice base n c, .slice (some ⟨vb, voff, none⟩) 1 vc]).run P w = .ok (.slice (some ⟨w.heap.size, 0, none⟩) (n + 1) (grownCap w (n + 1) c (ρ.t 9))) (w.drew.alloc (.cells ((cs ++ vs).toArray ++ Builtin.zeroCells z.cells (grownCap w (n + 1) c (ρ.t 9) - (n + 1))) (ρ.t 9))) := fun ty =>
    run_append_grow_src (P := P) w (ρ.t 24) (ρ.t 24) ty (ρ.t 9) i0 z L.t24 hi hz0 base n c cs hold _ 1 vs hsrc hroom (by omega) (growslice_fits hroom hbig)
  obtain ⟨W, hW⟩ : ∃ W, W = w.drew.alloc (.cells ((cs ++ vs).toArray ++ Builtin.zeroCells z.cells (grownCap w (n + 1) c (ρ.t 9) - (n + 1))) (ρ.t 9)) := ⟨_, rfl⟩
  rw [← hW] at hrun ⊢
  clear hvs hold hW
  obtain ⟨_, _, F22⟩ := L.f22
  cases base with
  | none =>
    have h0 := hnil rfl
    subst h0
    go_enter F22, Body2.n22_ntmps ρ
    go_wp2_with (at_builtin; refine Lib.wpList_append_run _ rfl _ _ _ _ rfl _ _ rfl rfl _ _ (hrun _) ?_)
    all_goals (go_ret; exact ⟨rfl, rfl⟩)
  | some a =>
    obtain ⟨ab, ao, asp⟩ := a
    go_enter F22, Body2.n22_ntmps ρ
    go_wp2_with (at_builtin; refine Lib.wpList_append_run _ rfl _ _ _ _ rfl _ _ rfl rfl _ _ (hrun _) ?_)
    all_goals (go_ret; exact ⟨rfl, rfl⟩)
include hz0 hzs in
set_option maxHeartbeats 4000000 in
set_option maxRecDepth 100000 in
theorem ins_grow (b off n c i vb voff vc : Nat) (cs vs : List Value) (w : World) (hin0 : i < n) (hnc : n ≤ c) (hroom : c < n + 1) (hmax : n + 1 ≤ maxLen) (hbig : (n + 1) * i0.bytes ≤ 140737488355328)
    (hcl : cs.length = n * size) (hvl : vs.length = size) (hvl0 : 0 < vs.length)
    (hcs : ∀ j v, cs[j]? = some v → w.cell? ⟨b, off + j, none⟩ = some v)
    (hvs : ∀ j v, vs[j]? = some v → w.cell? ⟨vb, voff + j, none⟩ = some v) (h1c : ∀ v ∈ cs, v.oneCell' = true) (h1v : ∀ v ∈ vs, v.oneCell' = true) :
    Calls P (ρ.f 22) #[.slice (some ⟨b, off, none⟩) n c, .int .i64 i, .slice (some ⟨vb, voff, none⟩) 1 vc] w fun e w' =>
      e = .returned (.slice (some ⟨w.heap.size, 0, none⟩) (n + 1) (grownCap w (n + 1) c (ρ.t 9))) ∧
      w' = (((w.alloc (.cells ((cs.take (i * size)).toArray ++ Builtin.zeroCells z.cells (n + 1 - i) ++ Builtin.zeroCells z.cells (grownCap w (n + 1) c (ρ.t 9) - (n + 1))) (ρ.t 9))).drew.setCells w.heap.size (i * size) vs).drew).setCells w.heap.size (i * size + size) (cs.drop (i * size)) := by
  have t0 := L.t0; have a0 := L.a0; have z0 := L.z0; have v0 := L.v0; have t3 := L.t3; have a3 := L.a3; have z3 := L.z3; have v3 := L.v3; have t4 := L.t4; have a4 := L.a4; have z4 := L.z4; have v4 := L.v4; have t24 := L.t24; have a24 := L.a24; have z24 := L.z24; have v24 := L.v24
  have u0 := run_underlying L.t0; have u3 := run_underlying L.t3; have u4 := run_underlying L.t4; have u24 := run_underlying L.t24
  have mixed := L.mixed
  have hz2 : ¬ ((i : Int) = (n : Int)) := by omega
  have hz3 : (c : Int) < (n : Int) + 1 := by omega
  have hszz : (P.info? (ρ.t 9)).map (·.size) = some size := by rw [hi]; simp [hz1]
  have hile : i * size ≤ n * size := Nat.mul_le_mul_right _ (by omega)
  have hilt : i * size + size ≤ n * size := by have := Nat.mul_le_mul_right size (show i + 1 ≤ n by omega); rw [Nat.succ_mul] at this; exact this
  have hn1 : (n + 1) * size = n * size + size := Nat.succ_mul n size
  have hmul : (n - i) * size = n * size - i * size := Nat.sub_mul n i size
  have hbw : b < w.heap.size := block_lt_of_cell (hcs 0 _ (List.getElem?_eq_getElem (by omega)))
  have hvw : vb < w.heap.size := block_lt_of_cell (hvs 0 _ (List.getElem?_eq_getElem (by omega)))
  have hkk : (n : Int) + 1 - (i : Int) = ((n + 1 - i : Nat) : Int) := by omega
  have hik : i + (n + 1 - i) = n + 1 := by omega
  have hold : (Builtin.firstCells i0.size i (.slice (some ⟨b, off, none⟩) i c)).run P w.drew = .ok (cs.take (i * size)).toArray w.drew := by
    rw [hz1]
    exact run_firstCells_some w.drew size i ⟨b, off, none⟩ i c (cs.take (i * size)) (by rw [List.length_take]; omega) (fun j v hj => by
      rw [Addr.add_lit]
      rw [List.getElem?_take] at hj
      split at hj
      · exact hcs j v hj
      · cases hj)
  have hmax' : n + 1 ≤ 9223372036854775807 := by unfold maxLen at hmax; omega
  have hrz : ∀ ty, (Builtin.append_ #[(ρ.t 24), (ρ.t 3)] ty #[.slice (some ⟨b, off, none⟩) i c, .int .i64 ((n : Int) + 1 - (i : Int))]).run P w =
      .ok (.slice (some ⟨w.heap.size, 0, none⟩) (n + 1) (grownCap w (n + 1) c (ρ.t 9))) (w.drew.alloc (.cells ((cs.take (i * size)).toArray ++ Builtin.zeroCells z.cells (n + 1 - i) ++ Builtin.zeroCells z.cells (grownCap w (n + 1) c (ρ.t 9) - (n + 1))) (ρ.t 9))) := fun ty => by
    have h := Lib.run_append_grow_zeros w (ρ.t 24) (ρ.t 3) ty (ρ.t 9) i0 z .i64 .i64 L.t24 L.t3 hi hz0 (some ⟨b, off, none⟩) i c (cs.take (i * size)) hold (n + 1 - i) (by omega) (by omega) (by omega) (by omega) (Nat.le_trans (Nat.mul_le_mul_right _ (show n + 1 - i ≤ n + 1 by omega)) (by omega)) (by rw [hik]; exact growslice_fits hroom hbig)
    rw [hik] at h
    rw [hkk]
    exact h
  obtain ⟨G, hG⟩ : ∃ G, G = grownCap w (n + 1) c (ρ.t 9) := ⟨_, rfl⟩
  obtain ⟨ROW, hROW⟩ : ∃ ROW : Array Value, ROW = (cs.take (i * size)).toArray ++ Builtin.zeroCells z.cells (n + 1 - i) ++ Builtin.zeroCells z.cells (G - (n + 1)) := ⟨_, rfl⟩
  rw [← hG] at hrz ⊢
  rw [← hROW] at hrz ⊢
  have hRl : (n + 1) * size ≤ ROW.size := by
    rw [hROW]
    have h1 : (Builtin.zeroCells z.cells (n + 1 - i)).size = (n + 1 - i) * size := by rw [size_zeroCells, hzs]
    have h2 : (n + 1 - i) * size = (n + 1) * size - i * size := Nat.sub_mul _ _ _
    rw [Array.size_append, Array.size_append, h1, List.size_toArray, List.length_take, hcl]
    omega
  obtain ⟨W1, hW1⟩ : ∃ W1, W1 = w.drew.alloc (.cells ROW (ρ.t 9)) := ⟨_, rfl⟩
  rw [← hW1] at hrz
  have hN : ∀ j, j < (n + 1) * size → (W1.cell? ⟨w.heap.size, j, none⟩).isSome = true := fun j hj => by
    rw [hW1, World.cell?_alloc_at (w := w.drew) ROW _ w.heap.size j rfl, Array.getElem?_eq_getElem (by omega)]; rfl
  have hNf : ∀ j, W1.frozen? ⟨w.heap.size, j, none⟩ = false := fun j => by rw [hW1]; exact World.frozen?_alloc_at (w := w.drew) ROW _ w.heap.size j rfl
  have hOb : ∀ j v, w.cell? ⟨b, j, none⟩ = some v → W1.cell? ⟨b, j, none⟩ = some v := fun j v h => by rw [hW1, World.cell?_alloc_past (w := w.drew) _ b j hbw]; exact h
  have hOv : ∀ j v, w.cell? ⟨vb, j, none⟩ = some v → W1.cell? ⟨vb, j, none⟩ = some v := fun j v h => by rw [hW1, World.cell?_alloc_past (w := w.drew) _ vb j hvw]; exact h
  have hmin2 : Nat.min 1 (n + 1 - i) = 1 := by simp only [Nat.min_def]; split <;> omega
  have hmin1 : Nat.min (n - i) (n - i) = n - i := Nat.min_self _
  have hcpA : ∀ (W : World), (∀ x, W.cell? x = W1.cell? x) → (∀ x, W.frozen? x = W1.frozen? x) → ∀ ty dc, (Builtin.copy_ #[(ρ.t 24), (ρ.t 24)] ty #[.slice (some ⟨w.heap.size, i * size, none⟩) (n + 1 - i) dc, .slice (some ⟨vb, voff, none⟩) 1 vc]).run P W = .ok (goInt 1) (W.setCells w.heap.size (i * size) vs) := fun W hWc hWf ty dc => by
    have h := run_copy_cellsK (P := P) W (ρ.t 24) (ρ.t 24) ty (ρ.t 9) size w.heap.size (i * size) (n + 1 - i) dc ⟨vb, voff, none⟩ 1 vc vs L.t24 hszz (by rw [hvl, hmin2, Nat.one_mul])
      (fun j v hj => by rw [Addr.add_lit, hWc]; exact hOv _ v (hvs j v hj))
      (fun j hj => by rw [hWc]; exact hN _ (by omega)) (fun j hj => by rw [hWf]; exact hNf _) h1v
    rw [hmin2] at h
    exact h
  have hGn : n + 1 ≤ G := by rw [hG]; exact grownCap_ge w _ _ _
  have hG63 : G ≤ 9223372036854775807 := by
    have := grownCap_le_maxLen w (n + 1) c (ρ.t 9) hmax
    rw [← hG] at this
    unfold maxLen at this
    omega
  have hGi : ¬ (G = i) := by omega
  have hGim : ¬ (G = i + 1) := by omega
  have hci : ¬ (c = i) := by omega
  have hbN : b ≠ w.heap.size := by omega
  have hdl : (cs.drop (i * size)).length = (n - i) * size := by rw [List.length_drop, hcl, hmul]
  have hcpB : ∀ (W : World), (∀ x, W.cell? x = (W1.setCells w.heap.size (i * size) vs).cell? x) → (∀ x, W.frozen? x = (W1.setCells w.heap.size (i * size) vs).frozen? x) → ∀ ty dc sc, (Builtin.copy_ #[(ρ.t 24), (ρ.t 24)] ty #[.slice (some ⟨w.heap.size, i * size + size, none⟩) (n - i) dc, .slice (some ⟨b, off + i * size, none⟩) (n - i) sc]).run P W = .ok (goInt ((n - i : Nat) : Int)) (W.setCells w.heap.size (i * size + size) (cs.drop (i * size))) := fun W hWc hWf ty dc sc => by
    have h := run_copy_cellsK (P := P) W (ρ.t 24) (ρ.t 24) ty (ρ.t 9) size w.heap.size (i * size + size) (n - i) dc ⟨b, off + i * size, none⟩ (n - i) sc (cs.drop (i * size)) L.t24 hszz (by rw [hdl, hmin1])
      (fun j v hj => by
        rw [Addr.add_lit, hWc, World.cell?_setCells_out _ _ _ _ _ (fun h _ => absurd h hbN), Nat.add_assoc]
        exact hOb _ v (hcs (i * size + j) v (by rwa [List.getElem?_drop] at hj)))
      (fun j hj => by rw [hWc]; exact isSome_setCells _ _ _ _ (fun t ht => hN _ (by omega)) _ (hN _ (by omega)))
      (fun j hj => by rw [hWf, World.frozen?_setCells]; exact hNf _) (fun v hv => h1c v (List.mem_of_mem_drop hv))
    rw [hmin1] at h
    exact h
  subst hW1
  have hE1 : ∀ x, ((w.alloc (.cells ROW (ρ.t 9))).drew).cell? x = (w.drew.alloc (.cells ROW (ρ.t 9))).cell? x := fun x => rfl
  have hE2 : ∀ x, ((w.alloc (.cells ROW (ρ.t 9))).drew).frozen? x = (w.drew.alloc (.cells ROW (ρ.t 9))).frozen? x := fun x => rfl
  have hF1 : ∀ x, (((w.alloc (.cells ROW (ρ.t 9))).drew.setCells w.heap.size (i * size) vs).drew).cell? x = ((w.drew.alloc (.cells ROW (ρ.t 9))).setCells w.heap.size (i * size) vs).cell? x := fun x => by
    rw [show (w.alloc (.cells ROW (ρ.t 9))).drew = w.drew.alloc (.cells ROW (ρ.t 9)) from rfl]; rfl
  have hF2 : ∀ x, (((w.alloc (.cells ROW (ρ.t 9))).drew.setCells w.heap.size (i * size) vs).drew).frozen? x = ((w.drew.alloc (.cells ROW (ρ.t 9))).setCells w.heap.size (i * size) vs).frozen? x := fun x => by
    rw [show (w.alloc (.cells ROW (ρ.t 9))).drew = w.drew.alloc (.cells ROW (ρ.t 9)) from rfl]; rfl
  have hw1 : IntKind.i64.wrap ((i : Int) + 1) = (i : Int) + 1 := by rw [IntKind.wrap_i64]; omega
  have hb1 : (0 : Int) ≤ (i : Int) + 1 := by omega
  have hin : i ≤ n := by omega
  have htn : ((i : Int) + 1).toNat = i + 1 := by omega
  have hb3 : (i : Int) ≤ (n : Int) := by omega
  have hi1 : (i + 1) * size = i * size + size := Nat.succ_mul i size
  clear hkk hik hold hROW hG hRl hn1 hmul
  obtain ⟨_, _, F22⟩ := L.f22
  go_enter F22, Body2.n22_ntmps ρ
  go_wp2_with (first
    | (at_builtin; refine Lib.wpList_append_run _ rfl _ _ _ _ rfl _ _ rfl rfl _ _ (hrz _) ?_)
    | (at_builtin; refine wpList_copy_runI _ rfl _ _ (ρ.t 24) (ρ.t 24) rfl _ _ rfl rfl (hcpA _ hE1 hE2 _ _) ?_)
    | (at_builtin; refine wpList_copy_runI _ rfl _ _ (ρ.t 24) (ρ.t 24) rfl _ _ rfl rfl (hcpB _ (fun _ => rfl) (fun _ => rfl) _ _ _) ?_))
  go_region_law_o (refine step_copy_runI rfl _ _ (ρ.t 24) (ρ.t 24) rfl (.slice (some ⟨w.heap.size, i * size + size, none⟩) (n - i) (G - (i + 1))) (.slice (some ⟨b, off + i * size, none⟩) (n - i) (c - i)) (by simp [Act.eval, Act.put]) (by simp [Act.eval, Act.put]) (hcpB _ hF1 hF2 (ρ.t 3) (G - (i + 1)) (c - i)) ?_)
  go_wp2
  go_ret
  exact ⟨rfl, rfl⟩
end
theorem heap_setCells_out (b : Nat) : ∀ (vs : List Value) (o : Nat) (w : World) (k : Nat), k ≠ b → (w.setCells b o vs).heap[k]? = w.heap[k]?
  | [], _, _, _, _ => rfl
  | v :: r, o, w, k, h => by rw [World.setCells, heap_setCells_out b r (o + 1) _ k h, Below.heap_setCell _ _ _ _ h]
theorem heap_setCells_in (b : Nat) (e : TypeId) (fz : Nat × Nat) : ∀ (vs : List Value) (o : Nat) (w : World) (cur : Array Value), w.heap[b]? = some (.cells cur e fz) → ∃ cur', (w.setCells b o vs).heap[b]? = some (.cells cur' e fz) ∧ cur'.size = cur.size
  | [], _, _, cur, h => ⟨cur, h, rfl⟩
  | v :: r, o, w, cur, h => by
    have h1 : (w.setCell ⟨b, o, none⟩ v).heap[b]? = some (.cells (cur.setIfInBounds o v) e fz) := by
      simp only [World.setCell, Array.getElem?_modify, if_true, h, Option.map_some]
      rfl
    obtain ⟨cur', h2, h3⟩ := heap_setCells_in b e fz r (o + 1) _ _ h1
    exact ⟨cur', h2, by rw [h3, Array.size_setIfInBounds]⟩
theorem size_setCells (b : Nat) : ∀ (vs : List Value) (o : Nat) (w : World), (w.setCells b o vs).heap.size = w.heap.size
  | [], _, _ => rfl
  | v :: r, o, w => by rw [World.setCells, size_setCells b r]; simp [World.setCell]
theorem os_setCells (b : Nat) : ∀ (vs : List Value) (o : Nat) (w : World), (w.setCells b o vs).os = w.os ∧ (w.setCells b o vs).tape = w.tape ∧ (w.setCells b o vs).output = w.output
  | [], _, _ => ⟨rfl, rfl, rfl⟩
  | v :: r, o, w => by rw [World.setCells]; exact os_setCells b r (o + 1) _
theorem cell?_cells {w : World} {g j : Nat} {cur : Array Value} {e : TypeId} {fz : Nat × Nat} (h : w.heap[g]? = some (.cells cur e fz)) : w.cell? ⟨g, j, none⟩ = cur[j]? := by
  simp [World.cell?, h]
theorem ins_cells {cs vs : List Value} {i n size : Nat} (hin : i ≤ n) (hcl : cs.length = n * size) (hvl : vs.length = size) {cur' : Array Value} (hsz : (n + 1) * size ≤ cur'.size)
    (h1 : ∀ j, j < i * size → cur'[j]? = cs[j]?) (h2 : ∀ j, j < size → cur'[i * size + j]? = vs[j]?) (h3 : ∀ j, j < (n - i) * size → cur'[i * size + size + j]? = cs[i * size + j]?) :
    cur'.toList.take ((n + 1) * size) = cs.take (i * size) ++ vs ++ cs.drop (i * size) := by
  have hile : i * size ≤ n * size := Nat.mul_le_mul_right _ hin
  have hn1 : (n + 1) * size = n * size + size := Nat.succ_mul n size
  have hmul : (n - i) * size = n * size - i * size := Nat.sub_mul n i size
  apply List.ext_getElem?
  intro j
  have hL : (cs.take (i * size)).length = i * size := by rw [List.length_take]; omega
  rw [List.getElem?_take]
  by_cases hj : j < (n + 1) * size
  · rw [if_pos hj, Array.getElem?_toList]
    by_cases a1 : j < i * size
    · rw [h1 j a1, List.append_assoc, List.getElem?_append_left (by omega), List.getElem?_take, if_pos a1]
    · by_cases a2 : j < i * size + size
      · obtain ⟨k, rfl⟩ : ∃ k, j = i * size + k := ⟨j - i * size, by omega⟩
        rw [h2 k (by omega), List.append_assoc, List.getElem?_append_right (by omega), hL, Nat.add_sub_cancel_left, List.getElem?_append_left (by omega)]
      · obtain ⟨k, rfl⟩ : ∃ k, j = i * size + size + k := ⟨j - (i * size + size), by omega⟩
        rw [h3 k (by omega), List.getElem?_append_right (by rw [List.length_append]; omega), List.length_append, hL, hvl, Nat.add_sub_cancel_left, List.getElem?_drop]
  · rw [if_neg hj, List.getElem?_eq_none (by rw [List.length_append, List.length_append, hL, hvl, List.length_drop]; omega)]
section
variable (L : InsL P ρ) (i0 : TypeInfo) (z : Value) (size : Nat) (hi : P.info? (ρ.t 9) = some i0) (hz0 : i0.zero = some z) (hz1 : i0.size = size) (hzs : z.cells.size = size) (hsz : 0 < size) (z9 : ∀ w, (Go.sizeOf (ρ.t 9)).run P w = .ok size w)
include L hi hz1 hsz z9 hz0 hzs
theorem ins_own (A : Option Addr) (n cap i : Nat) (cs vs : List Value) (vb voff vc : Nat) (w : World) (hin : i ≤ n) (hcl : cs.length = n * size) (hcap : n ≤ cap)
    (hA : (n = 0 ∧ cap = 0) ∨ ∃ g cur, A = some ⟨g, 0, none⟩ ∧ w.heap[g]? = some (.cells cur (ρ.t 9) (0, 0)) ∧ cap ≤ maxLen ∧ cur.size = cap * size ∧ cur.toList.take (n * size) = cs ∧ vb ≠ g)
    (hvl : vs.length = size)
    (hvs : ∀ j v, vs[j]? = some v → w.cell? ⟨vb, voff + j, none⟩ = some v) (h1c : ∀ v ∈ cs, v.oneCell' = true) (h1v : ∀ v ∈ vs, v.oneCell' = true) (hmax : n + 1 ≤ maxLen) (hbig : (n + 1) * i0.bytes ≤ 140737488355328)
    (hpl : ∃ cv ev, w.heap[vb]? = some (.cells cv ev (0, 0))) :
    Calls P (ρ.f 22) #[.slice A n cap, .int .i64 i, .slice (some ⟨vb, voff, none⟩) 1 vc] w fun e w' => ∃ g cap' cur', e = .returned (.slice (some ⟨g, 0, none⟩) (n + 1) cap') ∧ w'.heap[g]? = some (.cells cur' (ρ.t 9) (0, 0)) ∧ n + 1 ≤ cap' ∧ cap' ≤ maxLen ∧ cur'.size = cap' * size ∧
      cur'.toList.take ((n + 1) * size) = cs.take (i * size) ++ vs ++ cs.drop (i * size) ∧ ((∃ a, A = some a ∧ a.block = g ∧ 0 < cap) ∨ w.heap.size ≤ g) ∧ Grow (fun k => (∃ a, A = some a ∧ a.block = k) ∧ 0 < cap) w w' := by
  rcases hA with ⟨rfl, rfl⟩ | ⟨g, cur, rfl, hg2, hcm, hcur, hcells, hne⟩
  · obtain rfl : i = 0 := by omega
    have hcs0 : cs = [] := List.length_eq_zero_iff.1 (by omega)
    subst hcs0
    have hold : (Builtin.firstCells i0.size 0 (.slice A 0 0)).run P w.drew = .ok (([] : List Value).toArray) w.drew := by
      cases A with
      | none => exact run_firstCells_none w.drew _ 0 0 0
      | some a => exact run_firstCells_some w.drew _ 0 a 0 0 [] (by simp) (by simp)
    refine (ins_end_grow L i0 z size hi hz0 hz1 hzs hsz z9 A 0 0 [] vs vb voff vc w hvl (Nat.le_refl _) (by omega) hmax hbig hold (fun _ => rfl) hvs h1v).mono fun e w' ⟨he', hw'⟩ => ?_
    subst hw'
    have hGn : 0 + 1 ≤ grownCap w (0 + 1) 0 (ρ.t 9) := grownCap_ge w _ _ _
    have hGm := grownCap_le_maxLen w (0 + 1) 0 (ρ.t 9) hmax
    obtain ⟨G, hG⟩ : ∃ G, G = grownCap w (0 + 1) 0 (ρ.t 9) := ⟨_, rfl⟩
    rw [← hG] at hGn hGm he' ⊢
    have hGs : (0 + 1) * size ≤ G * size := Nat.mul_le_mul_right _ hGn
    have hsub : (G - (0 + 1)) * size = G * size - (0 + 1) * size := Nat.sub_mul _ _ _
    refine ⟨_, _, (([] ++ vs).toArray ++ Builtin.zeroCells z.cells (G - (0 + 1))), he', ?_, hGn, hGm, ?_, ?_, .inr (Nat.le_refl _), ⟨rfl, rfl, rfl, ?_, fun k hk _ => Below.heap_alloc w _ k hk⟩⟩
    · show (w.heap.push _)[w.heap.size]? = _
      simp
    · rw [Array.size_append, size_zeroCells, hzs, List.size_toArray, List.nil_append, hvl]; omega
    · rw [Array.toList_append]
      simp [hvl]
    · show w.heap.size ≤ (w.heap.push _).size
      rw [Array.size_push]; omega
  · have hncap : n * size ≤ cap * size := Nat.mul_le_mul_right _ hcap
    have hget : ∀ j v, cs[j]? = some v → cur[j]? = some v := fun j v hj => by
      rw [← hcells, List.getElem?_take] at hj
      split at hj
      · simpa using hj
      · cases hj
    have hget' : ∀ j, j < n * size → cs[j]? = cur[j]? := fun j hj => by rw [← hcells, List.getElem?_take, if_pos hj]; simp
    have hcs : ∀ j v, cs[j]? = some v → w.cell? ⟨g, 0 + j, none⟩ = some v := fun j v hj => by rw [Nat.zero_add, cell?_cells hg2]; exact hget j v hj
    have hsome0 : ∀ j, j < cur.size → (w.cell? ⟨g, j, none⟩).isSome = true := fun j hj => by
      rw [cell?_cells hg2, Array.getElem?_eq_getElem hj]; rfl
    obtain ⟨cv, ev, hpl⟩ := hpl
    have hn1' : (n + 1) * size = n * size + size := Nat.succ_mul n size
    have gst : ∀ (W : World), W.os = w.os → W.tape = w.tape → W.output = w.output → w.heap.size ≤ W.heap.size → (∀ k, k < w.heap.size → k ≠ g → W.heap[k]? = w.heap[k]?) → 0 < cap → Grow (fun k => (∃ a, (some (⟨g, 0, none⟩ : Addr)) = some a ∧ a.block = k) ∧ 0 < cap) w W :=
      fun W h1 h2 h3 h4 h5 h6 => ⟨h1, h2, h3, h4, fun k hk hkn => h5 k hk fun e => hkn ⟨⟨_, rfl, e.symm⟩, h6⟩⟩
    have gst0 : ∀ (W : World), W.os = w.os → W.tape = w.tape → W.output = w.output → w.heap.size ≤ W.heap.size → (∀ k, k < w.heap.size → W.heap[k]? = w.heap[k]?) → Grow (fun k => (∃ a, (some (⟨g, 0, none⟩ : Addr)) = some a ∧ a.block = k) ∧ 0 < cap) w W :=
      fun W h1 h2 h3 h4 h5 => ⟨h1, h2, h3, h4, fun k hk _ => h5 k hk⟩
    by_cases he : i = n
    · subst he
      by_cases hroom : i + 1 ≤ cap
      · have hncap1 : (i + 1) * size ≤ cap * size := Nat.mul_le_mul_right _ hroom
        refine (ins_end_room L i0 size hi hz1 hsz z9 g i cap vs vb voff vc w hvl hroom (by unfold maxLen at hcm; omega) (fun j hj => by rw [hz1, Nat.zero_add]; exact hsome0 _ (by omega)) (fun j hj => by simp [World.frozen?, hg2]) hvs h1v).mono fun e w' ⟨he', hw'⟩ => ?_
        subst hw'
        rw [hz1, Nat.zero_add]
        obtain ⟨c2, hc2, hs2⟩ := heap_setCells_in g (ρ.t 9) (0, 0) vs (i * size) w cur hg2
        refine ⟨g, cap, c2, he', hc2, hroom, hcm, by omega, ?_, .inl ⟨_, rfl, rfl, by omega⟩, gst _ (os_setCells _ _ _ _).1 (os_setCells _ _ _ _).2.1 (os_setCells _ _ _ _).2.2 (by rw [size_setCells]; exact Nat.le_refl _) (fun k _ hk => heap_setCells_out g _ _ _ _ hk) (by omega)⟩
        refine ins_cells (Nat.le_refl _) hcl hvl (by omega) (fun j hj => ?_) (fun j hj => ?_) (fun j hj => by simp at hj)
        · rw [← cell?_cells hc2, World.cell?_setCells_out g vs _ _ _ (fun _ _ => .inl (by simpa using hj)), cell?_cells hg2, hget' j (by omega)]
        · rw [← cell?_cells hc2, World.cell?_setCells_in g vs (i * size) _ (fun k hk => hsome0 _ (by omega)) j (by omega), List.getElem?_eq_getElem (by omega)]
      · have hold : (Builtin.firstCells i0.size i (.slice (some ⟨g, 0, none⟩) i cap)).run P w.drew = .ok cs.toArray w.drew :=
          run_firstCells_some w.drew _ i ⟨g, 0, none⟩ i cap cs (by rw [hz1]; exact hcl) (fun j v hj => by rw [Addr.add_lit]; exact hcs j v hj)
        refine (ins_end_grow L i0 z size hi hz0 hz1 hzs hsz z9 (some ⟨g, 0, none⟩) i cap cs vs vb voff vc w hvl hcap (by omega) hmax hbig hold (fun h => by cases h) hvs h1v).mono fun e w' ⟨he', hw'⟩ => ?_
        subst hw'
        have hGn : i + 1 ≤ grownCap w (i + 1) cap (ρ.t 9) := grownCap_ge w _ _ _
        have hGm := grownCap_le_maxLen w (i + 1) cap (ρ.t 9) hmax
        obtain ⟨G, hG⟩ : ∃ G, G = grownCap w (i + 1) cap (ρ.t 9) := ⟨_, rfl⟩
        rw [← hG] at hGn hGm he' ⊢
        have hGs : (i + 1) * size ≤ G * size := Nat.mul_le_mul_right _ hGn
        have hsub : (G - (i + 1)) * size = G * size - (i + 1) * size := Nat.sub_mul _ _ _
        refine ⟨_, _, ((cs ++ vs).toArray ++ Builtin.zeroCells z.cells (G - (i + 1))), he', ?_, hGn, hGm, ?_, ?_, .inr (Nat.le_refl _), gst0 _ rfl rfl rfl ?_ (fun k hk => Below.heap_alloc w _ k hk)⟩
        · show (w.heap.push _)[w.heap.size]? = _
          simp
        · rw [Array.size_append, size_zeroCells, hzs, List.size_toArray, List.length_append, hcl, hvl]; omega
        · rw [← hcl, List.take_length, List.drop_length, List.append_nil, Array.toList_append, List.take_append_of_le_length (by simp [hcl, hvl, hn1'])]
          exact List.take_of_length_le (by simp [hcl, hvl, hn1'])
        · show w.heap.size ≤ (w.heap.push _).size
          rw [Array.size_push]; omega
    · have hlt : i < n := by omega
      have hile : i * size ≤ n * size := Nat.mul_le_mul_right _ hin
      have hn1 : (n + 1) * size = n * size + size := Nat.succ_mul n size
      have hmul : (n - i) * size = n * size - i * size := Nat.sub_mul n i size
      have hi1 : i * size + size ≤ n * size := by have := Nat.mul_le_mul_right size (show i + 1 ≤ n by omega); rw [Nat.succ_mul] at this; exact this
      by_cases hroom : n + 1 ≤ cap
      · have hncap1 : (n + 1) * size ≤ cap * size := Nat.mul_le_mul_right _ hroom
        refine (ins_shift L i0 size hi hz1 hsz z9 g 0 n cap i vb voff vc cs vs w hlt hroom (by unfold maxLen at hcm; omega) hne hcl hvl hcs (fun j hj => by rw [Nat.zero_add, cell?_cells hg2, Array.getElem?_eq_getElem (by omega)]; rfl)
          (fun j hj => by simp [World.frozen?, hg2]) hvs h1c h1v ev (ρ.t 9) cv.size cur.size (by simp [World.shape?, hpl]) (by simp [World.shape?, hg2]) (by omega) (by simp [World.frozen?, hpl]) (by simp [World.frozen?, hpl])).mono fun e w' ⟨he', hw'⟩ => ?_
        subst hw'
        simp only [Nat.zero_add] at *
        obtain ⟨c1, hc1, hs1⟩ := heap_setCells_in g (ρ.t 9) (0, 0) (cs.drop (i * size)) (i * size + size) w.drew cur hg2
        obtain ⟨c2, hc2, hs2⟩ := heap_setCells_in g (ρ.t 9) (0, 0) vs (i * size) _ c1 hc1
        have hsome : ∀ j, j < cur.size → (w.drew.cell? ⟨g, j, none⟩).isSome = true := fun j hj => by
          rw [show w.drew.cell? ⟨g, j, none⟩ = w.cell? ⟨g, j, none⟩ from rfl, cell?_cells hg2, Array.getElem?_eq_getElem hj]; rfl
        have hdl : (cs.drop (i * size)).length = (n - i) * size := by rw [List.length_drop, hcl, hmul]
        refine ⟨g, cap, c2, he', hc2, hroom, hcm, by omega, ?_, .inl ⟨_, rfl, rfl, by omega⟩, gst _ ?_ ?_ ?_ ?_ ?_ (by omega)⟩
        · refine ins_cells hin hcl hvl (by omega) (fun j hj => ?_) (fun j hj => ?_) (fun j hj => ?_)
          · rw [← cell?_cells hc2, World.cell?_setCells_out g vs _ _ _ (fun _ _ => .inl (by simpa using hj)), World.cell?_setCells_out g _ _ _ _ (fun _ _ => .inl (by simp only; omega)), show w.drew.cell? ⟨g, j, none⟩ = w.cell? ⟨g, j, none⟩ from rfl, cell?_cells hg2, hget' j (by omega)]
          · rw [← cell?_cells hc2, World.cell?_setCells_in g vs (i * size) _ (fun k hk => by rw [cell?_cells hc1, Array.getElem?_eq_getElem (by omega)]; rfl) j (by omega), List.getElem?_eq_getElem (by omega)]
          · rw [← cell?_cells hc2, World.cell?_setCells_out g vs _ _ _ (fun _ _ => .inr (by simp only; omega)), World.cell?_setCells_in g (cs.drop (i * size)) (i * size + size) _ (fun k hk => hsome _ (by omega)) j (by omega), ← List.getElem?_eq_getElem (by omega), List.getElem?_drop]
        · rw [(os_setCells g _ _ _).1, (os_setCells g _ _ _).1]; rfl
        · rw [(os_setCells g _ _ _).2.1, (os_setCells g _ _ _).2.1]; rfl
        · rw [(os_setCells g _ _ _).2.2, (os_setCells g _ _ _).2.2]; rfl
        · rw [size_setCells, size_setCells]; exact Nat.le_refl _
        · intro k hk this
          rw [heap_setCells_out g _ _ _ _ this, heap_setCells_out g _ _ _ _ this]; rfl
      · refine (ins_grow L i0 z size hi hz0 hz1 hzs hsz z9 g 0 n cap i vb voff vc cs vs w hlt hcap (by omega) hmax hbig hcl hvl (by omega) hcs hvs h1c h1v).mono fun e w' ⟨he', hw'⟩ => ?_
        subst hw'
        obtain ⟨G, hG⟩ : ∃ G, G = grownCap w (n + 1) cap (ρ.t 9) := ⟨_, rfl⟩
        have hGn : n + 1 ≤ G := by rw [hG]; exact grownCap_ge w _ _ _
        have hGm : G ≤ maxLen := by rw [hG]; exact grownCap_le_maxLen w (n + 1) cap (ρ.t 9) hmax
        rw [← hG] at he' ⊢
        have hGs : (n + 1) * size ≤ G * size := Nat.mul_le_mul_right _ hGn
        obtain ⟨ROW, hROW⟩ : ∃ ROW : Array Value, ROW = (cs.take (i * size)).toArray ++ Builtin.zeroCells z.cells (n + 1 - i) ++ Builtin.zeroCells z.cells (G - (n + 1)) := ⟨_, rfl⟩
        rw [← hROW]
        have hRs : ROW.size = G * size := by
          rw [hROW, Array.size_append, Array.size_append, size_zeroCells, size_zeroCells, hzs, List.size_toArray, List.length_take, hcl]
          have h2 : (n + 1 - i) * size = (n + 1) * size - i * size := Nat.sub_mul _ _ _
          have h3 : (G - (n + 1)) * size = G * size - (n + 1) * size := Nat.sub_mul _ _ _
          omega
        have hR1 : ∀ j, j < i * size → ROW[j]? = cs[j]? := fun j hj => by
          rw [hROW, Array.append_assoc, Array.getElem?_append_left (by rw [List.size_toArray, List.length_take]; omega), List.getElem?_toArray, List.getElem?_take, if_pos hj]
        have hb0 : ((w.alloc (.cells ROW (ρ.t 9))).drew).heap[w.heap.size]? = some (.cells ROW (ρ.t 9) (0, 0)) := by
          show (w.heap.push (.cells ROW (ρ.t 9) (0, 0)))[w.heap.size]? = _
          simp
        obtain ⟨c1, hc1, hs1⟩ := heap_setCells_in w.heap.size (ρ.t 9) (0, 0) vs (i * size) _ ROW hb0
        have hc1' : (((w.alloc (.cells ROW (ρ.t 9))).drew.setCells w.heap.size (i * size) vs).drew).heap[w.heap.size]? = some (.cells c1 (ρ.t 9) (0, 0)) := hc1
        obtain ⟨c2, hc2, hs2⟩ := heap_setCells_in w.heap.size (ρ.t 9) (0, 0) (cs.drop (i * size)) (i * size + size) _ c1 hc1'
        have hdl : (cs.drop (i * size)).length = (n - i) * size := by rw [List.length_drop, hcl, hmul]
        have hv1 : ∀ j, j < i * size → c1[j]? = cs[j]? := fun j hj => by
          rw [← cell?_cells hc1, World.cell?_setCells_out _ vs _ _ _ (fun _ _ => .inl (by simpa using hj)), cell?_cells hb0, hR1 j hj]
        have hv2 : ∀ j, j < size → c1[i * size + j]? = vs[j]? := fun j hj => by
          rw [← cell?_cells hc1, World.cell?_setCells_in _ vs (i * size) _ (fun k hk => by rw [cell?_cells hb0, Array.getElem?_eq_getElem (by omega)]; rfl) j (by omega), List.getElem?_eq_getElem (by omega)]
        refine ⟨w.heap.size, G, c2, he', hc2, hGn, hGm, by omega, ?_, .inr (Nat.le_refl _), gst0 _ ?_ ?_ ?_ ?_ ?_⟩
        · refine ins_cells hin hcl hvl (by omega) (fun j hj => ?_) (fun j hj => ?_) (fun j hj => ?_)
          · rw [← cell?_cells hc2, World.cell?_setCells_out _ _ _ _ _ (fun _ _ => .inl (by simp only; omega)), cell?_cells hc1', hv1 j hj]
          · rw [← cell?_cells hc2, World.cell?_setCells_out _ _ _ _ _ (fun _ _ => .inl (by simp only; omega)), cell?_cells hc1', hv2 j hj]
          · rw [← cell?_cells hc2, World.cell?_setCells_in _ (cs.drop (i * size)) (i * size + size) _ (fun k hk => by rw [cell?_cells hc1', Array.getElem?_eq_getElem (by omega)]; rfl) j (by omega), ← List.getElem?_eq_getElem (by omega), List.getElem?_drop]
        · rw [(os_setCells _ _ _ _).1, show ∀ W : World, W.drew.os = W.os from fun _ => rfl, (os_setCells _ _ _ _).1]; rfl
        · rw [(os_setCells _ _ _ _).2.1, show ∀ W : World, W.drew.tape = W.tape from fun _ => rfl, (os_setCells _ _ _ _).2.1]; rfl
        · rw [(os_setCells _ _ _ _).2.2, show ∀ W : World, W.drew.output = W.output from fun _ => rfl, (os_setCells _ _ _ _).2.2]; rfl
        · rw [size_setCells, show ∀ W : World, W.drew.heap = W.heap from fun _ => rfl, size_setCells]
          show w.heap.size ≤ (w.heap.push (.cells ROW (ρ.t 9) (0, 0))).size
          rw [Array.size_push]; omega
        · intro k hk
          have hk' : k ≠ w.heap.size := by omega
          rw [heap_setCells_out _ _ _ _ _ hk', show ∀ W : World, W.drew.heap = W.heap from fun _ => rfl, heap_setCells_out _ _ _ _ _ hk']
          exact Below.heap_alloc w _ k hk
end
end Go.Mir

set_option linter.unusedVariables false
set_option linter.unusedSimpArgs false
namespace Go.Mir
open Go Go.Proofs Go.Shelf Go.RowKit
theorem OwnL.split {P : Program} {w : World} {ok : Nat → Prop} {cs : List V} {us : List Value} {F : Nat → Prop} (h : OwnL P w ok cs us F) (k : Nat) :
    ∃ F1 F2 : Nat → Prop, OwnL P w ok (cs.take k) (us.take k) F1 ∧ OwnL P w ok (cs.drop k) (us.drop k) F2 ∧ (∀ b, F b ↔ F1 b ∨ F2 b) ∧ (∀ b, F1 b → ¬ F2 b) := by
  obtain ⟨hl, Fs, h1, h2, h3⟩ := h
  refine ⟨fun b => ∃ j, j < (cs.take k).length ∧ Fs j b, fun b => ∃ j, j < (cs.drop k).length ∧ Fs (k + j) b, ⟨by rw [List.length_take, List.length_take, hl], Fs, ?_, ?_, fun b => Iff.rfl⟩, ⟨by rw [List.length_drop, List.length_drop, hl], fun j => Fs (k + j), ?_, ?_, fun b => Iff.rfl⟩, fun b => ?_, ?_⟩
  · intro j v u hv hu
    rw [List.getElem?_take] at hv hu
    split at hv
    · rename_i hj
      rw [if_pos hj] at hu
      exact h1 j v u hv hu
    · cases hv
  · intro i j b hi hj hne
    rw [List.length_take] at hi hj
    exact h2 i j b (by omega) (by omega) hne
  · intro j v u hv hu
    rw [List.getElem?_drop] at hv hu
    exact h1 _ v u hv hu
  · intro i j b hi hj hne
    rw [List.length_drop] at hi hj
    exact h2 _ _ b (by omega) (by omega) (by omega)
  · rw [h3]
    constructor
    · rintro ⟨j, hj, hb⟩
      by_cases hjk : j < k
      · exact .inl ⟨j, by rw [List.length_take]; omega, hb⟩
      · exact .inr ⟨j - k, by rw [List.length_drop]; omega, by rw [show k + (j - k) = j by omega]; exact hb⟩
    · rintro (⟨j, hj, hb⟩ | ⟨j, hj, hb⟩)
      · exact ⟨j, by rw [List.length_take] at hj; omega, hb⟩
      · exact ⟨k + j, by rw [List.length_drop] at hj; omega, hb⟩
  · rintro b ⟨i, hi, hb⟩ ⟨j, hj, hb'⟩
    rw [List.length_take] at hi
    rw [List.length_drop] at hj
    exact h2 i (k + j) b (by omega) (by omega) (by omega) hb hb'
def insGiven (P : Program) (el : Nat) : List PM × (List T → Option Res) := ([.own, .ro, .own], fun
  | [.vs false [.own e xs], .vs false [.d (.sc (.int .i64 i))], .vs false [.own e' [c]]] =>
    if e = el ∧ e' = el ∧ 0 ≤ i ∧ i.toNat ≤ xs.length ∧ c.length = P.cellsOf el ∧ xs.all (fun c => c.length == P.cellsOf el) = true ∧ (xs.length + 1) * P.bytesOf el ≤ 140737488355328 ∧ xs.length + 1 ≤ 140737488355328 then
      some (.one (.own el (xs.take i.toNat ++ [c] ++ xs.drop i.toNat)), []) else none
  | _ => none)
theorem ins_ok {P : Program} {ρ : Ren} (L : InsL P ρ) {i0 : TypeInfo} {z : Value} (hi : P.info? (ρ.t 9) = some i0) (hz0 : i0.zero = some z) (hzs : z.cells.size = i0.size) (hsz : 0 < i0.size)
    (z9 : ∀ w, (Go.sizeOf (ρ.t 9)).run P w = .ok i0.size w) (hfn : ∃ fn, P.funcs[ρ.f 22]? = some fn ∧ (fn.name == "runtime.NumGoroutine") = false ∧ fn.body.isNone = false)
    {pm : FuncId → List PM} (hpm : pm (ρ.f 22) = [.own, .ro, .own]) {args : List T} {r : Res} (h : (insGiven P (ρ.t 9)).2 args = some r) : CallR P pm (ρ.f 22) args r := by
  simp only [insGiven] at h
  split at h
  case h_2 => cases h
  rename_i e xs i e' c
  split at h
  case isFalse => cases h
  rename_i hc
  obtain ⟨rfl, rfl, hi0, hin, hcl, hall, hby, hln⟩ := hc
  cases h
  have hcs : P.cellsOf (ρ.t 9) = i0.size := by simp [Program.cellsOf, hi]
  have hbs : P.bytesOf (ρ.t 9) = i0.bytes := by simp [Program.bytesOf, hi]
  obtain ⟨size, hsize⟩ : ∃ s, s = i0.size := ⟨_, rfl⟩
  rw [hcs, ← hsize] at hcl
  rw [← hsize] at hzs hsz z9
  have hxl : ∀ x ∈ xs, x.length = size := fun x hx => by
    have := List.all_eq_true.1 hall x hx
    rw [hsize]
    simpa [hcs] using this
  have hfl : xs.flatten.length = xs.length * size := flat_len hxl
  obtain ⟨n, hn⟩ : ∃ n, i.toNat = n := ⟨_, rfl⟩
  have hin' : i = (n : Int) := by omega
  subst hin'
  rw [hn] at hin ⊢
  refine ⟨hfn, rfl, fun X w us Fa hX hl ha hd hx => ?_⟩
  match us, hl with
  | [u0, u1, u2], _ =>
    have h0 := VS.toOne (ha 0 _ u0 rfl rfl)
    have h1 := VS.toOne (ha 1 _ u1 rfl rfl)
    have h2 := VS.toOne (ha 2 _ u2 rfl rfl)
    have h1' : u1 = .int .i64 n := by
      cases h1 with
      | d _ h => cases h; rfl
      | blk _ hh => simp [Shape] at hh
    subst h1'
    have hlt2 : ∀ b, Fa 2 b → b < w.heap.size := h2.lt
    cases h2 with
    | blk Fs2 hh2 hg2 hc2 hd2 hb2 hF2 =>
    rename_i g2 vs2 cur2 e2 fz2
    simp only [Shape] at hh2
    obtain ⟨rfl, rfl, _, _, rfl, cap2, rfl, hcap2, hcm2, hcur2⟩ := hh2
    rw [hcs, ← hsize] at hcur2
    simp only [List.length_singleton, List.flatten_singleton] at *
    have hk2 : c.length ≤ cur2.size := by rw [hcl, hcur2]; exact Nat.le_mul_of_pos_left _ (by omega)
    have hO2 : OwnL P w (fun b => ¬ X b ∧ ∀ j, j < 3 → ¬ Fa j b) c (cur2.toList.take c.length) (fun b => ∃ j, j < c.length ∧ Fs2 j b) := by
      refine ⟨by rw [List.length_take]; simp; omega, Fs2, ?_, hd2, fun b => Iff.rfl⟩
      intro j v u hv hu
      rw [List.getElem?_take] at hu
      split at hu
      · exact hc2 j v u hv (by simpa using hu)
      · cases hu
    have hvsl : (cur2.toList.take c.length).length = size := by rw [List.length_take]; simp; omega
    have hvs : ∀ j v, (cur2.toList.take c.length)[j]? = some v → w.cell? ⟨g2, 0 + j, none⟩ = some v := fun j v hj => by
      rw [Nat.zero_add, cell?_cells hg2]
      rw [List.getElem?_take] at hj
      split at hj
      · simpa using hj
      · cases hj
    have hone : ∀ {ok : Nat → Prop} {cs : List V} {us : List Value} {F : Nat → Prop}, OwnL P w ok cs us F → ∀ v ∈ us, v.oneCell' = true := fun hO v hv => by
      obtain ⟨hl, Fs, h1, _, _⟩ := hO
      obtain ⟨j, hj, rfl⟩ := List.mem_iff_getElem.1 hv
      exact (h1 j _ _ (List.getElem?_eq_getElem (by omega)) (List.getElem?_eq_getElem hj)).one
    have hF2g : Fa 2 g2 := (hF2 g2).2 (.inl rfl)
    have hF2s : ∀ b, (∃ j, j < c.length ∧ Fs2 j b) → Fa 2 b := fun b hb => (hF2 b).2 (.inr hb)
    have hrow : ∃ (A : Option Addr) (cap : Nat) (cs : List Value) (F0 : Nat → Prop), u0 = .slice A xs.length cap ∧ xs.length ≤ cap ∧ OwnL P w (fun b => ¬ X b ∧ ∀ j, j < 3 → ¬ Fa j b) xs.flatten cs F0 ∧ (∀ b, F0 b → Fa 0 b) ∧ (∀ a, A = some a → 0 < cap → Fa 0 a.block ∧ ¬ F0 a.block) ∧
        ((xs.length = 0 ∧ cap = 0) ∨ ∃ g cur, A = some ⟨g, 0, none⟩ ∧ w.heap[g]? = some (.cells cur (ρ.t 9) (0, 0)) ∧ cap ≤ maxLen ∧ cur.size = cap * size ∧ cur.toList.take (xs.length * size) = cs ∧ Fa 0 g ∧ ¬ F0 g) := by
      cases h0 with
      | nil hF => exact ⟨_, 0, [], No, rfl, Nat.le_refl _, ⟨rfl, fun _ => No, fun j v u h => by simp at h, fun i j b h => by simp at h, fun b => ⟨fun h => h.elim, fun ⟨_, _, h⟩ => h.elim⟩⟩, fun _ h => h.elim, fun _ _ h => absurd h (Nat.lt_irrefl 0), .inl ⟨rfl, rfl⟩⟩
      | blk Fs hh hg hc hd' hb hF =>
        rename_i g vs cur e fz
        simp only [Shape] at hh
        obtain ⟨rfl, rfl, _, _, rfl, cap, rfl, hcap, hcm, hcur⟩ := hh
        rw [hcs, ← hsize] at hcur
        have hle : xs.length * size ≤ cap * size := Nat.mul_le_mul_right _ hcap
        have hOO : OwnL P w (fun b => ¬ X b ∧ ∀ j, j < 3 → ¬ Fa j b) xs.flatten (cur.toList.take (xs.length * size)) (fun b => ∃ j, j < xs.flatten.length ∧ Fs j b) := by
          have hcul : cur.toList.length = cap * size := by rw [Array.length_toList]; exact hcur
          refine ⟨by rw [List.length_take, hfl, hcul]; omega, Fs, ?_, hd', fun b => Iff.rfl⟩
          intro j v u hv hu
          rw [List.getElem?_take] at hu
          split at hu
          · exact hc j v u hv (by simpa using hu)
          · cases hu
        have hg0 : Fa 0 g := (hF g).2 (.inl rfl)
        have hg1 : ¬ ∃ j, j < xs.flatten.length ∧ Fs j g := fun ⟨j, hj, hh⟩ => hb j hj hh
        exact ⟨_, cap, _, _, rfl, hcap, hOO, fun b hb' => (hF b).2 (.inr hb'), fun a ha _ => by cases ha; exact ⟨hg0, hg1⟩, .inr ⟨g, cur, rfl, hg, hcm, hcur, rfl, hg0, hg1⟩⟩
    obtain ⟨A, cap, cs, F0, rfl, hcap, hO, hF0, hAF, hA⟩ := hrow
    have hcsl : cs.length = xs.length * size := by rw [← hO.1, hfl]
    have h20 : ∀ b, Fa 0 b → ¬ Fa 2 b := fun b h => hd 0 2 b (by simp) (by simp) (by decide) h
    have hmain := ins_own L i0 z size hi hz0 hsize.symm hzs hsz z9 A xs.length cap n cs (cur2.toList.take c.length) g2 0 cap2 w hin hcsl hcap
      (by
        rcases hA with hA | ⟨g, cur, a1, a2, a3, a4, a5, a6, a7⟩
        · exact .inl hA
        · exact .inr ⟨g, cur, a1, a2, a3, a4, a5, fun e => h20 g a6 (by rw [← e]; exact hF2g)⟩)
      hvsl hvs (hone hO) (hone hO2) (by unfold maxLen; omega) (by rw [← hbs]; exact hby) ⟨_, _, hg2⟩
    refine hmain.mono fun en w' ⟨g', cap', cur', he, hg', hcap', hcm', hcur', hcells, hgg, hgrow⟩ => ?_
    obtain ⟨Fl, Fr, s1, s2, s3, s4⟩ := hO.split (n * size)
    have hft : ∀ k, (xs.take k).flatten = xs.flatten.take (k * size) := fun k => by
      have := List.take_append_drop k xs
      have hl1 : (xs.take k).flatten.length = (xs.take k).length * size := flat_len fun x hx => hxl x (List.mem_of_mem_take hx)
      conv => rhs; rw [← this, List.flatten_append]
      rw [List.length_take] at hl1
      by_cases hk : k ≤ xs.length
      · rw [List.take_append_of_le_length (by rw [hl1, Nat.min_eq_left hk]; exact Nat.le_refl _), List.take_of_length_le (l := (xs.take k).flatten) (by rw [hl1, Nat.min_eq_left hk]; exact Nat.le_refl _)]
      · have h1 : xs.length * size ≤ k * size := Nat.mul_le_mul_right _ (by omega)
        rw [← List.flatten_append, this, List.take_of_length_le (by omega), List.take_of_length_le (by omega)]
    have hfd : ∀ k, (xs.drop k).flatten = xs.flatten.drop (k * size) := fun k => by
      have := congrArg List.flatten (List.take_append_drop k xs)
      rw [List.flatten_append, hft k] at this
      have h2 := List.take_append_drop (k * size) xs.flatten
      exact List.append_cancel_left (this.trans h2.symm)
    have hs12 : OwnL P w (fun b => ¬ X b ∧ ∀ j, j < 3 → ¬ Fa j b) (xs.take n ++ [c] ++ xs.drop n).flatten (cs.take (n * size) ++ cur2.toList.take c.length ++ cs.drop (n * size)) (fun b => (Fl b ∨ ∃ j, j < c.length ∧ Fs2 j b) ∨ Fr b) := by
      rw [List.flatten_append, List.flatten_append, List.flatten_singleton, hft, hfd]
      refine OwnL.append (OwnL.append s1 hO2 fun b hb hh => ?_) s2 fun b hb hh => ?_
      · exact h20 b (hF0 b ((s3 b).2 (.inl hb))) (hF2s b hh)
      · rcases hb with hb | hb
        · exact s4 b hb hh
        · exact h20 b (hF0 b ((s3 b).2 (.inr hh))) (hF2s b hb)
    obtain ⟨FF, hFF⟩ : ∃ FF : Nat → Prop, FF = fun b => (Fl b ∨ ∃ j, j < c.length ∧ Fs2 j b) ∨ Fr b := ⟨_, rfl⟩
    rw [← hFF] at hs12
    have hFF0 : ∀ b, FF b → (Fa 0 b ∧ F0 b) ∨ Fa 2 b := fun b hb => by
      rw [hFF] at hb
      rcases hb with (hb | hb) | hb
      · exact .inl ⟨hF0 b ((s3 b).2 (.inl hb)), (s3 b).2 (.inl hb)⟩
      · exact .inr (hF2s b hb)
      · exact .inl ⟨hF0 b ((s3 b).2 (.inr hb)), (s3 b).2 (.inr hb)⟩
    have hlt0 : ∀ b, Fa 0 b → b < w.heap.size := h0.lt
    have hgF : ¬ FF g' ∧ (Fa 0 g' ∨ w.heap.size ≤ g') := by
      rcases hgg with ⟨a, ha', hag, hc0⟩ | hge
      · obtain ⟨q1, q2⟩ := hAF a ha' hc0
        rw [hag] at q1 q2
        refine ⟨fun hh => ?_, .inl q1⟩
        rcases hFF0 g' hh with ⟨_, hh⟩ | hh
        · exact q2 hh
        · exact h20 g' q1 hh
      · refine ⟨fun hh => ?_, .inr hge⟩
        rcases hFF0 g' hh with ⟨hh, _⟩ | hh
        · have := hlt0 g' hh; omega
        · have := hlt2 g' hh; omega
    have hsub : ∀ b, ((∃ a, A = some a ∧ a.block = b) ∧ 0 < cap) → Fa 0 b ∧ ¬ FF b := fun b ⟨⟨a, ha', hb⟩, hc0⟩ => by
      obtain ⟨q1, q2⟩ := hAF a ha' hc0
      rw [hb] at q1 q2
      refine ⟨q1, fun hh => ?_⟩
      rcases hFF0 b hh with ⟨_, hh⟩ | hh
      · exact q2 hh
      · exact h20 b q1 hh
    have hFFlt : ∀ b, FF b → b < w.heap.size := fun b hb => by
      rcases hFF0 b hb with ⟨hh, _⟩ | hh
      · exact hlt0 b hh
      · exact hlt2 b hh
    have hFFX : ∀ b, FF b → ¬ X b ∧ ∃ j, j < 3 ∧ Fa j b := fun b hb => by
      rcases hFF0 b hb with ⟨hh, _⟩ | hh
      · exact ⟨hx 0 b (by simp) hh, 0, by decide, hh⟩
      · exact ⟨hx 2 b (by simp) hh, 2, by decide, hh⟩
    have hown' : OwnL P w' (fun b => ¬ X b ∧ ¬ (b = g' ∨ FF b) ∧ ¬ No b) (xs.take n ++ [c] ++ xs.drop n).flatten (cs.take (n * size) ++ cur2.toList.take c.length ++ cs.drop (n * size)) FF := by
      refine hs12.frame (fun b hb => ?_) fun b hb hbl => ?_
      · exact hgrow.block b (hFFlt b hb) fun hh => (hsub b hh).2 hb
      · refine ⟨⟨hb.1, fun hh => ?_, fun h => h⟩, hgrow.block b hbl fun hh => hb.2 0 (by decide) (hsub b hh).1⟩
        rcases hh with rfl | hh
        · rcases hgF.2 with q | q
          · exact hb.2 0 (by decide) q
          · omega
        · obtain ⟨j, hj, hh⟩ := (hFFX b hh).2
          exact hb.2 j hj hh
    obtain ⟨hol, FS, o1, o2, o3⟩ := hown'
    have hxl' : ∀ x ∈ xs.take n ++ [c] ++ xs.drop n, x.length = size := fun x hx' => by
      rcases List.mem_append.1 hx' with hx' | hx'
      · rcases List.mem_append.1 hx' with hx' | hx'
        · exact hxl x (List.mem_of_mem_take hx')
        · rw [List.mem_singleton.1 hx']; exact hcl
      · exact hxl x (List.mem_of_mem_drop hx')
    have hll : (xs.take n ++ [c] ++ xs.drop n).length = xs.length + 1 := by
      rw [List.length_append, List.length_append, List.length_take, List.length_drop, List.length_singleton]; omega
    have hfl' : (xs.take n ++ [c] ++ xs.drop n).flatten.length = (xs.length + 1) * size := by rw [flat_len hxl', hll]
    refine ⟨_, he, hgrow.mono (fun b _ hb => ⟨0, by simp, (hsub b hb).1⟩), (fun b => b = g' ∨ FF b), No, ?_, ?_, fun _ h h2 => h2, fun b h => ?_⟩
    · refine VS.ofOne (.blk FS (vs := (xs.take n ++ [c] ++ xs.drop n).flatten) ⟨rfl, rfl, by rw [hcs, ← hsize]; exact hsz, fun c hc => by rw [hcs, ← hsize]; exact hxl' c hc, rfl, cap', by rw [hll], by rw [hll]; exact hcap', hcm', by rw [hcs, ← hsize]; exact hcur'⟩ hg' (fun j v u hv hu => ?_) o2 (fun j hj hh => ?_) (fun b => ?_))
      · refine o1 j v u hv ?_
        rw [← hcells, List.getElem?_take, if_pos (by rw [← hfl']; exact (List.getElem?_eq_some_iff.1 hv).1)]
        simpa using hu
      · exact hgF.1 ((o3 g').2 ⟨j, hj, hh⟩)
      · rw [o3 b]
    · rw [hpm]; exact ⟨rfl, fun _ => No, fun j v u h => by simp at h, fun i j b h => by simp at h, fun b => ⟨fun h => h.elim, fun ⟨_, _, h⟩ => h.elim⟩⟩
    · rcases h with (rfl | h) | h
      · rcases hgF.2 with q | q
        · exact ⟨hx 0 b (by simp) q, .inl ⟨0, by simp, q⟩⟩
        · exact ⟨fun hh => by have := hX _ hh; omega, .inr q⟩
      · exact ⟨(hFFX b h).1, .inl (hFFX b h).2⟩
      · exact h.elim
end Go.Mir

set_option linter.unusedVariables false
set_option linter.unusedSimpArgs false
set_option linter.unusedSectionVars false
namespace Go.Mir
open Go Go.Proofs Go.Shelf Go.RowKit Go.Lib
variable {P : Program} {ρ : Ren}
theorem run_clear_cells (w : World) (t e ty : TypeId) (z : Value) (ht : P.underlying t = some (.slice e)) (hv : ∀ w, (zeroValue e).run P w = .ok z w) (b o n c : Nat) (hn : 0 < n) (h1 : ∀ v ∈ (Builtin.zeroCells z.cells n).toList, v.oneCell' = true)
    (hc : ∀ j, j < n * z.cells.size → (w.cell? ⟨b, o + j, none⟩).isSome = true) (hf : ∀ j, j < n * z.cells.size → w.frozen? ⟨b, o + j, none⟩ = false) :
    (Builtin.clear_ #[t] ty #[.slice (some ⟨b, o, none⟩) n c]).run P w = .ok (.tuple #[]) (w.setCells b o (Builtin.zeroCells z.cells n).toList) := by
  have hl : (Builtin.zeroCells z.cells n).toList.length = n * z.cells.size := by rw [Array.length_toList, size_zeroCells]
  have hst := run_storeCells_cells (P := P) b o (Builtin.zeroCells z.cells n).toList 0 w (by rw [hl]; simpa using hc) (by rw [hl]; simpa using hf) h1
  simp only [Nat.add_zero] at hst
  obtain ⟨m, rfl⟩ : ∃ m, n = m + 1 := ⟨n - 1, by omega⟩
  simp [Builtin.clear_, run_underlying ht, hv, hst]
set_option maxHeartbeats 4000000 in
set_option maxRecDepth 1000000 in
theorem del_at (L : SlLaysE0.n45 P ρ) (i0 : TypeInfo) (z : Value) (size : Nat) (hi : P.info? (ρ.t 23) = some i0) (hz1 : i0.size = size) (hzs : z.cells.size = size) (hsz : 0 < size) (z23 : ∀ w, (Go.sizeOf (ρ.t 23)).run P w = .ok size w)
    (v23 : ∀ w, (zeroValue (ρ.t 23)).run P w = .ok z w) (hz1c : ∀ n, ∀ v ∈ (Builtin.zeroCells z.cells n).toList, v.oneCell' = true)
    (blk off n cap i j : Nat) (cs : List Value) (w : World) (hcl : cs.length = n * size) (hcap : n ≤ cap) (hm : cap ≤ 9223372036854775807) (hij : i < j) (hj : j ≤ n)
    (hcs : ∀ k v, cs[k]? = some v → w.cell? ⟨blk, off + k, none⟩ = some v) (hfz : ∀ k, k < n * size → w.frozen? ⟨blk, off + k, none⟩ = false) (h1c : ∀ v ∈ cs, v.oneCell' = true) :
    Calls P (ρ.f 45) #[.slice (some ⟨blk, off, none⟩) n cap, .int .i64 i, .int .i64 j] w fun e w' => e = .returned (.slice (some ⟨blk, off, none⟩) (n - (j - i)) cap) ∧
      w' = (w.drew.setCells blk (off + i * size) (cs.drop (j * size))).setCells blk (off + (i + (n - j)) * size) (Builtin.zeroCells z.cells (j - i)).toList := by
  have mixed := L.mixed; have t0 := L.t0; have a0 := L.a0; have z0 := L.z0; have v0 := L.v0; have t3 := L.t3; have a3 := L.a3; have z3 := L.z3; have v3 := L.v3; have t4 := L.t4; have a4 := L.a4; have z4 := L.z4; have v4 := L.v4; have t22 := L.t22; have a22 := L.a22; have z22 := L.z22; have v22 := L.v22
  have hjn : j * size ≤ n * size := Nat.mul_le_mul_right _ hj
  have hijs : i * size ≤ j * size := Nat.mul_le_mul_right _ (by omega)
  have hnj : (n - j) * size = n * size - j * size := Nat.sub_mul n j size
  have hdl : (cs.drop (j * size)).length = (n - j) * size := by rw [List.length_drop, hcl, hnj]
  have hinj : (i + (n - j)) * size = i * size + (n - j) * size := Nat.add_mul _ _ _
  have hji : (j - i) * size = j * size - i * size := Nat.sub_mul j i size
  have hcell : ∀ k, k < n * size → (w.cell? ⟨blk, off + k, none⟩).isSome = true := fun k hk => by
    rw [hcs k _ (List.getElem?_eq_getElem (by omega))]; rfl
  obtain ⟨news, hnews⟩ : ∃ news, news = cs.drop (j * size) := ⟨_, rfl⟩
  rw [← hnews] at hdl ⊢
  have hnext : j < cap → ∀ k v, news[k]? = some v → w.drew.cell? ⟨blk, off + j * size + k, none⟩ = some v := fun _ k v hk => by
    rw [hnews, List.getElem?_drop] at hk
    rw [Nat.add_assoc]
    exact hcs _ v hk
  obtain ⟨A, hA, hsrc⟩ : ∃ A : Addr, (if cap = j then some (⟨blk, off, none⟩ : Addr) else some ⟨blk, off + j * size, none⟩) = some A ∧ Hid (∀ t u, news[t]? = some u → w.drew.cell? (A.add t) = some u) := by
    by_cases h : cap = j
    · refine ⟨⟨blk, off, none⟩, by simp [h], fun t u hu => ?_⟩
      have h0 : news.length = 0 := by rw [hdl, show n - j = 0 by omega, Nat.zero_mul]
      rw [List.length_eq_zero_iff.1 h0] at hu
      simp at hu
    · refine ⟨⟨blk, off + j * size, none⟩, by simp [h], fun t u hu => ?_⟩
      rw [Addr.add_lit]
      exact hnext (by omega) t u hu
  have s1 : Hid (news.length = (n - j) * size) := hdl
  have s2 : Hid (∀ u ∈ news, u.oneCell' = true) := fun u hu => h1c u (List.mem_of_mem_drop (by rw [← hnews]; exact hu))
  have s3 : Hid (∀ t, t < news.length → (w.drew.cell? ⟨blk, off + i * size + t, none⟩).isSome = true ∧ w.drew.frozen? ⟨blk, off + i * size + t, none⟩ = false) := by
    intro t ht
    rw [hdl] at ht
    rw [Nat.add_assoc]
    exact ⟨hcell _ (by omega), hfz _ (by omega)⟩
  obtain ⟨W1, hW1⟩ : ∃ W1, W1 = w.drew.setCells blk (off + i * size) news := ⟨_, rfl⟩
  have hc1 : ∀ k, k < n * size → (W1.cell? ⟨blk, off + k, none⟩).isSome = true := fun k hk => by
    rw [hW1]
    exact isSome_setCells blk _ _ _ (fun t ht => (s3 t ht).1) _ (hcell k hk)
  have hf1 : ∀ k, k < n * size → W1.frozen? ⟨blk, off + k, none⟩ = false := fun k hk => by
    rw [hW1, World.frozen?_setCells]; exact hfz k hk
  have hsub2 : n - (i + (n - j)) = j - i := by omega
  have hcl2 : ∀ ty, (Builtin.clear_ #[ρ.t 22] ty #[.slice (some ⟨blk, off + (i + (n - j)) * size, none⟩) (n - (i + (n - j))) (cap - (i + (n - j)))]).run P W1 = .ok (.tuple #[]) (W1.setCells blk (off + (i + (n - j)) * size) (Builtin.zeroCells z.cells (j - i)).toList) := fun ty => by
    rw [hsub2]
    exact run_clear_cells W1 _ _ ty z t22 v23 blk _ _ _ (by omega) (hz1c _) (fun k hk => by rw [hzs] at hk; rw [Nat.add_assoc]; exact hc1 _ (by omega)) (fun k hk => by rw [hzs] at hk; rw [Nat.add_assoc]; exact hf1 _ (by omega))
  have hW : Hid (W1 = w.drew.setCells blk (off + i * size) news) := hW1
  rw [← hW1]
  obtain ⟨Z, hZ⟩ : ∃ Z, Z = (Builtin.zeroCells z.cells (j - i)).toList := ⟨_, rfl⟩
  rw [← hZ] at hcl2 ⊢
  clear hZ hz1c hzs
  have hic : i ≤ cap := by omega
  have hjc : j ≤ cap := by omega
  clear hW1 hc1 hf1 hcell hcs hfz hnext hnews hdl h1c hinj hnj hji hsub2 hjn hijs
  obtain ⟨_, _, FG⟩ := L.f45
  go_enter FG, SlBodyN.n45_ntmps ρ
  go_wp2_with fail
  go_region_law_o (refine step_append_room rfl (.tmp 22) (.tmp 25) (ρ.t 22) rfl (ρ.t 23) i0 size t22 hi hz1 blk off i cap (by simp [Act.eval, Act.put]) A (n - j) (cap - j) news (by simp [Act.eval, Act.put]) s1.out hsrc.out s2.out (by omega) s3.out ?_; rw [← hW.out])
  go_wp2
  go_ret
  refine ⟨by rw [show n - (j - i) = i + (n - j) by omega]; rfl, rfl⟩
end Go.Mir

set_option linter.unusedVariables false
set_option linter.unusedSimpArgs false
set_option linter.unusedSectionVars false
namespace Go.Mir
open Go Go.Proofs Go.Shelf Go.RowKit Go.Lib
theorem flat_take {α : Type} {xs : List (List α)} {size : Nat} (hxl : ∀ x ∈ xs, x.length = size) (k : Nat) : (xs.take k).flatten = xs.flatten.take (k * size) := by
  have hfl : xs.flatten.length = xs.length * size := flat_len hxl
  have := List.take_append_drop k xs
  have hl1 : (xs.take k).flatten.length = (xs.take k).length * size := flat_len fun x hx => hxl x (List.mem_of_mem_take hx)
  conv => rhs; rw [← this, List.flatten_append]
  rw [List.length_take] at hl1
  by_cases hk : k ≤ xs.length
  · rw [List.take_append_of_le_length (by rw [hl1, Nat.min_eq_left hk]; exact Nat.le_refl _), List.take_of_length_le (l := (xs.take k).flatten) (by rw [hl1, Nat.min_eq_left hk]; exact Nat.le_refl _)]
  · have h1 : xs.length * size ≤ k * size := Nat.mul_le_mul_right _ (by omega)
    rw [← List.flatten_append, this, List.take_of_length_le (by omega), List.take_of_length_le (by omega)]
theorem flat_drop {α : Type} {xs : List (List α)} {size : Nat} (hxl : ∀ x ∈ xs, x.length = size) (k : Nat) : (xs.drop k).flatten = xs.flatten.drop (k * size) := by
  have := congrArg List.flatten (List.take_append_drop k xs)
  rw [List.flatten_append, flat_take hxl k] at this
  have h2 := List.take_append_drop (k * size) xs.flatten
  exact List.append_cancel_left (this.trans h2.symm)
section
variable {P : Program} {ρ : Ren} (L : SlLaysE0.n45 P ρ) (i0 : TypeInfo) (z : Value) (size : Nat) (hi : P.info? (ρ.t 23) = some i0) (hz1 : i0.size = size) (hzs : z.cells.size = size) (hsz : 0 < size) (z23 : ∀ w, (Go.sizeOf (ρ.t 23)).run P w = .ok size w)
    (v23 : ∀ w, (zeroValue (ρ.t 23)).run P w = .ok z w) (hz1c : ∀ n, ∀ v ∈ (Builtin.zeroCells z.cells n).toList, v.oneCell' = true)
include L hi hz1 hzs hsz z23 v23 hz1c
theorem del_own (g n cap i j : Nat) (cs : List Value) (cur : Array Value) (w : World) (hcl : cs.length = n * size) (hcap : n ≤ cap) (hm : cap ≤ maxLen) (hij : i < j) (hj : j ≤ n)
    (hg : w.heap[g]? = some (.cells cur (ρ.t 23) (0, 0))) (hcur : cur.size = cap * size) (hcells : cur.toList.take (n * size) = cs) (h1c : ∀ v ∈ cs, v.oneCell' = true) :
    Calls P (ρ.f 45) #[.slice (some ⟨g, 0, none⟩) n cap, .int .i64 i, .int .i64 j] w fun e w' => ∃ cur', e = .returned (.slice (some ⟨g, 0, none⟩) (n - (j - i)) cap) ∧ w'.heap[g]? = some (.cells cur' (ρ.t 23) (0, 0)) ∧ cur'.size = cap * size ∧
      cur'.toList.take ((n - (j - i)) * size) = cs.take (i * size) ++ cs.drop (j * size) ∧ Grow (fun k => k = g) w w' := by
  have hncap : n * size ≤ cap * size := Nat.mul_le_mul_right _ hcap
  have hget' : ∀ j, j < n * size → cs[j]? = cur[j]? := fun j hj => by rw [← hcells, List.getElem?_take, if_pos hj]; simp
  have hcs : ∀ j v, cs[j]? = some v → w.cell? ⟨g, 0 + j, none⟩ = some v := fun j v hj => by
    rw [Nat.zero_add, cell?_cells hg, ← hget' j (by have := (List.getElem?_eq_some_iff.1 hj).1; omega)]; exact hj
  refine (del_at L i0 z size hi hz1 hzs hsz z23 v23 hz1c g 0 n cap i j cs w hcl hcap (by unfold maxLen at hm; omega) hij hj hcs (fun k hk => by simp [World.frozen?, hg]) h1c).mono fun e w' ⟨he, hw'⟩ => ?_
  subst hw'
  simp only [Nat.zero_add] at *
  obtain ⟨c1, hc1, hs1⟩ := heap_setCells_in g (ρ.t 23) (0, 0) (cs.drop (j * size)) (i * size) w.drew cur hg
  obtain ⟨c2, hc2, hs2⟩ := heap_setCells_in g (ρ.t 23) (0, 0) (Builtin.zeroCells z.cells (j - i)).toList ((i + (n - j)) * size) _ c1 hc1
  have hjn : j * size ≤ n * size := Nat.mul_le_mul_right _ hj
  have hijs : i * size ≤ j * size := Nat.mul_le_mul_right _ (by omega)
  have hnj : (n - j) * size = n * size - j * size := Nat.sub_mul n j size
  have hdl : (cs.drop (j * size)).length = (n - j) * size := by rw [List.length_drop, hcl, hnj]
  have hinj : (i + (n - j)) * size = i * size + (n - j) * size := Nat.add_mul _ _ _
  have hnn : n - (j - i) = i + (n - j) := by omega
  refine ⟨c2, he, hc2, by omega, ?_, ⟨?_, ?_, ?_, ?_, ?_⟩⟩
  · rw [hnn]
    apply List.ext_getElem?
    intro k
    have hL : (cs.take (i * size)).length = i * size := by rw [List.length_take]; omega
    rw [List.getElem?_take]
    by_cases hk : k < (i + (n - j)) * size
    · rw [if_pos hk, Array.getElem?_toList, ← cell?_cells hc2, World.cell?_setCells_out g _ _ _ _ (fun _ _ => .inl (by simpa using hk))]
      by_cases a1 : k < i * size
      · rw [World.cell?_setCells_out g _ _ _ _ (fun _ _ => .inl (by simpa using a1)), List.getElem?_append_left (by omega), List.getElem?_take, if_pos a1, show w.drew.cell? ⟨g, k, none⟩ = w.cell? ⟨g, k, none⟩ from rfl, cell?_cells hg, hget' k (by omega)]
      · obtain ⟨q, rfl⟩ : ∃ q, k = i * size + q := ⟨k - i * size, by omega⟩
        rw [World.cell?_setCells_in g (cs.drop (j * size)) (i * size) _ (fun t ht => by rw [show w.drew.cell? ⟨g, i * size + t, none⟩ = w.cell? ⟨g, i * size + t, none⟩ from rfl, cell?_cells hg, Array.getElem?_eq_getElem (by omega)]; rfl) q (by omega), ← List.getElem?_eq_getElem (by omega), List.getElem?_append_right (by omega), hL, Nat.add_sub_cancel_left]
    · rw [if_neg hk, List.getElem?_eq_none (by rw [List.length_append, hL, hdl]; omega)]
  · rw [(os_setCells g _ _ _).1, (os_setCells g _ _ _).1]; rfl
  · rw [(os_setCells g _ _ _).2.1, (os_setCells g _ _ _).2.1]; rfl
  · rw [(os_setCells g _ _ _).2.2, (os_setCells g _ _ _).2.2]; rfl
  · rw [size_setCells, size_setCells]; exact Nat.le_refl _
  · intro k hk hkg
    rw [heap_setCells_out g _ _ _ _ hkg, heap_setCells_out g _ _ _ _ hkg]; rfl
end
def delGiven (P : Program) (el : Nat) : List PM × (List T → Option Res) := ([.own, .ro, .ro], fun
  | [.vs false [.own e xs], .vs false [.d (.sc (.int .i64 i))], .vs false [.d (.sc (.int .i64 j))]] =>
    if e = el ∧ 0 ≤ i ∧ i < j ∧ j.toNat ≤ xs.length ∧ xs.all (fun c => c.length == P.cellsOf el) = true then
      some (.one (.own el (xs.take i.toNat ++ xs.drop j.toNat)), []) else none
  | _ => none)
theorem del_ok {P : Program} {ρ : Ren} (L : SlLaysE0.n45 P ρ) {i0 : TypeInfo} {z : Value} (hi : P.info? (ρ.t 23) = some i0) (hzs : z.cells.size = i0.size) (hsz : 0 < i0.size) (z23 : ∀ w, (Go.sizeOf (ρ.t 23)).run P w = .ok i0.size w)
    (v23 : ∀ w, (zeroValue (ρ.t 23)).run P w = .ok z w) (hz1c : ∀ n, ∀ v ∈ (Builtin.zeroCells z.cells n).toList, v.oneCell' = true) (hfn : ∃ fn, P.funcs[ρ.f 45]? = some fn ∧ (fn.name == "runtime.NumGoroutine") = false ∧ fn.body.isNone = false)
    {pm : FuncId → List PM} (hpm : pm (ρ.f 45) = [.own, .ro, .ro]) {args : List T} {r : Res} (h : (delGiven P (ρ.t 23)).2 args = some r) : CallR P pm (ρ.f 45) args r := by
  simp only [delGiven] at h
  split at h
  case h_2 => cases h
  rename_i e xs i j
  split at h
  case isFalse => cases h
  rename_i hc
  obtain ⟨rfl, hi0, hij, hjn, hall⟩ := hc
  cases h
  have hcs : P.cellsOf (ρ.t 23) = i0.size := by simp [Program.cellsOf, hi]
  obtain ⟨size, hsize⟩ : ∃ s, s = i0.size := ⟨_, rfl⟩
  rw [← hsize] at hzs hsz z23
  have hxl : ∀ x ∈ xs, x.length = size := fun x hx => by
    have := List.all_eq_true.1 hall x hx
    rw [hsize]
    simpa [hcs] using this
  have hfl : xs.flatten.length = xs.length * size := flat_len hxl
  obtain ⟨n, hn⟩ : ∃ n, i.toNat = n := ⟨_, rfl⟩
  obtain ⟨m, hm⟩ : ∃ m, j.toNat = m := ⟨_, rfl⟩
  have hin' : i = (n : Int) := by omega
  have hjm' : j = (m : Int) := by omega
  subst hin' hjm'
  rw [hn, hm]
  rw [hm] at hjn
  have hnm : n < m := by omega
  refine ⟨hfn, rfl, fun X w us Fa hX hl ha hd hx => ?_⟩
  match us, hl with
  | [u0, u1, u2], _ =>
    have h0 := VS.toOne (ha 0 _ u0 rfl rfl)
    have h1 := VS.toOne (ha 1 _ u1 rfl rfl)
    have h2 := VS.toOne (ha 2 _ u2 rfl rfl)
    have h1' : u1 = .int .i64 n := by
      cases h1 with
      | d _ h => cases h; rfl
      | blk _ hh => simp [Shape] at hh
    have h2' : u2 = .int .i64 m := by
      cases h2 with
      | d _ h => cases h; rfl
      | blk _ hh => simp [Shape] at hh
    subst h1' h2'
    have hlt0 : ∀ b, Fa 0 b → b < w.heap.size := h0.lt
    cases h0 with
    | nil hF => simp at hjn; omega
    | blk Fs hh hg hc hd' hb hF =>
    rename_i g vs cur e fz
    simp only [Shape] at hh
    obtain ⟨rfl, rfl, _, _, rfl, cap, rfl, hcap, hcm, hcur⟩ := hh
    rw [hcs, ← hsize] at hcur
    have hcul : cur.toList.length = cap * size := by rw [Array.length_toList]; exact hcur
    have hncap : xs.length * size ≤ cap * size := Nat.mul_le_mul_right _ hcap
    have hO : OwnL P w (fun b => ¬ X b ∧ ∀ j, j < 3 → ¬ Fa j b) xs.flatten (cur.toList.take (xs.length * size)) (fun b => ∃ j, j < xs.flatten.length ∧ Fs j b) := by
      refine ⟨by rw [List.length_take, hfl, hcul]; omega, Fs, ?_, hd', fun b => Iff.rfl⟩
      intro j v u hv hu
      rw [List.getElem?_take] at hu
      split at hu
      · exact hc j v u hv (by simpa using hu)
      · cases hu
    have hg0 : Fa 0 g := (hF g).2 (.inl rfl)
    have hg1 : ¬ ∃ j, j < xs.flatten.length ∧ Fs j g := fun ⟨j, hj, hh⟩ => hb j hj hh
    have hF0 : ∀ b, (∃ j, j < xs.flatten.length ∧ Fs j b) → Fa 0 b := fun b h => (hF b).2 (.inr h)
    obtain ⟨cs, hcsd⟩ : ∃ cs, cs = cur.toList.take (xs.length * size) := ⟨_, rfl⟩
    rw [← hcsd] at hO
    have hcl : cs.length = xs.length * size := by rw [← hO.1, hfl]
    have hone : ∀ v ∈ cs, v.oneCell' = true := fun v hv => by
      obtain ⟨hl, Fs, h1, _, _⟩ := hO
      obtain ⟨j, hj, rfl⟩ := List.mem_iff_getElem.1 hv
      exact (h1 j _ _ (List.getElem?_eq_getElem (by omega)) (List.getElem?_eq_getElem hj)).one
    refine (del_own L i0 z size hi hsize.symm hzs hsz z23 v23 hz1c g xs.length cap n m cs cur w hcl hcap hcm hnm hjn hg hcur hcsd.symm hone).mono fun en w' ⟨cur', he, hg', hcur', hcells, hgrow⟩ => ?_
    obtain ⟨F1, F2, s1, s2, s3, s4⟩ := hO.split (m * size)
    obtain ⟨F11, F12, t1, t2, t3, t4⟩ := s1.split (n * size)
    have hnms : n * size ≤ m * size := Nat.mul_le_mul_right _ (by omega)
    rw [List.take_take, List.take_take, Nat.min_eq_left hnms] at t1
    have hs12 : OwnL P w (fun b => ¬ X b ∧ ∀ j, j < 3 → ¬ Fa j b) (xs.take n ++ xs.drop m).flatten (cs.take (n * size) ++ cs.drop (m * size)) (fun b => F11 b ∨ F2 b) := by
      rw [List.flatten_append, flat_take hxl, flat_drop hxl]
      exact OwnL.append t1 s2 fun b hb hh => s4 b ((t3 b).2 (.inl hb)) hh
    obtain ⟨FF, hFF⟩ : ∃ FF : Nat → Prop, FF = fun b => F11 b ∨ F2 b := ⟨_, rfl⟩
    rw [← hFF] at hs12
    have hFF0 : ∀ b, FF b → Fa 0 b ∧ b ≠ g := fun b hb => by
      have h : ∃ j, j < xs.flatten.length ∧ Fs j b := by
        rw [hFF] at hb
        rcases hb with hb | hb
        · exact (s3 b).2 (.inl ((t3 b).2 (.inl hb)))
        · exact (s3 b).2 (.inr hb)
      exact ⟨hF0 b h, fun e => hg1 (e ▸ h)⟩
    have hown' : OwnL P w' (fun b => ¬ X b ∧ ¬ (b = g ∨ FF b) ∧ ¬ No b) (xs.take n ++ xs.drop m).flatten (cs.take (n * size) ++ cs.drop (m * size)) FF := by
      refine hs12.frame (fun b hb => ?_) fun b hb hbl => ?_
      · exact hgrow.block b (hlt0 b (hFF0 b hb).1) (hFF0 b hb).2
      · have hbg : b ≠ g := fun e => hb.2 0 (by decide) (by rw [e]; exact hg0)
        exact ⟨⟨hb.1, fun hh => hh.elim hbg fun hh => hb.2 0 (by decide) (hFF0 b hh).1, fun h => h⟩, hgrow.block b hbl hbg⟩
    obtain ⟨hol, FS, o1, o2, o3⟩ := hown'
    have hxl' : ∀ x ∈ xs.take n ++ xs.drop m, x.length = size := fun x hx' => by
      rcases List.mem_append.1 hx' with hx' | hx'
      · exact hxl x (List.mem_of_mem_take hx')
      · exact hxl x (List.mem_of_mem_drop hx')
    have hll : (xs.take n ++ xs.drop m).length = xs.length - (m - n) := by
      rw [List.length_append, List.length_take, List.length_drop]; omega
    have hfl' : (xs.take n ++ xs.drop m).flatten.length = (xs.length - (m - n)) * size := by rw [flat_len hxl', hll]
    refine ⟨_, he, hgrow.mono (fun b _ hb => ⟨0, by simp, by rw [hb]; exact hg0⟩), (fun b => b = g ∨ FF b), No, ?_, ?_, fun _ h h2 => h2, fun b h => ?_⟩
    · refine VS.ofOne (.blk FS (vs := (xs.take n ++ xs.drop m).flatten) ⟨rfl, rfl, by rw [hcs, ← hsize]; exact hsz, fun c hc => by rw [hcs, ← hsize]; exact hxl' c hc, rfl, cap, by rw [hll], by rw [hll]; omega, hcm, by rw [hcs, ← hsize]; exact hcur'⟩ hg' (fun j v u hv hu => ?_) o2 (fun j hj hh => ?_) (fun b => ?_))
      · refine o1 j v u hv ?_
        rw [← hcells, List.getElem?_take, if_pos (by rw [← hfl']; exact (List.getElem?_eq_some_iff.1 hv).1)]
        simpa using hu
      · exact (hFF0 g ((o3 g).2 ⟨j, hj, hh⟩)).2 rfl
      · rw [o3 b]
    · rw [hpm]; exact ⟨rfl, fun _ => No, fun j v u h => by simp at h, fun i j b h => by simp at h, fun b => ⟨fun h => h.elim, fun ⟨_, _, h⟩ => h.elim⟩⟩
    · rcases h with (rfl | h) | h
      · exact ⟨hx 0 _ (by simp) hg0, .inl ⟨0, by simp, hg0⟩⟩
      · exact ⟨hx 0 _ (by simp) (hFF0 b h).1, .inl ⟨0, by simp, (hFF0 b h).1⟩⟩
      · exact h.elim
end Go.Mir

set_option linter.unusedVariables false
set_option linter.unusedSimpArgs false
namespace Go.Mir.Tryz
open Go Go.Proofs Go.Shelf Go.RowKit
theorem cloR : SlLaysE0.n41 Tryz.prog (cloRen 126 79 81) := by
  constructor
  all_goals first
    | (intros; kernel_rfl)
    | exact ⟨_, by kernel_rfl, by kernel_rfl⟩
    | exact ⟨"slices.Clone[[]quorum/api.Row,quorum/api.Row]", by decide, by kernel_rfl⟩
theorem cloRs : SlLaysE0.n41 Tryz.prog (cloRen 125 39 79) := by
  constructor
  all_goals first
    | (intros; kernel_rfl)
    | exact ⟨_, by kernel_rfl, by kernel_rfl⟩
    | exact ⟨"slices.Clone[[][]quorum/api.Row,[]quorum/api.Row]", by decide, by kernel_rfl⟩
theorem cloW : SlLaysE0.n41 Tryz.prog (cloRen 141 68 78) := by
  constructor
  all_goals first
    | (intros; kernel_rfl)
    | exact ⟨_, by kernel_rfl, by kernel_rfl⟩
    | exact ⟨"slices.Clone[[]quorum/api.Write,quorum/api.Write]", by decide, by kernel_rfl⟩
theorem cloR_ok {pm : FuncId → List PM} (hpm : pm 126 = [.ro]) {args : List T} {r : Res} (h : (cloneGiven Tryz.prog 81).2 args = some r) : CallR Tryz.prog pm 126 args r :=
  clone_ok' cloR (by decide +kernel) ⟨_, Tryz.func126, by kernel_rfl, by kernel_rfl⟩ hpm h
theorem cloRs_ok {pm : FuncId → List PM} (hpm : pm 125 = [.ro]) {args : List T} {r : Res} (h : (cloneGiven Tryz.prog 79).2 args = some r) : CallR Tryz.prog pm 125 args r :=
  clone_ok' cloRs (by decide +kernel) ⟨_, Tryz.func125, by kernel_rfl, by kernel_rfl⟩ hpm h
theorem cloW_ok {pm : FuncId → List PM} (hpm : pm 141 = [.ro]) {args : List T} {r : Res} (h : (cloneGiven Tryz.prog 78).2 args = some r) : CallR Tryz.prog pm 141 args r :=
  clone_ok' cloW (by decide +kernel) ⟨_, Tryz.func141, by kernel_rfl, by kernel_rfl⟩ hpm h
def insRen (f v q s t : Nat) : Ren := ⟨fun n => if n = 22 then f else if n = 29 then v else if n = 30 then q else n, fun n => if n = 24 then s else if n = 9 then t else n, fun n => n⟩
theorem insR : InsL Tryz.prog (insRen 138 148 149 79 81) := by
  constructor
  case f29 => exact fun args w => run_callFunc_extern (P := Tryz.prog) (f := 148) Tryz.func148 (by kernel_rfl) (by kernel_rfl) (by kernel_rfl) (e := Extern.SlicesOverlaps.overlaps #[79, 79] #[4]) (by kernel_rfl) args w
  all_goals first
    | (intros; kernel_rfl)
    | exact ⟨_, by kernel_rfl, by kernel_rfl⟩
    | exact ⟨"slices.Insert[[]quorum/api.Row,quorum/api.Row]", by decide, by kernel_rfl⟩
theorem ins_ok' {P : Program} {f v q s t : Nat} (L : InsL P (insRen f v q s t)) (hi : infoOk P t = true) (hfn : ∃ fn, P.funcs[f]? = some fn ∧ (fn.name == "runtime.NumGoroutine") = false ∧ fn.body.isNone = false)
    {pm : FuncId → List PM} (hpm : pm f = [.own, .ro, .own]) {args : List T} {r : Res} (h : (insGiven P t).2 args = some r) : CallR P pm f args r := by
  unfold infoOk at hi
  split at hi
  · rename_i i hi0
    split at hi
    · rename_i z hz
      simp only [Bool.and_eq_true, beq_iff_eq, decide_eq_true_eq] at hi
      have hi1 : P.info? ((insRen f v q s t).t 9) = some i := hi0
      exact ins_ok L hi1 hz hi.1 hi.2 (fun w => by simp [Go.sizeOf, typeInfo, hi1]) hfn hpm h
    · cases hi
  · cases hi
theorem insR_ok {pm : FuncId → List PM} (hpm : pm 138 = [.own, .ro, .own]) {args : List T} {r : Res} (h : (insGiven Tryz.prog 81).2 args = some r) : CallR Tryz.prog pm 138 args r :=
  ins_ok' insR (by decide +kernel) ⟨_, Tryz.func138, by kernel_rfl, by kernel_rfl⟩ hpm h
def delRen (f s t : Nat) : Ren := ⟨fun n => if n = 45 then f else n, fun n => if n = 22 then s else if n = 23 then t else n, fun n => n⟩
theorem delR : SlLaysE0.n45 Tryz.prog (delRen 137 79 81) := by
  constructor
  all_goals first
    | (intros; kernel_rfl)
    | exact ⟨_, by kernel_rfl, by kernel_rfl⟩
    | exact ⟨"slices.Delete[[]quorum/api.Row,quorum/api.Row]", by decide, by kernel_rfl⟩
def infoZ (P : Program) (t : Nat) : Bool := match P.info? t with
  | some i => match i.zero with
    | some z => z.cells.size == i.size && decide (0 < i.size) && z.cells.all (·.oneCell')
    | none => false
  | none => false
theorem zeroCells_ones {cs : Array Value} (h : cs.all (·.oneCell') = true) (n : Nat) : ∀ v ∈ (Builtin.zeroCells cs n).toList, v.oneCell' = true := by
  intro v hv
  by_cases hc : cs.size = 0
  · have : (Builtin.zeroCells cs n).toList.length = 0 := by rw [Array.length_toList, size_zeroCells, hc, Nat.mul_zero]
    rw [List.length_eq_zero_iff.1 this] at hv; cases hv
  · rw [Array.all_eq_true] at h
    unfold Builtin.zeroCells at hv
    simp only [Array.toList_map, List.mem_map] at hv
    obtain ⟨i, _, rfl⟩ := hv
    have hm : i % cs.size < cs.size := Nat.mod_lt _ (by omega)
    rw [getElem!_pos cs _ hm]
    exact h _ hm
theorem del_ok' {P : Program} {f s t : Nat} (L : SlLaysE0.n45 P (delRen f s t)) (hi : infoZ P t = true) (hv : ∀ w z i, P.info? t = some i → i.zero = some z → (zeroValue t).run P w = .ok z w) (hfn : ∃ fn, P.funcs[f]? = some fn ∧ (fn.name == "runtime.NumGoroutine") = false ∧ fn.body.isNone = false)
    {pm : FuncId → List PM} (hpm : pm f = [.own, .ro, .ro]) {args : List T} {r : Res} (h : (delGiven P t).2 args = some r) : CallR P pm f args r := by
  unfold infoZ at hi
  split at hi
  · rename_i i hi0
    split at hi
    · rename_i z hz
      simp only [Bool.and_eq_true, beq_iff_eq, decide_eq_true_eq] at hi
      have hi1 : P.info? ((delRen f s t).t 23) = some i := hi0
      exact del_ok L hi1 hi.1.1 hi.1.2 (fun w => by simp [Go.sizeOf, typeInfo, hi1]) (fun w => hv w z i hi0 hz) (zeroCells_ones hi.2) hfn hpm h
    · cases hi
  · cases hi
theorem delR_ok {pm : FuncId → List PM} (hpm : pm 137 = [.own, .ro, .ro]) {args : List T} {r : Res} (h : (delGiven Tryz.prog 81).2 args = some r) : CallR Tryz.prog pm 137 args r :=
  del_ok' delR (by decide +kernel) (fun w z i h1 h2 => by simp [zeroValue, typeInfo, h1, h2]) ⟨_, Tryz.func137, by kernel_rfl, by kernel_rfl⟩ hpm h
theorem cmpCall (a b : ByteArray) (w : World) : (callFunc 152 #[.string a, .string b]).run Tryz.prog w = .ok (.value (.int .i64 (Lib.compareBytes a.data.toList b.data.toList))) w := by
  rw [run_callFunc_extern (P := Tryz.prog) Tryz.func152 (by kernel_rfl) (by kernel_rfl) (by kernel_rfl) (e := Extern.BytealgCompare.compare) (by kernel_rfl), Lib.run_compareString]
  rfl
theorem cmpB (a b : ByteArray) (w : World) : Calls Tryz.prog 147 #[.string a, .string b] w fun e w' => e = .returned (.int .i64 (Lib.compareBytes a.data.toList b.data.toList)) ∧ w' = w := by
  have h := cmpCall a b
  go_enter Tryz.func147, Tryz.ntmps147
  go_wp2_with (simp only [h])
  go_ret
  exact ⟨rfl, rfl⟩
theorem cmpS (a b : ByteArray) (w : World) : Calls Tryz.prog 136 #[.string a, .string b] w fun e w' => e = .returned (.int .i64 (Lib.compareBytes a.data.toList b.data.toList)) ∧ w' = w := by
  go_enter Tryz.func136, Tryz.ntmps136
  go_wp2_with fail
  refine (cmpB a b _).mono ?_
  rintro e w1 ⟨rfl, rfl⟩
  go_wp2
  go_ret
  exact ⟨rfl, rfl⟩
def cmpGiven : List PM × (List T → Option Res) := ([.ro, .ro], fun
  | [.vs false [.d (.sc (.string a))], .vs false [.d (.sc (.string b))]] => some (.int .i64 (Lib.compareBytes a.data.toList b.data.toList), [])
  | _ => none)
theorem cmp_ok {pm : FuncId → List PM} (hpm : pm 136 = [.ro, .ro]) {args : List T} {r : Res} (h : cmpGiven.2 args = some r) : CallR Tryz.prog pm 136 args r := by
  simp only [cmpGiven] at h
  split at h
  case h_2 => cases h
  rename_i a b
  cases h
  refine ⟨⟨_, Tryz.func136, by kernel_rfl, by kernel_rfl⟩, rfl, fun X w us Fa hX hl ha hd hx => ?_⟩
  match us, hl with
  | [u, v], _ =>
    obtain rfl := sc_of (ha 0 _ u rfl rfl)
    obtain rfl := sc_of (ha 1 _ v rfl rfl)
    refine (cmpS a b w).mono fun en w' ⟨he, hb⟩ => ?_
    subst hb
    refine ⟨_, he, Grow.refl _ _, No, No, of_sc rfl, ?_, fun _ h _ => h, fun b h => by rcases h with h | h <;> exact h.elim⟩
    rw [hpm]; exact own_none
end Go.Mir.Tryz

set_option linter.unusedVariables false
set_option linter.unusedSimpArgs false
namespace Go.Mir.Tryz
open Go Go.Proofs Go.Shelf Go.RowKit Go.Lib Go.Sort
abbrev WrV := Int × ByteArray × ByteArray × Bool
abbrev wrE (x : WrV) : Value := .agg #[.int .i64 x.1, .string x.2.1, .string x.2.2.1, .bool x.2.2.2]
structure RowW (w : World) (b off n N : Nat) (f : Nat → WrV) : Prop where
  c0 : ∀ j, j < n → w.cell? ⟨b, off + j * 4, none⟩ = some (.int .i64 (f j).1)
  c1 : ∀ j, j < n → w.cell? ⟨b, off + j * 4 + 1, none⟩ = some (.string (f j).2.1)
  c2 : ∀ j, j < n → w.cell? ⟨b, off + j * 4 + 2, none⟩ = some (.string (f j).2.2.1)
  c3 : ∀ j, j < n → w.cell? ⟨b, off + j * 4 + 3, none⟩ = some (.bool (f j).2.2.2)
  z : ∀ j, j < n → ∀ i, i < 4 → w.frozen? ⟨b, off + j * 4 + i, none⟩ = false
  blk : ∃ cur, w.heap[b]? = some (.cells cur 78 (0, 0)) ∧ cur.size = N
theorem RowW.below {A B : World} {b off n N n₀ : Nat} {f : Nat → WrV} (h : RowW A b off n N f) (hb : b < n₀) (hl : Below n₀ A B) : RowW B b off n N f :=
  ⟨fun j hj => (hl.cell (p := ⟨b, _, none⟩) hb).trans (h.c0 j hj), fun j hj => (hl.cell (p := ⟨b, _, none⟩) hb).trans (h.c1 j hj), fun j hj => (hl.cell (p := ⟨b, _, none⟩) hb).trans (h.c2 j hj), fun j hj => (hl.cell (p := ⟨b, _, none⟩) hb).trans (h.c3 j hj),
    fun j hj i hi => (hl.frozen (p := ⟨b, _, none⟩) hb).trans (h.z j hj i hi), by obtain ⟨cur, h1, h2⟩ := h.blk; exact ⟨cur, (hl.block b hb).trans h1, h2⟩⟩
theorem RowW.set {w : World} {b n N : Nat} {f : Nat → WrV} (h : RowW w b 0 n N f) {k : Nat} (hk : k < n) (x : WrV) :
    RowW ((((w.setCell ⟨b, k * 4, none⟩ (.int .i64 x.1)).setCell ⟨b, k * 4 + 1, none⟩ (.string x.2.1)).setCell ⟨b, k * 4 + 2, none⟩ (.string x.2.2.1)).setCell ⟨b, k * 4 + 3, none⟩ (.bool x.2.2.2)) b 0 n N (fun j => if j = k then x else f j) := by
  obtain ⟨vs, hvs⟩ : ∃ vs : List Value, vs = [.int .i64 x.1, .string x.2.1, .string x.2.2.1, .bool x.2.2.2] := ⟨_, rfl⟩
  have hw : (((w.setCell ⟨b, k * 4, none⟩ (.int .i64 x.1)).setCell ⟨b, k * 4 + 1, none⟩ (.string x.2.1)).setCell ⟨b, k * 4 + 2, none⟩ (.string x.2.2.1)).setCell ⟨b, k * 4 + 3, none⟩ (.bool x.2.2.2) = w.setCells b (k * 4) vs := by rw [hvs]; rfl
  rw [hw]
  have hl : vs.length = 4 := by rw [hvs]; rfl
  have hsome : ∀ i, i < vs.length → (w.cell? ⟨b, k * 4 + i, none⟩).isSome = true := fun i hi => by
    have a0 := h.c0 k hk; have a1 := h.c1 k hk; have a2 := h.c2 k hk; have a3 := h.c3 k hk
    simp only [Nat.zero_add] at a0 a1 a2 a3
    match i, (by omega : i < 4) with
    | 0, _ => rw [Nat.add_zero, a0]; rfl
    | 1, _ => rw [a1]; rfl
    | 2, _ => rw [a2]; rfl
    | 3, _ => rw [a3]; rfl
  have hin : ∀ i, (hi : i < 4) → (w.setCells b (k * 4) vs).cell? ⟨b, k * 4 + i, none⟩ = vs[i]? := fun i hi => by
    rw [World.cell?_setCells_in b vs (k * 4) _ hsome i (by omega), List.getElem?_eq_getElem (by omega)]
  have hout : ∀ j i, j ≠ k → i < 4 → (w.setCells b (k * 4) vs).cell? ⟨b, j * 4 + i, none⟩ = w.cell? ⟨b, j * 4 + i, none⟩ := fun j i hj hi =>
    World.cell?_setCells_out b vs _ _ _ (fun _ _ => by simp only; omega)
  refine ⟨fun j hj => ?_, fun j hj => ?_, fun j hj => ?_, fun j hj => ?_, fun j hj i hi => ?_, ?_⟩
  · by_cases e : j = k
    · subst e; have := hin 0 (by omega); rw [Nat.zero_add, if_pos rfl]; rw [Nat.add_zero] at this; rw [this, hvs]; rfl
    · have := hout j 0 e (by omega); rw [Nat.zero_add, if_neg e]; rw [Nat.add_zero] at this; rw [this]; simpa using h.c0 j hj
  · by_cases e : j = k
    · subst e; rw [Nat.zero_add, if_pos rfl, hin 1 (by omega), hvs]; rfl
    · rw [Nat.zero_add, if_neg e, hout j 1 e (by omega)]; simpa using h.c1 j hj
  · by_cases e : j = k
    · subst e; rw [Nat.zero_add, if_pos rfl, hin 2 (by omega), hvs]; rfl
    · rw [Nat.zero_add, if_neg e, hout j 2 e (by omega)]; simpa using h.c2 j hj
  · by_cases e : j = k
    · subst e; rw [Nat.zero_add, if_pos rfl, hin 3 (by omega), hvs]; rfl
    · rw [Nat.zero_add, if_neg e, hout j 3 e (by omega)]; simpa using h.c3 j hj
  · rw [World.frozen?_setCells]; exact h.z j hj i hi
  · obtain ⟨cur, h1, h2⟩ := h.blk
    obtain ⟨c2, h3, h4⟩ := heap_setCells_in b _ _ vs (k * 4) w cur h1
    exact ⟨c2, h3, h4.trans h2⟩
theorem RowW.some {w : World} {b n N : Nat} {f : Nat → WrV} (h : RowW w b 0 n N f) {m : Nat} (hm : m < n * 4) : (w.cell? ⟨b, m, none⟩).isSome = true := by
  have hq : m / 4 < n := by omega
  have a0 := h.c0 _ hq; have a1 := h.c1 _ hq; have a2 := h.c2 _ hq; have a3 := h.c3 _ hq
  have e : m = m / 4 * 4 + m % 4 := by omega
  simp only [Nat.zero_add] at a0 a1 a2 a3
  have h4 : m % 4 < 4 := Nat.mod_lt _ (by omega)
  generalize m / 4 = q at a0 a1 a2 a3 e
  generalize m % 4 = i at h4 e
  subst e
  match i, h4 with
  | 0, _ => rw [Nat.add_zero, a0]; rfl
  | 1, _ => rw [a1]; rfl
  | 2, _ => rw [a2]; rfl
  | 3, _ => rw [a3]; rfl
theorem RowW.cut {w : World} {b n N kk : Nat} {f : Nat → WrV} (h : RowW w b 0 n N f) (hk : kk ≤ n) (vs : List Value) : RowW (w.setCells b (kk * 4) vs) b 0 kk N f := by
  have hout : ∀ j i, j < kk → i < 4 → (w.setCells b (kk * 4) vs).cell? ⟨b, j * 4 + i, none⟩ = w.cell? ⟨b, j * 4 + i, none⟩ := fun j i hj hi =>
    World.cell?_setCells_out b vs _ _ _ (fun _ _ => by simp only; omega)
  refine ⟨fun j hj => ?_, fun j hj => ?_, fun j hj => ?_, fun j hj => ?_, fun j hj i hi => ?_, ?_⟩
  · have := hout j 0 hj (by omega); rw [Nat.zero_add]; rw [Nat.add_zero] at this; rw [this]; simpa using h.c0 j (by omega)
  · rw [Nat.zero_add, hout j 1 hj (by omega)]; simpa using h.c1 j (by omega)
  · rw [Nat.zero_add, hout j 2 hj (by omega)]; simpa using h.c2 j (by omega)
  · rw [Nat.zero_add, hout j 3 hj (by omega)]; simpa using h.c3 j (by omega)
  · rw [World.frozen?_setCells]; exact h.z j (by omega) i hi
  · obtain ⟨cur, h1, h2⟩ := h.blk
    obtain ⟨c2, h3, h4⟩ := heap_setCells_in b _ _ vs (kk * 4) w cur h1
    exact ⟨c2, h3, h4.trans h2⟩
def kept (eqK : WrV → WrV → Bool) (g : Nat → WrV) (j : Nat) : Bool := decide (j = 0) || !eqK (g j) (g (j - 1))
def outs (eqK : WrV → WrV → Bool) (g : Nat → WrV) (m : Nat) : List WrV := ((List.range m).filter (kept eqK g)).map g
theorem outs_succ (eqK : WrV → WrV → Bool) (g : Nat → WrV) (m : Nat) : outs eqK g (m + 1) = outs eqK g m ++ (if kept eqK g m then [g m] else []) := by
  simp only [outs, List.range_succ, List.filter_append, List.map_append]
  congr 1
  simp only [List.filter_cons, List.filter_nil]
  split <;> rfl
theorem outs_le (eqK : WrV → WrV → Bool) (g : Nat → WrV) (m : Nat) : (outs eqK g m).length ≤ m := by
  have := List.length_filter_le (kept eqK g) (List.range m)
  simpa [outs] using this
theorem outs_all (eqK : WrV → WrV → Bool) (g : Nat → WrV) : ∀ (m : Nat), (∀ j, j < m → kept eqK g j = true) → (outs eqK g m).length = m ∧ ∀ j, j < m → (outs eqK g m)[j]? = some (g j)
  | 0, _ => ⟨rfl, fun j h => by omega⟩
  | m + 1, h => by
    obtain ⟨i1, i2⟩ := outs_all eqK g m fun j hj => h j (by omega)
    rw [outs_succ, if_pos (h m (by omega))]
    refine ⟨by simp [i1], fun j hj => ?_⟩
    by_cases e : j = m
    · subst e; rw [List.getElem?_append_right (by omega), i1]; simp
    · rw [List.getElem?_append_left (by omega)]; exact i2 j (by omega)
set_option maxRecDepth 1000000 in
set_option maxHeartbeats 4000000 in
theorem cmf_walk (eqK : WrV → WrV → Bool) (n N b cap : Nat) (g : Nat → WrV) (w : World) (hb : b < w.heap.size) (hn : n ≤ 140737488355328) (hcap : n ≤ cap) (hcm : cap ≤ 9223372036854775807) (hR : RowW w b 0 n N g)
    (hE : ∀ (W : World) (x y : WrV), w.heap.size ≤ W.heap.size → Calls Tryz.prog 146 #[wrE x, wrE y] W fun e W' => e = .returned (.bool (eqK x y)) ∧ Below W.heap.size W W') :
    Calls Tryz.prog 145 #[.slice (some ⟨b, 0, none⟩) n cap, .func (.func 146) #[] #[]] w fun e w' =>
      e = .returned (.slice (some ⟨b, 0, none⟩) (outs eqK g n).length cap) ∧ ∃ f, RowW w' b 0 (outs eqK g n).length N f ∧ (∀ j, j < (outs eqK g n).length → (outs eqK g n)[j]? = some (f j)) ∧ Grow (fun k => k = b) w w' := by
  by_cases h2 : n < 2
  · have H : Aside (RowW w b 0 n N g) := hR
    have E : Aside (∀ (W : World) (x y : WrV), w.heap.size ≤ W.heap.size → Calls Tryz.prog 146 #[wrE x, wrE y] W fun e W' => e = .returned (.bool (eqK x y)) ∧ Below W.heap.size W W') := hE
    clear hR hE
    go_enter Tryz.func145, Tryz.ntmps145
    go_wp2
    go_ret
    obtain ⟨i1, i2⟩ := outs_all eqK g n fun j hj => by obtain rfl : j = 0 := (by omega); rfl
    exact ⟨by rw [i1]; rfl, g, by rw [i1]; exact H.out, fun j hj => i2 j (by omega), Grow.refl _ _⟩
  · have E : Aside (∀ (W : World) (x y : WrV), w.heap.size ≤ W.heap.size → Calls Tryz.prog 146 #[wrE x, wrE y] W fun e W' => e = .returned (.bool (eqK x y)) ∧ Below W.heap.size W W') := hE
    have H : Aside (RowW w b 0 n N g) := hR
    clear hR hE
    go_enter Tryz.func145, Tryz.ntmps145
    go_wp2
    go_loopg [5] n (fun gg s5 wr => ∃ k : Nat, 1 ≤ k ∧ k ≤ n ∧ n - k ≤ gg ∧ s5 = .int .i64 k ∧ Below w.heap.size w wr ∧ ∀ j, j < k → kept eqK g j = true)
    case atStart => exact ⟨1, Nat.le_refl _, by omega, by omega, rfl, Below.refl _ _, fun j hj => by obtain rfl : j = 0 := (by omega); rfl⟩
    case round =>
      obtain ⟨k, hk1, hk, hgg, rfl, hbl, hall⟩ := hrel
      have hwr : w.heap.size ≤ wr.heap.size := hbl.size
      have HR : Aside (RowW wr b 0 n N g) := H.out.below hb hbl
      by_cases hlt : k < n
      · have a0 := HR.out.c0 k hlt; have a1 := HR.out.c1 k hlt; have a2 := HR.out.c2 k hlt; have a3 := HR.out.c3 k hlt
        have b0 := HR.out.c0 (k - 1) (by omega); have b1 := HR.out.c1 (k - 1) (by omega); have b2 := HR.out.c2 (k - 1) (by omega); have b3 := HR.out.c3 (k - 1) (by omega)
        simp only [Nat.zero_add] at a0 a1 a2 a3 b0 b1 b2 b3
        have A : Aside (∀ j, j < k → kept eqK g j = true) := hall
        have BL : Aside (Below w.heap.size w wr) := hbl
        clear hall hbl
        have hcall := E.out wr.drew (g k) (g (k - 1)) hwr
        have h64 : IntKind.i64.wrap ((k : Int) - 1) = (k : Int) - 1 := by rw [IntKind.wrap_i64]; omega
        have hk0 : (0 : Int) ≤ (k : Int) - 1 := by omega
        have htn : ((k : Int) - 1).toNat = k - 1 := by omega
        have hk1' : (1 : Int) ≤ (k : Int) := by omega
        have hk2 : (k : Int) - 1 < (n : Int) := by omega
        have mixed : Tryz.prog.follows .mixedOrders = true := by kernel_rfl
        generalize hx : g k = x at a0 a1 a2 a3 hcall
        generalize hy : g (k - 1) = y at b0 b1 b2 b3 hcall
        have B : Aside (g k = x ∧ g (k - 1) = y) := ⟨hx, hy⟩
        clear hx hy
        go_wp2_with fail
        go_region_with_o (first | (go_at_call 146; refine hcall.mono ?_; rintro e w' ⟨rfl, hb1⟩) | (go_at_fn 146; refine hcall.mono ?_; rintro e w' ⟨rfl, hb1⟩))
        all_goals
          have hb2 : Below wr.heap.size wr w' := Below.trans (b := wr.drew) ⟨rfl, rfl, rfl, Nat.le_refl _, fun _ _ => rfl⟩ hb1
          clear hb1
          cases hq : eqK x y with
          | false =>
            go_wp2
            go_roundg (n - (k + 1))
            case measure => omega
            case rel =>
              refine ⟨k + 1, by omega, by omega, Nat.le_refl _, by go_num, BL.out.trans (hb2.mono hwr), fun j hj => ?_⟩
              by_cases e : j = k
              · subst e; simp [kept, B.out.1, B.out.2, hq]
              · exact A.out j (by omega)
          | true =>
            have hw' : w.heap.size ≤ w'.heap.size := Nat.le_trans hwr hb2.size
            have HR' : Aside (RowW w' b 0 n N g) := HR.out.below (show b < wr.heap.size by omega) hb2
            have BL' : Aside (Below w.heap.size w w') := BL.out.trans (hb2.mono hwr)
            have Q : Aside (eqK (g k) (g (k - 1)) = true) := by show eqK (g k) (g (k - 1)) = true; rw [B.out.1, B.out.2]; exact hq
            clear a0 a1 a2 a3 b0 b1 b2 b3 hcall hb2 h64 hk0 htn hq
            go_wp2
            go_loopg [5, 7] n (fun gg s5 s7 wr => ∃ (kk k2 : Nat) (f : Nat → WrV), s5 = .int .i64 kk ∧ s7 = .int .i64 k2 ∧ 1 ≤ k2 ∧ k + k2 ≤ n ∧ n - (k + k2) ≤ gg ∧ kk ≤ k + k2 - 1 ∧ Aside (RowW wr b 0 n N f ∧ Grow (fun i => i = b) w wr ∧ kk = (outs eqK g (k + k2)).length ∧ (∀ j, j < kk → (outs eqK g (k + k2))[j]? = some (f j)) ∧ ∀ j, k + k2 - 1 ≤ j → j < n → f j = g j))
            case atStart =>
              have ho : outs eqK g (k + 1) = outs eqK g k := by rw [outs_succ, if_neg]; · simp
                                                                simp [kept, Q.out]; omega
              obtain ⟨i1, i2⟩ := outs_all eqK g k A.out
              exact ⟨k, 1, g, rfl, rfl, Nat.le_refl _, by omega, by omega, by omega, HR'.out, ⟨BL'.out.os, BL'.out.tape, BL'.out.output, BL'.out.size, fun j hj _ => BL'.out.block j hj⟩, by rw [ho, i1], fun j hj => by rw [ho]; exact i2 j hj, fun j _ _ => rfl⟩
            case round =>
              obtain ⟨kk, k2, f, rfl, rfl, hk21, hle, hgg2, hkk, I⟩ := hrel
              obtain ⟨HF, HG, hlen, hpre, hhi⟩ := I.out
              have hwr2 : w.heap.size ≤ wr.heap.size := HG.size
              by_cases hlt2 : k + k2 < n
              · have hm := HF.c0 (k + k2) hlt2; have hm1 := HF.c1 (k + k2) hlt2; have hm2 := HF.c2 (k + k2) hlt2; have hm3 := HF.c3 (k + k2) hlt2
                have hp := HF.c0 (k + k2 - 1) (by omega); have hp1 := HF.c1 (k + k2 - 1) (by omega); have hp2 := HF.c2 (k + k2 - 1) (by omega); have hp3 := HF.c3 (k + k2 - 1) (by omega)
                rw [hhi (k + k2) (by omega) hlt2] at hm hm1 hm2 hm3
                rw [hhi (k + k2 - 1) (Nat.le_refl _) (by omega)] at hp hp1 hp2 hp3
                have e1 : (k + k2) * 4 = k * 4 + k2 * 4 := by omega
                have e2 : (k + k2 - 1) * 4 = k * 4 + (k2 - 1) * 4 := by omega
                simp only [Nat.zero_add, e1] at hm hm1 hm2 hm3
                simp only [Nat.zero_add, e2] at hp hp1 hp2 hp3
                have hcall := E.out wr.drew (g (k + k2)) (g (k + k2 - 1)) hwr2
                have h64 : IntKind.i64.wrap ((k2 : Int) - 1) = (k2 : Int) - 1 := by rw [IntKind.wrap_i64]; omega
                have hk0 : (0 : Int) ≤ (k2 : Int) - 1 := by omega
                have htn : ((k2 : Int) - 1).toNat = k2 - 1 := by omega
                have hk1' : (1 : Int) ≤ (k2 : Int) := by omega
                have hk2' : (k2 : Int) - 1 < ((n - k : Nat) : Int) := by omega
                have hk3' : (k2 : Int) < ((n - k : Nat) : Int) := by omega
                have hk4' : k2 < n - k := by omega
                have mixed : Tryz.prog.follows .mixedOrders = true := by kernel_rfl
                clear HF HG hpre hhi e1 e2 hlen
                generalize hx : g (k + k2) = x at hm hm1 hm2 hm3 hcall
                generalize hy : g (k + k2 - 1) = y at hp hp1 hp2 hp3 hcall
                have C : Aside (g (k + k2) = x ∧ g (k + k2 - 1) = y) := ⟨hx, hy⟩
                clear hx hy
                go_wp2_with fail
                go_region_with_o (first | (go_at_call 146; refine hcall.mono ?_; rintro e w3 ⟨rfl, hb3⟩) | (go_at_fn 146; refine hcall.mono ?_; rintro e w3 ⟨rfl, hb3⟩))
                all_goals
                  have hb4 : Below wr.heap.size wr w3 := Below.trans (b := wr.drew) ⟨rfl, rfl, rfl, Nat.le_refl _, fun _ _ => rfl⟩ hb3
                  clear hb3
                  cases hq : eqK x y with
                  | true =>
                    go_wp2
                    go_roundg (n - (k + (k2 + 1)))
                    case measure => omega
                    case rel =>
                      obtain ⟨HF, HG, hlen, hpre, hhi⟩ := I.out
                      have ho : outs eqK g (k + (k2 + 1)) = outs eqK g (k + k2) := by
                        rw [show k + (k2 + 1) = (k + k2) + 1 by omega, outs_succ, if_neg (by simp [kept, C.out.1, C.out.2, hq]; omega), List.append_nil]
                      exact ⟨kk, k2 + 1, f, rfl, by go_num, by omega, by omega, Nat.le_refl _, by omega, HF.below (show b < wr.heap.size by omega) hb4,
                        HG.trans ⟨hb4.os, hb4.tape, hb4.output, hb4.size, fun i hi _ => hb4.block i hi⟩, by rw [ho]; exact hlen, fun j hj => by rw [ho]; exact hpre j hj, fun j h1 h2 => hhi j (by omega) h2⟩
                  | false =>
                    have HF3 : Aside (RowW w3 b 0 n N f) := I.out.1.below (show b < wr.heap.size by omega) hb4
                    have hkn : kk < n := by omega
                    have hgx : f (k + k2) = x := by rw [I.out.2.2.2.2 (k + k2) (by omega) hlt2]; exact C.out.1
                    have n0 := HF3.out.c0 (k + k2) hlt2; have n1 := HF3.out.c1 (k + k2) hlt2; have n2 := HF3.out.c2 (k + k2) hlt2; have n3 := HF3.out.c3 (k + k2) hlt2
                    have k0 := HF3.out.c0 kk hkn; have k1 := HF3.out.c1 kk hkn; have k2' := HF3.out.c2 kk hkn; have k3 := HF3.out.c3 kk hkn
                    have z0 := HF3.out.z kk hkn 0 (by omega); have z1 := HF3.out.z kk hkn 1 (by omega); have z2 := HF3.out.z kk hkn 2 (by omega); have z3 := HF3.out.z kk hkn 3 (by omega)
                    rw [hgx] at n0 n1 n2 n3
                    simp only [Nat.zero_add, Nat.add_zero, show (k + k2) * 4 = k * 4 + k2 * 4 by omega] at n0 n1 n2 n3 k0 k1 k2' k3 z0 z1 z2 z3
                    clear hgx hm hm1 hm2 hm3 hp hp1 hp2 hp3 hcall
                    have hkn' : (kk : Int) < (n : Int) := by omega
                    go_wp2
                    go_roundg (n - (k + (k2 + 1)))
                    case measure => omega
                    case rel =>
                      obtain ⟨HF, HG, hlen, hpre, hhi⟩ := I.out
                      have hk : kept eqK g (k + k2) = true := by simp [kept, C.out.1, C.out.2, hq]
                      have ho : outs eqK g (k + (k2 + 1)) = outs eqK g (k + k2) ++ [x] := by
                        rw [show k + (k2 + 1) = (k + k2) + 1 by omega, outs_succ, if_pos hk, C.out.1]
                      refine ⟨kk + 1, k2 + 1, fun j => if j = kk then x else f j, by go_num, by go_num, by omega, by omega, Nat.le_refl _, by omega, HF3.out.set hkn x, ?_, ?_, fun j hj => ?_, fun j h1 h2 => ?_⟩
                      · have G3 : Grow (fun i => i = b) w w3 := HG.trans ⟨hb4.os, hb4.tape, hb4.output, hb4.size, fun i hi _ => hb4.block i hi⟩
                        exact (((G3.trans (Grow.setCell _ _ _ rfl)).trans (Grow.setCell _ _ _ rfl)).trans (Grow.setCell _ _ _ rfl)).trans (Grow.setCell _ _ _ rfl)
                      · rw [ho, List.length_append, ← hlen]; rfl
                      · rw [ho]
                        dsimp only
                        by_cases e : j = kk
                        · rw [if_pos e, List.getElem?_append_right (by omega), show j - (outs eqK g (k + k2)).length = 0 by omega]; rfl
                        · rw [if_neg e, List.getElem?_append_left (by omega)]; exact hpre j (by omega)
                      · dsimp only
                        rw [if_neg (by omega)]; exact hhi j (by omega) h2
              · have hend : k + k2 = n := by omega
                have hkn : kk ≤ n := by omega
                obtain ⟨Z, hZ⟩ : ∃ Z : Array Value, Z = #[.int .i64 0, .string ⟨#[]⟩, .string ⟨#[]⟩, .bool false] := ⟨_, rfl⟩
                have t68 : Tryz.prog.underlying 68 = some (.slice 78) := by kernel_rfl
                have v78 : ∀ w, (zeroValue 78).run Tryz.prog w = .ok (.agg Z) w := fun w => by rw [hZ]; kernel_rfl
                have hcl : ∀ ty, (Builtin.clear_ #[68] ty #[.slice (some ⟨b, kk * 4, none⟩) (n - kk) (cap - kk)]).run Tryz.prog wr = .ok (.tuple #[]) (wr.setCells b (kk * 4) (Builtin.zeroCells Z (n - kk)).toList) := fun ty => by
                  have hsz : (Value.agg Z).cells.size = 4 := by rw [hZ]; rfl
                  refine run_clear_cells wr _ _ ty (.agg Z) t68 v78 b (kk * 4) (n - kk) (cap - kk) (by omega) (zeroCells_ones (by rw [hZ]; simp [Value.cells, Value.oneCell']) _) (fun m hm => ?_) (fun m hm => ?_)
                  · rw [hsz] at hm
                    exact HF.some (m := kk * 4 + m) (by omega)
                  · rw [hsz] at hm
                    have hq : (kk * 4 + m) / 4 < n := by omega
                    have := HF.z ((kk * 4 + m) / 4) hq ((kk * 4 + m) % 4) (Nat.mod_lt _ (by omega))
                    rwa [show 0 + (kk * 4 + m) / 4 * 4 + (kk * 4 + m) % 4 = kk * 4 + m by omega] at this
                clear HF HG hpre hhi hlen
                go_wp2
                go_ret
                obtain ⟨HF, HG, hlen, hpre, hhi⟩ := I.out
                rw [hend] at hlen hpre
                refine ⟨by rw [← hlen]; rfl, f, ?_, fun j hj => hpre j (by omega), ?_⟩
                · rw [← hlen]
                  exact HF.cut hkn _
                · exact HG.trans ⟨(os_setCells _ _ _ _).1, (os_setCells _ _ _ _).2.1, (os_setCells _ _ _ _).2.2, by rw [size_setCells]; exact Nat.le_refl _, fun i _ hi => heap_setCells_out b _ _ _ _ hi⟩
      · obtain rfl : k = n := by omega
        have BL : Aside (Below w.heap.size w wr) := hbl
        have A : Aside (∀ j, j < k → kept eqK g j = true) := hall
        clear hall hbl
        go_wp2
        go_ret
        obtain ⟨i1, i2⟩ := outs_all eqK g k A.out
        exact ⟨by rw [i1]; rfl, g, by rw [i1]; exact HR.out, fun j hj => i2 j (by omega), ⟨BL.out.os, BL.out.tape, BL.out.output, BL.out.size, fun j hj _ => BL.out.block j hj⟩⟩
end Go.Mir.Tryz

set_option linter.unusedVariables false
namespace Go.Mir
theorem CallR.data {P : Program} {pm : FuncId → List PM} {f : FuncId} {args : List T} {r : Res} (h : CallR P pm f args r) {us : List Value} {w : World} (hl : args.length = us.length)
    (ha : ∀ (j : Nat) (t : T) (u : Value), args[j]? = some t → us[j]? = some u → TRe P w (fun _ => True) t u No) :
    Calls P f us.toArray w fun en w' => ∃ v, en = .returned v ∧ RowKit.Below w.heap.size w w' ∧ ∃ ok Fr, TRe P w' ok r.1 v Fr := by
  refine (h.2.2 No w us (fun _ => No) (fun _ h => h.elim) hl (fun j t u ht hu => ?_) (fun _ _ _ _ _ _ h => h.elim) (fun _ _ _ h => h.elim)).mono fun en w' ⟨v, he, hg, Fr, Fo, h1, _⟩ => ⟨v, he, ⟨hg.os, hg.tape, hg.output, hg.size, fun k hk => hg.block k hk (fun ⟨_, _, h⟩ => h)⟩, _, Fr, h1⟩
  exact (ha j t u ht hu).change (fun _ h => h.elim) (fun b _ _ => ⟨⟨fun h => h, fun _ _ h => h⟩, rfl⟩) (fun r k p ad _ _ ⟨a, cs, v, u, h, _⟩ => by simp [Env.get] at h) (fun r k p x _ _ ⟨a, cs, v, u, h, _⟩ => by simp [Env.get] at h)
theorem TRe.below {P : Program} {w W : World} {ok : Nat → Prop} {t : T} {u : Value} (h : TRe P w ok t u No) (hb : RowKit.Below w.heap.size w W) : TRe P W ok t u No :=
  h.change (fun _ h => h.elim) (fun b hok hl => ⟨hok, hb.block b hl⟩) (fun r k p ad _ _ ⟨a, cs, v, u, h, _⟩ => by simp [Env.get] at h) (fun r k p x _ _ ⟨a, cs, v, u, h, _⟩ => by simp [Env.get] at h)
theorem Own.dRO {P : Program} {w : World} {ok : Nat → Prop} {x : D} {u : Value} {F : Nat → Prop} (h : Own P w ok (.d x) u F) : RO w ok x u := by
  cases h with
  | d _ hr => exact hr
  | blk _ hh => simp [Shape] at hh
end Go.Mir

set_option linter.unusedVariables false
namespace Go.Mir
open Go
theorem CallR.pm {P : Program} {pm pm' : FuncId → List PM} {f : FuncId} {args : List T} {r : Res} (h : CallR P pm f args r) (e : pm' f = pm f) : CallR P pm' f args r := by
  unfold CallR at h ⊢
  rw [e]; exact h
open Classical in
noncomputable def stGiven (G : Prog) (f : FuncId) : List PM × (List T → Option Res) := (G.pm f, fun args => if h : ∃ r, Fun G f args r then some h.choose else none)
theorem st_ok {P : Program} {G : Prog} (hS : Sound P G) {f : FuncId} {pm : FuncId → List PM} (hpm : pm f = G.pm f) {args : List T} {r : Res} (h : (stGiven G f).2 args = some r) : CallR P pm f args r := by
  simp only [stGiven] at h
  split at h
  case isFalse => cases h
  rename_i hx
  cases h
  obtain ⟨k, hk⟩ := hx.choose_spec
  exact (call_ok hS hk).pm hpm
theorem lift {G H : Prog} {f : FuncId} {args : List T} {r : Res} (hg : H.given f = some (stGiven G f)) (h : Fun G f args r) : Fun H f args r := by
  refine ⟨1, ?_⟩
  simp only [callK, hg, stGiven]
  have hx : ∃ r, Fun G f args r := ⟨r, h⟩
  rw [dif_pos hx, Fun.uniq hx.choose_spec h]
end Go.Mir

set_option maxRecDepth 100000
namespace Go.Mir.Tryz
namespace S1
open Go.Proofs
def g146 : VG := [(2,[5]),(3,[6])]
def a146 : FAnn := { pm := [.ro,.ro],rt := g146.un,regs := [(0,{ keep := some [2,3] }),(1,{ md := [(2,.cp)],keep := some [4] })] }
def g144 : VG := [(2,[5,10]),(3,[7,12])]
def a144 : FAnn := { pm := [.ro,.ro],rt := g144.un,regs := [(0,{ keep := some [2,3] }),(1,{ md := [(9,.cp),(11,.cp)],keep := some [4],dr := [(false,[2]),(false,[2,5]),(false,[3]),(false,[3,7]),(false,[6,8]),(false,[2]),(false,[2,10]),(false,[3]),(false,[3,12]),(false,[11,13]),(true,[9,14,15]),(false,[15]),(true,[4,16])],cl := [[],[0],[],[2],[0,1,2,3],[],[5],[],[7],[5,6,7,8],[0,1,2,3,4,5,6,7,8,9],[0,1,2,3,4,5,6,7,8,9,10],[0,1,2,3,4,5,6,7,8,9,10,11]] })] }
def g151 : VG := []
def a151 : FAnn := { pm := [.ro],rt := g151.un,regs := [(0,{ keep := some [0] }),(1,{ keep := some [0,3] }),(2,{ keep := some [3,6,7,8] }),(3,{ keep := some [3,6,7,8,9] }),(4,{ keep := some [3,5,6,7,8] }),(5,{ keep := some [3,5,6,7,8,14] }),(6,{ keep := some [2] }),(7,{ keep := some [3,6,7,8] }),(8,{ keep := some [2] })] }
def b146 : IC := .seq (JR [Jy 2 0,Jy 3 1,Jo 4 false] [2,3]) (.seq (JR [Jg 5 4 2,Jg 6 4 3,Jv 7 144 5 6,Jk 8 .eql 7 0,Jt 4 8] [4]) .ret)
def pf146 : PFunc := ⟨2, [.ro, .ro], g146.un, [.tmp 4], b146⟩
theorem pe146 : prepF Go.Proofs.Tryz.prog a146 Go.Proofs.Tryz.f146 = some pf146 := by kernel_rfl
def b144 : IC := .seq (JR [Jy 2 0,Jy 3 1,Ji 4 0] [2,3]) (.seq (JW [(Jf 5 0 2,false,[2]),(Jl 6 5,false,[2,5]),(Jf 7 0 3,false,[3]),(Jl 8 7,false,[3,7]),(Jb 9 .sub 6 8,false,[6,8]),(Jf 10 1 2,false,[2]),(Jl 11 10,false,[2,10]),(Jf 12 1 3,false,[3]),(Jl 13 12,false,[3,12]),(Jv 14 136 11 13,false,[11,13]),(J 15 (.bslice 3 [.d (.sc (.int .i64 0))] 2 [(0,.tmp 9),(1,.tmp 14)]),true,[9,14,15]),(Jr 16 151 15,false,[15]),(Jt 4 16,true,[4,16])] [4]) .ret)
def pf144 : PFunc := ⟨2, [.ro, .ro], g144.un, [.tmp 4], b144⟩
theorem pe144 : prepF Go.Proofs.Tryz.prog a144 Go.Proofs.Tryz.f144 = some pf144 := by kernel_rfl
def b151 : IC := .seq (JR [Ji 2 0] [0]) (.seq (JR [Ji 3 0] [0,3]) (.seq (.seq (JR [Jc 6 0,Jn 7 6,J 8 (.mov .cp (.con (.int .i64 0)))] [3,6,7,8]) (.block 0 (.loop (.seq (JR [Jb 9 .lss 8 7] [3,6,7,8,9]) (.seq (.cond (.tmp 9) .skip (.exit 0)) (.seq (.block 1 (.seq (JR [Jx 10 1 6 8,Jl 11 10,Jt 5 11] [3,5,6,7,8]) (.seq (JR [Jc 12 5,Jc 13 3,Jb 14 .neq 12 13] [3,5,6,7,8,14]) (.cond (.tmp 14) (.seq (JR [Jc 15 5,Jt 2 15] [2]) .ret) .skip)))) (JR [Jk 16 .add 8 1,Jc 8 16] [3,6,7,8]))))))) (.seq (JR [Jc 17 3,Jt 2 17] [2]) .ret)))
def pf151 : PFunc := ⟨1, [.ro], g151.un, [.tmp 2], b151⟩
theorem pe151 : prepF Go.Proofs.Tryz.prog a151 Go.Proofs.Tryz.f151 = some pf151 := by kernel_rfl
def tab : List (Nat × PFunc) := [(146, pf146), (144, pf144), (151, pf151)]
noncomputable def gv : FuncId → Option (List PM × (List T → Option Res)) := fun f => if f = 136 then some cmpGiven else none
noncomputable def G : Prog := { fn := fun f => tab.lookup f, given := gv }
theorem Gpm : G.pm 146 = [.ro, .ro] ∧ G.pm 144 = [.ro, .ro] ∧ G.pm 151 = [.ro] ∧ G.pm 136 = [.ro, .ro] := by refine ⟨rfl, rfl, rfl, rfl⟩
attribute [push_cast] Gpm
theorem soundG : Sound Tryz.prog G :=
  ⟨(sound_tab (P := Tryz.prog) (l := tab) (⟨⟨_, a146, Tryz.func146, pe146⟩, ⟨⟨_, a144, Tryz.func144, pe144⟩, ⟨⟨_, a151, Tryz.func151, pe151⟩, trivial⟩⟩⟩)).fns, fun f g hg args r h => by
    simp only [G, gv] at hg
    by_cases e136 : f = 136
    · subst e136; simp only [if_true] at hg; cases hg; exact cmp_ok rfl h
    rw [if_neg e136] at hg
    cases hg⟩
end S1
end Go.Mir.Tryz

set_option linter.unusedVariables false
set_option linter.unusedSimpArgs false
set_option maxRecDepth 100000
namespace Go.Mir.Q
open Go.Mir
theorem given' {G : Prog} {f : FuncId} {pm : List PM} {h : List T → Option Res} {args : List T} {r : Res} (hg : G.given f = some (pm, h)) (hr : h args = some r) : Fun G f args r := ⟨1, by simp [callK, hg, hr]⟩
end Go.Mir.Q
namespace Go.Mir.Tryz
open Go.Proofs Go.Mir.Q
namespace S1
set_option maxHeartbeats 2000000 in
theorem f151 {a b : Int}  : Fun G 151 [.one (.d (.sl [[.sc (.int .i64 a)], [.sc (.int .i64 b)]]))] (.int .i64 (if a = 0 then b else a), []) := by
  refine Fun.of_run (g := g151) (pf := pf151) rfl rfl rfl rfl ?_
  simp (maxSteps := 1000000) (disch := first | assumption | ((try simp only [LEN, LEN2]); omega)) only [push_cast, sevalprocAttr, g151, pf151, b151]
  refine run_loop' (fun i : Nat => [(3, T.int .i64 0), (6, T.one (.d (.sl [[.sc (.int .i64 a)], [.sc (.int .i64 b)]]))), (7, T.int .i64 2), (8, T.int .i64 i)]) (fun i => i ≤ 2 ∧ (1 ≤ i → a = 0) ∧ (2 ≤ i → b = 0)) (fun i => 2 - i) 0 rfl ⟨by omega, by omega, by omega⟩ (fun i hi => ?_)
  obtain ⟨hi, h1, h2⟩ := hi
  match i, hi with
  | 0, _ =>
    by_cases h : a = 0
    · simp (maxSteps := 1000000) (disch := first | assumption | ((try simp only [LEN, LEN2]); omega)) only [push_cast, sevalprocAttr, g151, pf151, b151, h]
      exact ⟨1, rfl, ⟨by omega, fun _ => trivial, by omega⟩, by omega⟩
    · simp (maxSteps := 1000000) (disch := first | assumption | ((try simp only [LEN, LEN2]); omega)) only [push_cast, sevalprocAttr, g151, pf151, b151, h]
  | 1, _ =>
    obtain rfl := h1 (by omega)
    by_cases h : b = 0
    · simp (maxSteps := 1000000) (disch := first | assumption | ((try simp only [LEN, LEN2]); omega)) only [push_cast, sevalprocAttr, g151, pf151, b151, h]
      exact ⟨2, rfl, ⟨by omega, fun _ => trivial, fun _ => trivial⟩, by omega⟩
    · simp (maxSteps := 1000000) (disch := first | assumption | ((try simp only [LEN, LEN2]); omega)) only [push_cast, sevalprocAttr, g151, pf151, b151, h]
  | 2, _ =>
    obtain rfl := h1 (by omega)
    obtain rfl := h2 (by omega)
    simp (maxSteps := 1000000) (disch := first | assumption | ((try simp only [LEN, LEN2]); omega)) only [push_cast, sevalprocAttr, g151, pf151, b151]
theorem f151c {a b : Int}  : type_of% (cE (f151 (a := a) (b := b) )) := cE (f151 (a := a) (b := b) )
attribute [push_cast] f151c
theorem cmpG {x y : List UInt8} : Fun G 136 [.str (bs x), .str (bs y)] (.int .i64 (Lib.compareBytes x y), []) := given' rfl (by simp [cmpGiven, bs])
set_option maxHeartbeats 2000000 in
theorem f144 {a b : Write}  : Fun G 144 [.vs true (oW a), .vs true (oW b)] (.int .i64 (ordW a b), []) := by
  refine Fun.of_run (g := g144) (pf := pf144) rfl rfl rfl rfl ?_
  simp (maxSteps := 1000000) (disch := first | assumption | ((try simp only [LEN, LEN2]); omega)) only [push_cast, sevalprocAttr, g144, pf144, b144, oW, callC_eq (cmpG (x := a.Key) (y := b.Key))]
  rfl
theorem f144c {a b : Write}  : type_of% (cE (f144 (a := a) (b := b) )) := cE (f144 (a := a) (b := b) )
attribute [push_cast] f144c
set_option maxHeartbeats 2000000 in
theorem f146 {a b : Write}  : Fun G 146 [.vs true (oW a), .vs true (oW b)] (.bool (eqW a b), []) := by
  refine Fun.of_run (g := g146) (pf := pf146) rfl rfl rfl rfl ?_
  have h := f144 (a := a) (b := b)
  simp only [oW] at h
  simp (maxSteps := 1000000) (disch := first | assumption | ((try simp only [LEN, LEN2]); omega)) only [push_cast, sevalprocAttr, g146, pf146, b146, oW, callC_eq h]
  rfl
theorem f146c {a b : Write}  : type_of% (cE (f146 (a := a) (b := b) )) := cE (f146 (a := a) (b := b) )
attribute [push_cast] f146c
end S1
end Go.Mir.Tryz

set_option linter.unusedVariables false
set_option linter.unusedSimpArgs false
namespace Go.Mir.Tryz
open Go Go.Proofs Go.Shelf Go.RowKit Go.Mir.Q
theorem bs_of (x : ByteArray) : bs x.data.toList = x := by simp [bs]
def toW (x : WrV) : Write := ⟨x.1, x.2.1.data.toList, x.2.2.1.data.toList, x.2.2.2⟩
def ofW (w : Write) : WrV := (w.Table, bs w.Key, bs w.Value, w.Gone)
theorem toW_ofW (w : Write) : toW (ofW w) = w := by simp [toW, ofW, bs]
def eqV (x y : WrV) : Bool := eqW (toW x) (toW y)
def cpL (l : List Write) : List Write := (cpR l.reverse).reverse
theorem outs_cp (g : Nat → WrV) : ∀ m, outs eqV g m = ((cpR ((List.range m).map (fun j => toW (g j))).reverse).reverse).map ofW
  | 0 => rfl
  | 1 => by simp [outs, kept, List.range_succ, cpR, toW, ofW, bs]
  | m + 2 => by
    have h := outs_cp g (m + 1)
    rw [outs_succ, h]
    have e : ((List.range (m + 2)).map (fun j => toW (g j))).reverse = toW (g (m + 1)) :: ((List.range (m + 1)).map (fun j => toW (g j))).reverse := by
      rw [List.range_succ (n := m + 1), List.map_append, List.reverse_append]; rfl
    have e2 : ((List.range (m + 1)).map (fun j => toW (g j))).reverse = toW (g m) :: ((List.range m).map (fun j => toW (g j))).reverse := by
      rw [List.range_succ (n := m), List.map_append, List.reverse_append]; rfl
    rw [e, e2]
    simp only [cpR]
    have hk : kept eqV g (m + 1) = !eqW (toW (g (m + 1))) (toW (g m)) := by simp [kept, eqV]
    rw [hk]
    cases eqW (toW (g (m + 1))) (toW (g m)) with
    | true => simp
    | false => simp [toW, ofW, bs]
theorem oW_flat (l : List Write) : (l.map oW).flatten.length = l.length * 4 := by
  have := flat_len (sz := 4) (xs := l.map oW) (fun x hx => by obtain ⟨y, _, rfl⟩ := List.mem_map.1 hx; rfl)
  rwa [List.length_map] at this
theorem oW_inj {a b : List Write} (h : a.map oW = b.map oW) : a = b :=
  (List.map_inj_right (f := oW) fun x y h => by
    obtain ⟨x1, x2, x3, x4⟩ := x; obtain ⟨y1, y2, y3, y4⟩ := y
    simpa [oW, bs_inj] using h).1 h
open Classical in
noncomputable def cfGiven : List PM × (List T → Option Res) := ([.own, .ro], fun args =>
  if h : ∃ l : List Write, args = [.vs false [.own 78 (l.map oW)], .fn 146 []] ∧ l.length ≤ 140737488355328 then some (.one (.own 78 ((cpL h.choose).map oW)), []) else none)
theorem cfGiven_eq {l : List Write} (hl : l.length ≤ 140737488355328) : cfGiven.2 [.vs false [.own 78 (l.map oW)], .fn 146 []] = some (.one (.own 78 ((cpL l).map oW)), []) := by
  have h : ∃ x : List Write, [T.vs false [.own 78 (l.map oW)], .fn 146 []] = [.vs false [.own 78 (x.map oW)], .fn 146 []] ∧ x.length ≤ 140737488355328 := ⟨l, rfl, hl⟩
  simp only [cfGiven]
  rw [dif_pos h]
  have h2 := h.choose_spec.1
  generalize h.choose = y at h2 ⊢
  simp only [List.cons.injEq, T.vs.injEq, V.own.injEq, true_and, and_true] at h2
  rw [oW_inj h2]
theorem rowW_of {w : World} {b cap : Nat} {cur : Array Value} {l : List Write} (hg : w.heap[b]? = some (.cells cur 78 (0, 0)))
    (hc : ∀ (j : Nat) (v : V) (u : Value), (l.map oW).flatten[j]? = some v → cur[j]? = some u → Own Tryz.prog w (fun _ => True) v u No) (hs : cur.size = cap * 4) (hl : l.length ≤ cap) :
    RowW w b 0 l.length (cap * 4) (fun j => ofW (l.getD j ⟨0, [], [], false⟩)) := by
  have hcell : ∀ (j i : Nat) (x : Value), j < l.length → i < 4 → (∀ w ∈ l[j]?, (oW w)[i]? = some (.d (.sc x))) → w.cell? ⟨b, j * 4 + i, none⟩ = some x := fun j i x hj hi hx => by
    have hjc : j * 4 + i < cur.size := by omega
    have hv : (l.map oW).flatten[j * 4 + i]? = some (.d (.sc x)) := by
      refine flat_get (sz := 4) (fun c hc => ?_) (i := j) (c := oW l[j]) (by simp [hj]) (hx l[j] (by simp [hj]))
      obtain ⟨y, _, rfl⟩ := List.mem_map.1 hc
      rfl
    have := hc _ _ cur[j * 4 + i] hv (Array.getElem?_eq_getElem hjc)
    have hx2 : cur[j * 4 + i] = x := by
      have h2 := this.dRO
      generalize cur[j * 4 + i] = u at h2
      cases h2; rfl
    simp [World.cell?, hg, Array.getElem?_eq_getElem hjc, hx2]
  refine ⟨fun j hj => ?_, fun j hj => ?_, fun j hj => ?_, fun j hj => ?_, fun j hj i hi => ?_, cur, hg, hs⟩
  · have := hcell j 0 (.int .i64 (l.getD j ⟨0, [], [], false⟩).Table) hj (by omega) (by simp [List.getElem?_eq_getElem hj, oW, List.getD])
    simpa [ofW] using this
  · have := hcell j 1 (.string (bs (l.getD j ⟨0, [], [], false⟩).Key)) hj (by omega) (by simp [List.getElem?_eq_getElem hj, oW, List.getD])
    simpa [ofW] using this
  · have := hcell j 2 (.string (bs (l.getD j ⟨0, [], [], false⟩).Value)) hj (by omega) (by simp [List.getElem?_eq_getElem hj, oW, List.getD])
    simpa [ofW] using this
  · have := hcell j 3 (.bool (l.getD j ⟨0, [], [], false⟩).Gone) hj (by omega) (by simp [List.getElem?_eq_getElem hj, oW, List.getD])
    simpa [ofW] using this
  · simp [World.frozen?, hg]
set_option maxRecDepth 1000000 in
theorem cmf_nil (A : Option Addr) (w : World) : Calls Tryz.prog 145 #[.slice A 0 0, .func (.func 146) #[] #[]] w fun e w' => e = .returned (.slice A 0 0) ∧ w' = w := by
  go_enter Tryz.func145, Tryz.ntmps145
  go_wp2
  go_ret
  exact ⟨rfl, rfl⟩
theorem all1_calls (W : World) (x y : WrV) : Calls Tryz.prog 146 #[wrE x, wrE y] W fun e W' => e = .returned (.bool (eqV x y)) ∧ Below W.heap.size W W' := by
  obtain ⟨k, hk⟩ := S1.f146 (a := toW x) (b := toW y)
  have hx : ∀ (x : WrV), TRe Tryz.prog W (fun _ => True) (.vs true (oW (toW x))) (wrE x) No := fun x => by
    refine ⟨fun _ => ⟨_, rfl⟩, OwnL.ofData rfl fun j v u hv hu => ?_⟩
    simp only [oW, toW, bs_of] at hv
    simp only [wrE, cellsOf] at hu
    match j with
    | 0 => simp at hv hu; subst hv; subst hu; exact .d (fun _ h => h) (.sc rfl)
    | 1 => simp at hv hu; subst hv; subst hu; exact .d (fun _ h => h) (.sc rfl)
    | 2 => simp at hv hu; subst hv; subst hu; exact .d (fun _ h => h) (.sc rfl)
    | 3 => simp at hv hu; subst hv; subst hu; exact .d (fun _ h => h) (.sc rfl)
    | j + 4 => simp at hv
  refine ((call_ok S1.soundG hk).data (us := [wrE x, wrE y]) rfl (fun j t u ht hu => ?_)).mono fun en w' ⟨v, he, hbl, ok, Fr, htr⟩ => ⟨?_, hbl⟩
  · match j with
    | 0 => simp at ht hu; subst ht; subst hu; exact hx x
    | 1 => simp at ht hu; subst ht; subst hu; exact hx y
    | j + 2 => simp at ht
  · rw [he, sc_of htr]; rfl
theorem cf_ok {pm : FuncId → List PM} (hpm : pm 145 = [.own, .ro]) {args : List T} {r : Res} (h : cfGiven.2 args = some r) : CallR Tryz.prog pm 145 args r := by
  have h' := h
  simp only [cfGiven] at h'
  split at h'
  case isFalse => cases h'
  rename_i hx
  obtain ⟨l, rfl, hn⟩ := hx
  clear h'
  rw [cfGiven_eq hn] at h
  cases h
  have hfn : ∃ fn, Tryz.prog.funcs[145]? = some fn ∧ (fn.name == "runtime.NumGoroutine") = false ∧ fn.body.isNone = false := ⟨_, Tryz.func145, by kernel_rfl, by kernel_rfl⟩
  refine ⟨hfn, rfl, fun X w us Fa hX hl ha hd hx => ?_⟩
  match us, hl with
  | [u0, u1], _ =>
    have h0 := VS.toOne (ha 0 _ u0 rfl rfl)
    obtain ⟨_, vs1, rfl, hvl, _⟩ := ha 1 _ u1 rfl rfl
    obtain rfl : vs1 = [] := List.length_eq_zero_iff.1 (by simpa using hvl.symm)
    have hlt0 : ∀ b, Fa 0 b → b < w.heap.size := h0.lt
    have hc4 : Tryz.prog.cellsOf 78 = 4 := by decide +kernel
    obtain ⟨ys, hys⟩ : ∃ ys, ys = l.map oW := ⟨_, rfl⟩
    rw [← hys] at h0
    cases h0 with
    | nil hF =>
      obtain rfl : l = [] := by cases l; rfl; simp at hys
      refine (cmf_nil _ w).mono fun en w' ⟨he, hb⟩ => ?_
      subst hb
      refine ⟨_, he, Grow.refl _ _, No, No, VS.ofOne (.nil (fun _ h => h)), ?_, fun _ h _ => h, fun b h => by rcases h with h | h <;> exact h.elim⟩
      rw [hpm]; exact own_none
    | blk Fs hh hg hc hd' hb hF =>
    rename_i g vs cur e fz
    simp only [Shape] at hh
    obtain ⟨rfl, rfl, _, _, rfl, cap, rfl, hcap, hcm, hcur⟩ := hh
    subst hys
    rw [hc4] at hcur
    rw [List.length_map] at hcap
    have hfl := oW_flat l
    have hdat : ∀ v ∈ (l.map oW).flatten, V.isD v = true := fun v hv => by
      obtain ⟨c, hc, hv⟩ := List.mem_flatten.1 hv
      obtain ⟨y, _, rfl⟩ := List.mem_map.1 hc
      simp only [oW, List.mem_cons, List.not_mem_nil, or_false] at hv
      rcases hv with rfl | rfl | rfl | rfl <;> rfl
    have hown : ∀ (j : Nat) (v : V) (u : Value), (l.map oW).flatten[j]? = some v → cur[j]? = some u → Own Tryz.prog w (fun _ => True) v u No := fun j v u hv hu => by
      have h1 := hc j v u hv hu
      have h2 := hdat v (List.mem_of_getElem? hv)
      cases v with
      | d x =>
        obtain ⟨c, hc, hv⟩ := List.mem_flatten.1 (List.mem_of_getElem? hv)
        obtain ⟨y, _, rfl⟩ := List.mem_map.1 hc
        have h3 := h1.dRO
        refine .d (fun _ h => h) ?_
        simp only [oW, List.mem_cons, List.not_mem_nil, or_false, V.d.injEq] at hv
        rcases hv with rfl | rfl | rfl | rfl <;> (cases h3; exact .sc rfl)
      | _ => simp [V.isD] at h2
    have hg0 : Fa 0 g := (hF g).2 (.inl rfl)
    have hR := rowW_of hg hown hcur hcap
    have hcall := cmf_walk eqV l.length (cap * 4) g cap _ w (hlt0 g hg0) hn hcap hcm hR (fun W x y _ => all1_calls W x y)
    rw [List.length_map]
    refine hcall.mono fun en w' ⟨he, f, hR', hf, hgrow⟩ => ?_
    have ho : outs eqV (fun j => ofW (l.getD j ⟨0, [], [], false⟩)) l.length = (cpL l).map ofW := by
      rw [outs_cp]
      have : (List.range l.length).map (fun j => toW (ofW (l.getD j ⟨0, [], [], false⟩))) = l := by
        refine List.ext_getElem (by simp) fun i h1 h2 => ?_
        simp [toW_ofW, List.getD, List.getElem?_eq_getElem h2]
      rw [this]; rfl
    rw [ho] at he hR' hf
    rw [List.length_map] at he hR' hf
    obtain ⟨cur', hg', hs'⟩ := hR'.blk
    have hle : (cpL l).length ≤ cap := by
      have := outs_le eqV (fun j => ofW (l.getD j ⟨0, [], [], false⟩)) l.length
      rw [ho, List.length_map] at this; omega
    refine ⟨_, he, hgrow.mono (fun b _ hb => ⟨0, by simp, by rw [hb]; exact hg0⟩), (fun b => b = g), No, ?_, ?_, fun _ h h2 => h2, fun b h => ?_⟩
    · refine VS.ofOne (.blk (fun _ => No) (vs := ((cpL l).map oW).flatten) ⟨rfl, rfl, by rw [hc4]; omega, fun c hc => by rw [hc4]; obtain ⟨y, _, rfl⟩ := List.mem_map.1 hc; rfl, rfl, cap, by rw [List.length_map], by rw [List.length_map]; exact hle, hcm, by rw [hc4]; exact hs'⟩ hg' (fun j v u hv hu => ?_) (fun i j b _ _ _ h => h.elim) (fun j hj hh => hh) (fun b => ⟨fun h => .inl h, fun h => h.elim id fun ⟨_, _, h⟩ => h.elim⟩))
      have hfl' := oW_flat (cpL l)
      have hj : j < (cpL l).length * 4 := by rw [← hfl']; exact (List.getElem?_eq_some_iff.1 hv).1
      have hq : j / 4 < (cpL l).length := by omega
      have e : j = j / 4 * 4 + j % 4 := by omega
      have h4 : j % 4 < 4 := Nat.mod_lt _ (by omega)
      have hfq := hf _ hq
      rw [List.getElem?_map, List.getElem?_eq_getElem hq] at hfq
      have hfq : ofW (cpL l)[j / 4] = f (j / 4) := by simpa using hfq
      have c0 := hR'.c0 _ hq; have c1 := hR'.c1 _ hq; have c2 := hR'.c2 _ hq; have c3 := hR'.c3 _ hq
      simp only [Nat.zero_add, ← hfq, ofW] at c0 c1 c2 c3
      have hget : ∀ i, i < 4 → ((cpL l).map oW).flatten[j / 4 * 4 + i]? = (oW (cpL l)[j / 4])[i]? := fun i hi => by
        have hsome : ∃ v, (oW (cpL l)[j / 4])[i]? = some v := ⟨_, List.getElem?_eq_getElem (by simpa [oW] using hi)⟩
        obtain ⟨v, hv⟩ := hsome
        rw [hv]
        refine flat_get (sz := 4) (fun c hc => ?_) (i := j / 4) (c := oW (cpL l)[j / 4]) (by simp [hq]) hv
        obtain ⟨y, _, rfl⟩ := List.mem_map.1 hc
        rfl
      have hcu : w'.cell? ⟨g, j, none⟩ = some u := by simp [World.cell?, hg', hu]
      rw [e] at hv hcu
      rw [hget _ h4] at hv
      generalize j / 4 = q at *
      generalize j % 4 = i at *
      match i, h4 with
      | 0, _ =>
        rw [Nat.add_zero] at hcu; rw [c0] at hcu
        simp [oW] at hv hcu; subst hv; subst hcu; exact .d (fun _ h => h) (.sc rfl)
      | 1, _ => rw [c1] at hcu; simp [oW] at hv hcu; subst hv; subst hcu; exact .d (fun _ h => h) (.sc rfl)
      | 2, _ => rw [c2] at hcu; simp [oW] at hv hcu; subst hv; subst hcu; exact .d (fun _ h => h) (.sc rfl)
      | 3, _ => rw [c3] at hcu; simp [oW] at hv hcu; subst hv; subst hcu; exact .d (fun _ h => h) (.sc rfl)
    · rw [hpm]; exact own_none
    · rcases h with rfl | h
      · exact ⟨hx 0 _ (by simp) hg0, .inl ⟨0, by simp, hg0⟩⟩
      · exact h.elim
end Go.Mir.Tryz

set_option maxRecDepth 100000
namespace Go.Mir.Tryz
namespace S2
open Go.Proofs
def g104 : VG := [(3,[20]),(5,[4,9,14,16,18,19,23,25])]
def a104 : FAnn := { pm := [.ro,.ro],rt := g104.un,regs := [(0,{ keep := some [0,3] }),(1,{ md := [(1,.cp)],keep := some [3,5] }),(2,{ keep := some [3,5,10,11] }),(3,{ keep := some [3,5,10,11,12] }),(4,{ keep := some [3,5,6,10,11] }),(5,{ md := [(8,.cp)],keep := some [3,5,10,11],dr := [(false,[5]),(false,[6]),(false,[5]),(false,[6]),(false,[5,16,17]),(false,[5,18]),(false,[3]),(false,[6]),(false,[3,5,19,20,21]),(false,[5,14,15]),(true,[4,5,9,14,16,18,19,22,23,25])],cl := [[],[],[],[],[2,3],[2,3,4],[],[],[2,3,4,5,6,7],[0,1,2,3,4,5,6,7,8],[0,1,2,3,4,5,6,7,8,9]] }),(6,{ keep := some [3,5,10,11] }),(7,{ keep := some [4,5] })] }
def g105 : VG := [(0,[2,4,6,11,13,15,16,18,20])]
def a105 : FAnn := { pm := [.ro],rt := g105.un,regs := [(0,{ keep := some [0] }),(1,{ md := [(1,.cp)],keep := some [0] }),(2,{ keep := some [0,7,8] }),(3,{ keep := some [0,7,8,9] }),(4,{ keep := some [0,3,7,8] }),(5,{ md := [(6,.cp)],keep := some [0,7,8] }),(6,{ keep := some [0,7,8] }),(7,{ keep := some [0,2] })] }
def g124 : VG := [(0,[6,11,25,32,40,50]),(4,[13]),(8,[20,26,37,42,44]),(14,[18,19])]
def a124 : FAnn := { pm := [.ro,.ro,.ro],rt := g124.un,regs := [(0,{ keep := some [0,2,4] }),(1,{ md := [(1,.cp)],keep := some [0,2,4] }),(2,{ md := [(1,.cp)],keep := some [0,2,14,15,16] }),(3,{ keep := some [0,2,14,15,16,17] }),(4,{ keep := some [0,2,8,14,15,16] }),(5,{ keep := some [0,2,8,14,15,16,23] }),(6,{ md := [(3,.cp),(4,.tk)],keep := some [0,2,8,9,10,14,15,16] }),(7,{ keep := some [0,2,8,9,14,15,16,31] }),(8,{ keep := some [0,2,8,9,14,15,16] }),(9,{ keep := some [0,2,8,9,14,15,16,39] }),(10,{ keep := some [0,2,14,15,16] }),(11,{ keep := some [0,2,14,15,16] }),(12,{ keep := some [0,6] })] }
def g133 : VG := [(1,[4,5]),(3,[7,9,11])]
def a133 : FAnn := { pm := [.ro],rt := g133.un,regs := [(0,{ keep := some [1] }),(1,{ md := [(2,.cp)],keep := some [3] }),(2,{ keep := some [3] }),(3,{ keep := some [3] }),(4,{ keep := some [2] })] }
def g134 : VG := []
def a134 : FAnn := { pm := [.ro,.ro,.ro],rt := g134.un,regs := [(0,{ keep := some [0,1,2] }),(1,{ keep := some [0,1,2,8] }),(2,{ keep := some [0,1,2,8,9,10] }),(3,{ keep := some [0,1,2,8,9,10,17] }),(4,{ keep := some [0,1,2,8,9,10,11] }),(5,{ keep := some [0,1,2,8,9,10,11,31] }),(6,{ keep := some [0,1,2,8,9,10] }),(7,{ keep := some [0,1,2,8,9,10] }),(8,{ keep := some [6,7] })] }
def g135 : VG := [(2,[5])]
def a135 : FAnn := { pm := [.ro,.ro],rt := g135.un,regs := [(0,{ keep := some [1,2] }),(1,{ md := [(3,.cp)],keep := some [4] })] }
def g142 : VG := [(0,[4,14,16,18,20,21,22,24,25,26,27])]
def a142 : FAnn := { pm := [.io],rt := g142.un,regs := [(0,{ keep := some [0,2,3] }),(1,{ keep := some [0,2,3,9] }),(3,{ md := [(2,.st),(13,.st)],keep := some [0,2,3],dr := [(false,[0]),(false,[2]),(false,[0]),(false,[3]),(false,[0]),(false,[3]),(false,[0,18,19]),(false,[0,20]),(false,[0]),(false,[2]),(false,[0,22,23]),(false,[0,24]),(false,[0,14,15]),(true,[0,4,14,16,18,20,21,22,24,25,26,27]),(false,[0,16,17]),(true,[0,4,14,16,18,20,21,22,24,25,26,27])],cl := [[],[],[],[],[],[],[4,5],[4,5,6],[],[],[8,9],[8,9,10],[0,1,4,5,6,7,8,9,10,11],[0,1,4,5,6,7,8,9,10,11,12],[0,1,2,3,4,5,6,7,8,9,10,11,12,13],[0,1,2,3,4,5,6,7,8,9,10,11,12,13,14]] }),(2,{ keep := some [0,2,3] })] }
def g143 : VG := [(0,[4,5])]
def a143 : FAnn := { pm := [.io,.ro],rt := g143.un,regs := [(0,{ keep := some [0] })] }
def g150 : VG := [(0,[14,23,36,55])]
def a150 : FAnn := { pm := [.io,.ro,.ro],rt := g150.un,regs := [(0,{ keep := some [0,1,2,6] }),(1,{ keep := some [0,1,2,6,7,8] }),(2,{ keep := some [0,1,2,6,7,8,13] }),(3,{ keep := some [0,1,2,6,8] }),(4,{ keep := some [0,1,2,6,7,8] }),(5,{ keep := some [0,1,2,6,7,8] }),(6,{ keep := some [0,1,2,6] }),(7,{ keep := some [0,1,2,6,30] }),(8,{ keep := some [0,1,2,6,7,8] }),(9,{ keep := some [0,1,2,6,7,8,35] }),(10,{ keep := some [0,1,2,6,8] }),(11,{ keep := some [0,1,2,6,7,8] }),(12,{ keep := some [0,1,2,6,7,8] }),(13,{ keep := some [0,1,2,6,7,9] }),(14,{ keep := some [0,1,2,6,7,9,54] }),(15,{ keep := some [0,1,2,6] }),(16,{ keep := some [0,1,2,6] })] }
def g154 : VG := [(0,[23,25,26,27,30,31,37,39,42,45,46,47,49,50,51,52])]
def a154 : FAnn := { pm := [.io,.ro,.ro,.ro],rt := g154.un,regs := [(0,{ keep := some [0,1,2,3,8] }),(1,{ keep := some [0,1,2,3,8,14] }),(3,{ keep := some [0,1,2,3,8,9] }),(4,{ keep := some [0,1,2,3,8,9,34],dr := [(false,[9]),(false,[1]),(false,[18,19]),(false,[20]),(false,[3,21]),(false,[0,21]),(false,[9,21]),(false,[0,21,23,24]),(false,[0,21,25]),(false,[0,21]),(false,[9,21]),(false,[21,28]),(false,[0,21,27,29]),(false,[0,21,30]),(true,[0,21,22,23,25,26,27,30,31,32,37,39,42,45,46,47,49,50,51,52]),(false,[21,32]),(false,[21,33])],cl := [[],[],[0,1],[0,1,2],[0,1,2,3],[0,1,2,3],[0,1,2,3],[0,1,2,3,5,6],[0,1,2,3,5,6,7],[0,1,2,3],[0,1,2,3],[0,1,2,3,10],[0,1,2,3,9,10,11],[0,1,2,3,9,10,11,12],[0,1,2,3,4,5,6,7,8,9,10,11,12,13],[0,1,2,3,4,5,6,7,8,9,10,11,12,13,14],[0,1,2,3,4,5,6,7,8,9,10,11,12,13,14,15]] }),(6,{ md := [(2,.st),(15,.st)],keep := some [0,1,2,3,8,9],dr := [(false,[0]),(false,[9]),(false,[0]),(false,[9]),(false,[40]),(false,[0]),(false,[9]),(false,[43]),(false,[0,42,44]),(false,[0,45]),(false,[0]),(false,[9]),(false,[0,47,48]),(false,[0,49]),(false,[0,37,38]),(true,[0,23,25,26,27,30,31,37,39,42,45,46,47,49,50,51,52]),(false,[0,39,41]),(true,[0,23,25,26,27,30,31,37,39,42,45,46,47,49,50,51,52])],cl := [[],[],[],[],[3],[],[],[6],[5,6,7],[5,6,7,8],[],[],[10,11],[10,11,12],[0,1,5,6,7,8,9,10,11,12,13],[0,1,5,6,7,8,9,10,11,12,13,14],[0,1,2,3,4,5,6,7,8,9,10,11,12,13,14,15],[0,1,2,3,4,5,6,7,8,9,10,11,12,13,14,15,16]] }),(5,{ keep := some [0,1,2,3,8,9] }),(2,{ keep := some [0,1,2,3,8] })] }
def b104 : IC := .seq (JR [Jy 3 1,Jz 4 79] [0,3]) (.seq (JR [Jc 7 0,Jr 8 105 7,Jt 5 8] [3,5]) (.seq (.seq (JR [Jc 9 5,Jn 10 9,J 11 (.mov .cp (.con (.int .i64 0)))] [3,5,10,11]) (.block 0 (.loop (.seq (JR [Jb 12 .lss 11 10] [3,5,10,11,12]) (.seq (.cond (.tmp 12) .skip (.exit 0)) (.seq (.block 1 (.seq (JR [Jc 13 11,Jt 6 13] [3,5,6,10,11]) (JW [(Jc 14 5,false,[5]),(Jc 15 6,false,[6]),(Jc 16 5,false,[5]),(Jc 17 6,false,[6]),(Jx 18 1 16 17,false,[5,16,17]),(Jl 19 18,false,[5,18]),(Jg 20 2 3,false,[3]),(Jc 21 6,false,[6]),(J 22 (.callr 124 [.tmp 19,.tmp 20,.tmp 21]),false,[3,5,19,20,21]),(Jx 23 1 14 15,false,[5,14,15]),(Js 1 23 22,true,[4,5,9,14,16,18,19,22,23,25])] [3,5,10,11]))) (JR [Jk 24 .add 11 1,Jc 11 24] [3,5,10,11]))))))) (.seq (JR [Jc 25 5,Jt 4 25] [4,5]) .ret)))
def pf104 : PFunc := ⟨2, [.ro, .ro], g104.un, [.tmp 4], b104⟩
theorem pe104 : prepF Go.Proofs.Tryz.prog a104 Go.Proofs.Tryz.f104 = some pf104 := by kernel_rfl
def b105 : IC := .seq (JR [Jz 2 79] [0]) (.seq (JR [Jc 4 0,Jr 5 125 4,Jt 0 5] [0]) (.seq (.seq (JR [Jc 6 0,Jn 7 6,J 8 (.mov .cp (.con (.int .i64 0)))] [0,7,8]) (.block 0 (.loop (.seq (JR [Jb 9 .lss 8 7] [0,7,8,9]) (.seq (.cond (.tmp 9) .skip (.exit 0)) (.seq (.block 1 (.seq (JR [Jc 10 8,Jt 3 10] [0,3,7,8]) (JR [Jc 11 0,Jc 12 3,Jc 13 0,Jc 14 3,Jx 15 1 13 14,Jl 16 15,Jr 17 126 16,Jx 18 1 11 12,Js 1 18 17] [0,7,8]))) (JR [Jk 19 .add 8 1,Jc 8 19] [0,7,8]))))))) (.seq (JR [Jc 20 0,Jt 2 20] [0,2]) .ret)))
def pf105 : PFunc := ⟨1, [.ro], g105.un, [.tmp 2], b105⟩
theorem pe105 : prepF Go.Proofs.Tryz.prog a105 Go.Proofs.Tryz.f105 = some pf105 := by kernel_rfl
def b124 : IC := .seq (JR [Jy 4 1,Jz 6 81] [0,2,4]) (.seq (JR [Jc 11 0,Jr 12 126 11,Jt 0 12] [0,2,4]) (.seq (.seq (JR [Jg 13 2 4,Jr 14 133 13,Jn 15 14,J 16 (.mov .cp (.con (.int .i64 0)))] [0,2,14,15,16]) (.block 0 (.loop (.seq (JR [Jb 17 .lss 16 15] [0,2,14,15,16,17]) (.seq (.cond (.tmp 17) .skip (.exit 0)) (.seq (.block 1 (.seq (JR [Jx 18 4 14 16,Jg 19 4 18,J 8 (.alloc [.d (.sc (.int .i64 0)),.d (.sc (.string (bs []))),.d (.sc (.string (bs []))),.d (.sc (.bool false))]),Js 4 8 19] [0,2,8,14,15,16]) (.seq (.seq (JR [Jf 20 0 8,Jl 21 20,Jc 22 2,Jb 23 .neq 21 22] [0,2,8,14,15,16,23]) (.cond (.tmp 23) (.exit 1) .skip)) (.seq (JR [Jc 25 0,Jf 26 1 8,Jl 27 26,J 28 (.callr 134 [.tmp 25,.tmp 27,.fn 135]),Jt 24 28,Je 29 0 24,Je 30 1 24,Jt 9 29,Jt 10 30] [0,2,8,9,10,14,15,16]) (.seq (.seq (JR [Jc 31 10] [0,2,8,9,14,15,16,31]) (.cond (.tmp 31) (JR [Jc 32 0,Jc 33 9,Jc 34 9,Jk 35 .add 34 1,J 36 (.call 137 [.tmp 32,.tmp 33,.tmp 35]),Jt 0 36] [0,2,8,9,14,15,16]) .skip)) (.seq (JR [Jf 37 3 8,Jl 38 37,Ju 39 38] [0,2,8,9,14,15,16,39]) (.cond (.tmp 39) (JR [Jc 40 0,Jc 41 9,Jf 42 1 8,Jl 43 42,Jf 44 2 8,Jl 45 44,J 46 (.build true [.d (.sc (.string (bs []))),.d (.sc (.string (bs [])))] [(0,1,.tmp 43),(1,1,.tmp 45)]),J 47 (.bslice 81 [.d (.sc (.string (bs []))),.d (.sc (.string (bs [])))] 1 [(0,.tmp 46)]),J 48 (.call 138 [.tmp 40,.tmp 41,.tmp 47]),Jt 0 48] [0,2,14,15,16]) .skip))))))) (JR [Jk 49 .add 16 1,Jc 16 49] [0,2,14,15,16]))))))) (.seq (JR [Jc 50 0,Jt 6 50] [0,6]) .ret)))
def pf124 : PFunc := ⟨3, [.ro, .ro, .ro], g124.un, [.tmp 6], b124⟩
theorem pe124 : prepF Go.Proofs.Tryz.prog a124 Go.Proofs.Tryz.f124 = some pf124 := by kernel_rfl
def b133 : IC := .seq (JR [Jy 1 0,Jz 2 78] [1]) (.seq (JR [Jf 4 0 1,Jl 5 4,Jr 6 141 5,Jt 3 6] [3]) (.seq (JR [Jc 7 3,J 8 (.call 142 [.tmp 7])] [3]) (.seq (JR [Jc 9 3,J 10 (.call 143 [.tmp 9,.fn 144])] [3]) (.seq (JR [Jc 11 3,J 12 (.call 145 [.tmp 11,.fn 146]),Jt 2 12] [2]) .ret))))
def pf133 : PFunc := ⟨1, [.ro], g133.un, [.tmp 2], b133⟩
theorem pe133 : prepF Go.Proofs.Tryz.prog a133 Go.Proofs.Tryz.f133 = some pf133 := by kernel_rfl
def b134 : IC := .seq (JR [Ji 6 0,Jo 7 false] [0,1,2]) (.seq (JR [Jc 12 0,Jn 13 12,Jt 8 13] [0,1,2,8]) (.seq (JR [Jc 14 8,Ji 9 0,Jt 10 14] [0,1,2,8,9,10]) (.seq (.block 0 (.loop (.seq (.seq (JR [Jc 15 9,Jc 16 10,Jb 17 .lss 15 16] [0,1,2,8,9,10,17]) (.cond (.tmp 17) .skip (.exit 0))) (.block 1 (.seq (JR [Jc 18 9,Jc 19 10,Jb 20 .add 18 19,J 21 (.conv .u64 (.tmp 20)),J 22 (.bin none .shr (.tmp 21) (.con (.int .u64 1))),J 23 (.conv .i64 (.tmp 22)),Jt 11 23] [0,1,2,8,9,10,11]) (.seq (JR [Jc 24 2,Jc 25 0,Jc 26 11,Jx 27 2 25 26,Jg 28 2 27,Jc 29 1,J 30 (.callv (.tmp 24) [.tmp 28,.tmp 29]),Jk 31 .lss 30 0] [0,1,2,8,9,10,11,31]) (.cond (.tmp 31) (JR [Jc 32 11,Jk 33 .add 32 1,Jt 9 33] [0,1,2,8,9,10]) (JR [Jc 34 11,Jt 10 34] [0,1,2,8,9,10])))))))) (.seq (JR [Jc 35 9,Jc 36 9,Jc 37 8,Jb 38 .lss 36 37,Jc 39 38,Jcw 40 39 true 2,Jcw 41 39 true 0,Jcw 42 39 true 9,Jw 43 39 true (.indexA 2 (.tmp 41) (.tmp 42)),Jw 44 39 true (.load .cp true 2 (.tmp 43)),Jcw 45 39 true 1,Jw 46 39 true (.callv (.tmp 40) [.tmp 44,.tmp 45]),Jw 47 39 true (.bin none .eql (.tmp 46) (.con (.int .i64 0))),Jp 48 39 47,Jt 6 35,Jt 7 48] [6,7]) .ret))))
def pf134 : PFunc := ⟨3, [.ro, .ro, .ro], g134.un, [.tmp 6, .tmp 7], b134⟩
theorem pe134 : prepF Go.Proofs.Tryz.prog a134 Go.Proofs.Tryz.f134 = some pf134 := by kernel_rfl
def b135 : IC := .seq (JR [Jy 2 0,Ji 4 0] [1,2]) (.seq (JR [Jf 5 0 2,Jl 6 5,Jc 7 1,Jv 8 136 6 7,Jt 4 8] [4]) .ret)
def pf135 : PFunc := ⟨2, [.ro, .ro], g135.un, [.tmp 4], b135⟩
theorem pe135 : prepF Go.Proofs.Tryz.prog a135 Go.Proofs.Tryz.f135 = some pf135 := by kernel_rfl
def b142 : IC := .seq (JR [Jc 4 0,Jn 5 4,Jk 6 .sub 5 1,Ji 2 0,Jt 3 6] [0,2,3]) (.block 0 (.loop (.seq (.seq (JR [Jc 7 2,Jc 8 3,Jb 9 .lss 7 8] [0,2,3,9]) (.cond (.tmp 9) .skip (.exit 0))) (.seq (.block 1 (JW [(Jc 14 0,false,[0]),(Jc 15 2,false,[2]),(J 16 (.mov .st (.tmp 0)),false,[0]),(Jc 17 3,false,[3]),(Jc 18 0,false,[0]),(Jc 19 3,false,[3]),(Jx 20 4 18 19,false,[0,18,19]),(Jg 21 4 20,false,[0,20]),(Jc 22 0,false,[0]),(Jc 23 2,false,[2]),(Jx 24 4 22 23,false,[0,22,23]),(Jg 25 4 24,false,[0,24]),(Jx 26 4 14 15,false,[0,14,15]),(⟨none,none,.stored 4 (.tmp 26) (.tmp 21)⟩,true,[0,4,14,16,18,20,21,22,24,25,26,27]),(Jx 27 4 16 17,false,[0,16,17]),(Js 4 27 25,true,[0,4,14,16,18,20,21,22,24,25,26,27])] [0,2,3])) (JR [Jc 10 2,Jk 11 .add 10 1,Jc 12 3,Jk 13 .sub 12 1,Jt 2 11,Jt 3 13] [0,2,3])))))
def pf142 : PFunc := ⟨1, [.io], g142.un, [], b142⟩
theorem pe142 : prepF Go.Proofs.Tryz.prog a142 Go.Proofs.Tryz.f142 = some pf142 := by kernel_rfl
def b143 : IC := JR [Jc 4 0,Jc 5 0,Jn 6 5,Jc 7 1,J 8 (.call 150 [.tmp 4,.tmp 6,.tmp 7])] [0]
def pf143 : PFunc := ⟨2, [.io, .ro], g143.un, [], b143⟩
theorem pe143 : prepF Go.Proofs.Tryz.prog a143 Go.Proofs.Tryz.f143 = some pf143 := by kernel_rfl
def b150 : IC := .seq (JR [Ji 6 20] [0,1,2,6]) (.seq (JR [Jc 10 6,Ji 7 0,Jt 8 10] [0,1,2,6,7,8]) (.seq (.block 0 (.loop (.seq (.seq (JR [Jc 11 8,Jc 12 1,Jb 13 .leq 11 12] [0,1,2,6,7,8,13]) (.cond (.tmp 13) .skip (.exit 0))) (.block 1 (.seq (JR [Jc 14 0,Jc 15 7,Jc 16 8,Jc 17 2,J 18 (.call 154 [.tmp 14,.tmp 15,.tmp 16,.tmp 17])] [0,1,2,6,8]) (.seq (JR [Jc 19 8,Jt 7 19] [0,1,2,6,7,8]) (JR [Jc 20 8,Jc 21 6,Jb 22 .add 20 21,Jt 8 22] [0,1,2,6,7,8]))))))) (.seq (JR [Jc 23 0,Jc 24 7,Jc 25 1,Jc 26 2,J 27 (.call 154 [.tmp 23,.tmp 24,.tmp 25,.tmp 26])] [0,1,2,6]) (.block 2 (.loop (.seq (.seq (JR [Jc 28 6,Jc 29 1,Jb 30 .lss 28 29] [0,1,2,6,30]) (.cond (.tmp 30) .skip (.exit 2))) (.block 3 (.seq (JR [Jc 31 6,J 32 (.bin none .mul (.con (.int .i64 2)) (.tmp 31)),Ji 7 0,Jt 8 32] [0,1,2,6,7,8]) (.seq (.block 4 (.loop (.seq (.seq (JR [Jc 33 8,Jc 34 1,Jb 35 .leq 33 34] [0,1,2,6,7,8,35]) (.cond (.tmp 35) .skip (.exit 4))) (.block 5 (.seq (JR [Jc 36 0,Jc 37 7,Jc 38 7,Jc 39 6,Jb 40 .add 38 39,Jc 41 8,Jc 42 2,J 43 (.call 155 [.tmp 36,.tmp 37,.tmp 40,.tmp 41,.tmp 42])] [0,1,2,6,8]) (.seq (JR [Jc 44 8,Jt 7 44] [0,1,2,6,7,8]) (JR [Jc 45 8,Jc 46 6,J 47 (.bin none .mul (.con (.int .i64 2)) (.tmp 46)),Jb 48 .add 45 47,Jt 8 48] [0,1,2,6,7,8]))))))) (.seq (.seq (JR [Jc 49 7,Jc 50 6,Jb 51 .add 49 50,Jt 9 51] [0,1,2,6,7,9]) (.seq (JR [Jc 52 9,Jc 53 1,Jb 54 .lss 52 53] [0,1,2,6,7,9,54]) (.cond (.tmp 54) (JR [Jc 55 0,Jc 56 7,Jc 57 9,Jc 58 1,Jc 59 2,J 60 (.call 155 [.tmp 55,.tmp 56,.tmp 57,.tmp 58,.tmp 59])] [0,1,2,6]) .skip))) (JR [Jc 61 6,Jk 62 .mul 61 2,Jt 6 62] [0,1,2,6])))))))))))
def pf150 : PFunc := ⟨3, [.io, .ro, .ro], g150.un, [], b150⟩
theorem pe150 : prepF Go.Proofs.Tryz.prog a150 Go.Proofs.Tryz.f150 = some pf150 := by kernel_rfl
def b154 : IC := .seq (JR [Jc 10 1,Jk 11 .add 10 1,Jt 8 11] [0,1,2,3,8]) (.block 0 (.loop (.seq (.seq (JR [Jc 12 8,Jc 13 2,Jb 14 .lss 12 13] [0,1,2,3,8,14]) (.cond (.tmp 14) .skip (.exit 0))) (.seq (.block 1 (.seq (JR [Jc 17 8,Jt 9 17] [0,1,2,3,8,9]) (.block 2 (.loop (.seq (.seq (JW [(Jc 18 9,false,[9]),(Jc 19 1,false,[1]),(Jb 20 .gtr 18 19,false,[18,19]),(Jc 21 20,false,[20]),(Jcw 22 21 true 3,false,[3,21]),(Jcw 23 21 true 0,false,[0,21]),(Jcw 24 21 true 9,false,[9,21]),(Jw 25 21 true (.indexA 4 (.tmp 23) (.tmp 24)),false,[0,21,23,24]),(Jw 26 21 true (.load .cp true 4 (.tmp 25)),false,[0,21,25]),(Jcw 27 21 true 0,false,[0,21]),(Jcw 28 21 true 9,false,[9,21]),(Jw 29 21 true (.bin none .sub (.tmp 28) (.con (.int .i64 1))),false,[21,28]),(Jw 30 21 true (.indexA 4 (.tmp 27) (.tmp 29)),false,[0,21,27,29]),(Jw 31 21 true (.load .cp true 4 (.tmp 30)),false,[0,21,30]),(Jw 32 21 true (.callv (.tmp 22) [.tmp 26,.tmp 31]),true,[0,21,22,23,25,26,27,30,31,32,37,39,42,45,46,47,49,50,51,52]),(Jw 33 21 true (.bin none .lss (.tmp 32) (.con (.int .i64 0))),false,[21,32]),(Jp 34 21 33,false,[21,33])] [0,1,2,3,8,9,34]) (.cond (.tmp 34) .skip (.exit 2))) (.seq (.block 3 (JW [(Jc 37 0,false,[0]),(Jc 38 9,false,[9]),(J 39 (.mov .st (.tmp 0)),false,[0]),(Jc 40 9,false,[9]),(Jk 41 .sub 40 1,false,[40]),(Jc 42 0,false,[0]),(Jc 43 9,false,[9]),(Jk 44 .sub 43 1,false,[43]),(Jx 45 4 42 44,false,[0,42,44]),(Jg 46 4 45,false,[0,45]),(Jc 47 0,false,[0]),(Jc 48 9,false,[9]),(Jx 49 4 47 48,false,[0,47,48]),(Jg 50 4 49,false,[0,49]),(Jx 51 4 37 38,false,[0,37,38]),(⟨none,none,.stored 4 (.tmp 51) (.tmp 46)⟩,true,[0,23,25,26,27,30,31,37,39,42,45,46,47,49,50,51,52]),(Jx 52 4 39 41,false,[0,39,41]),(Js 4 52 50,true,[0,23,25,26,27,30,31,37,39,42,45,46,47,49,50,51,52])] [0,1,2,3,8,9])) (JR [Jc 35 9,Jk 36 .sub 35 1,Jt 9 36] [0,1,2,3,8,9]))))))) (JR [Jc 15 8,Jk 16 .add 15 1,Jt 8 16] [0,1,2,3,8])))))
def pf154 : PFunc := ⟨4, [.io, .ro, .ro, .ro], g154.un, [], b154⟩
theorem pe154 : prepF Go.Proofs.Tryz.prog a154 Go.Proofs.Tryz.f154 = some pf154 := by kernel_rfl
def tab : List (Nat × PFunc) := [(104, pf104), (105, pf105), (124, pf124), (133, pf133), (134, pf134), (135, pf135), (142, pf142), (143, pf143), (150, pf150), (154, pf154)]
noncomputable def gv : FuncId → Option (List PM × (List T → Option Res)) := fun f => if f = 138 then some (insGiven Tryz.prog 81) else if f = 137 then some (delGiven Tryz.prog 81) else if f = 145 then some cfGiven else if f = 141 then some (cloneGiven Tryz.prog 78) else if f = 126 then some (cloneGiven Tryz.prog 81) else if f = 125 then some (cloneGiven Tryz.prog 79) else if f = 144 then some (stGiven S1.G 144) else if f = 136 then some cmpGiven else none
noncomputable def G : Prog := { fn := fun f => tab.lookup f, given := gv }
theorem Gpm : G.pm 104 = [.ro, .ro] ∧ G.pm 105 = [.ro] ∧ G.pm 124 = [.ro, .ro, .ro] ∧ G.pm 133 = [.ro] ∧ G.pm 134 = [.ro, .ro, .ro] ∧ G.pm 135 = [.ro, .ro] ∧ G.pm 142 = [.io] ∧ G.pm 143 = [.io, .ro] ∧ G.pm 150 = [.io, .ro, .ro] ∧ G.pm 154 = [.io, .ro, .ro, .ro] ∧ G.pm 138 = [.own, .ro, .own] ∧ G.pm 137 = [.own, .ro, .ro] ∧ G.pm 145 = [.own, .ro] ∧ G.pm 141 = [.ro] ∧ G.pm 126 = [.ro] ∧ G.pm 125 = [.ro] ∧ G.pm 144 = [.ro, .ro] ∧ G.pm 136 = [.ro, .ro] := by refine ⟨rfl, rfl, rfl, rfl, rfl, rfl, rfl, rfl, rfl, rfl, rfl, rfl, rfl, rfl, rfl, rfl, rfl, rfl⟩
attribute [push_cast] Gpm
theorem soundG : Sound Tryz.prog G :=
  ⟨(sound_tab (P := Tryz.prog) (l := tab) (⟨⟨_, a104, Tryz.func104, pe104⟩, ⟨⟨_, a105, Tryz.func105, pe105⟩, ⟨⟨_, a124, Tryz.func124, pe124⟩, ⟨⟨_, a133, Tryz.func133, pe133⟩, ⟨⟨_, a134, Tryz.func134, pe134⟩, ⟨⟨_, a135, Tryz.func135, pe135⟩, ⟨⟨_, a142, Tryz.func142, pe142⟩, ⟨⟨_, a143, Tryz.func143, pe143⟩, ⟨⟨_, a150, Tryz.func150, pe150⟩, ⟨⟨_, a154, Tryz.func154, pe154⟩, trivial⟩⟩⟩⟩⟩⟩⟩⟩⟩⟩)).fns, fun f g hg args r h => by
    simp only [G, gv] at hg
    by_cases e138 : f = 138
    · subst e138; simp only [if_true] at hg; cases hg; exact insR_ok rfl h
    rw [if_neg e138] at hg
    by_cases e137 : f = 137
    · subst e137; simp only [if_true] at hg; cases hg; exact delR_ok rfl h
    rw [if_neg e137] at hg
    by_cases e145 : f = 145
    · subst e145; simp only [if_true] at hg; cases hg; exact cf_ok rfl h
    rw [if_neg e145] at hg
    by_cases e141 : f = 141
    · subst e141; simp only [if_true] at hg; cases hg; exact cloW_ok rfl h
    rw [if_neg e141] at hg
    by_cases e126 : f = 126
    · subst e126; simp only [if_true] at hg; cases hg; exact cloR_ok rfl h
    rw [if_neg e126] at hg
    by_cases e125 : f = 125
    · subst e125; simp only [if_true] at hg; cases hg; exact cloRs_ok rfl h
    rw [if_neg e125] at hg
    by_cases e144 : f = 144
    · subst e144; simp only [if_true] at hg; cases hg; exact st_ok S1.soundG rfl h
    rw [if_neg e144] at hg
    by_cases e136 : f = 136
    · subst e136; simp only [if_true] at hg; cases hg; exact cmp_ok rfl h
    rw [if_neg e136] at hg
    cases hg⟩
end S2
end Go.Mir.Tryz

set_option linter.unusedVariables false
set_option linter.unusedSimpArgs false
set_option maxRecDepth 100000
namespace Go.Mir.Tryz
open Go.Proofs Go.Mir.Q
namespace S2
theorem set_oW (D : List Write) (i : Nat) (w : Write) : (D.map oW).set i [V.d (.sc (.int .i64 w.Table)), V.d (.sc (.string (bs w.Key))), V.d (.sc (.string (bs w.Value))), V.d (.sc (.bool w.Gone))] = (D.set i w).map oW := by
  rw [List.map_set]; rfl
set_option maxHeartbeats 2000000 in
theorem f142 {l : List Write} (hl : l.length ≤ 1000000) : Fun G 142 [.one (.own 78 (l.map oW))] (.tup [], [.own 78 (l.reverse.map oW)]) := by
  refine Fun.of_run (g := g142) (pf := pf142) rfl rfl rfl rfl ?_
  simp (maxSteps := 1000000) (disch := first | assumption | ((try simp only [LEN, LEN2]); omega)) only [push_cast, sevalprocAttr, g142, pf142, b142]
  refine run_loop' (fun s : List Write × Nat × Int => [(0, T.one (.own 78 (s.1.map oW))), (2, T.int .i64 s.2.1), (3, T.int .i64 s.2.2)]) (fun s => s.1.length = l.length ∧ s.2.2 = (l.length : Int) - 1 - s.2.1 ∧ s.2.1 ≤ l.length ∧ ∀ k, k < l.length → s.1[k]? = if k < s.2.1 ∨ l.length ≤ k + s.2.1 then l.reverse[k]? else l[k]?) (fun s => l.length - s.2.1) (l, 0, (l.length : Int) - 1) rfl ⟨rfl, by simp, by simp, fun k hk => by simp; intro h; omega⟩ (fun s hs => ?_)
  obtain ⟨D, i, j⟩ := s
  obtain ⟨h1, h2, h3, h4⟩ := hs
  simp only at h1 h2 h3 h4
  by_cases h : (i : Int) < j
  · obtain ⟨m, rfl⟩ := Int.eq_ofNat_of_zero_le (by omega : 0 ≤ j)
    have hi : i < D.length := by omega
    have hm : m < D.length := by omega
    have hne : i ≠ m := by omega
    have hmi : m ≠ i := by omega
    have hm2 : m < (D.set i D[m]).length := by rw [List.length_set]; exact hm
    simp (maxSteps := 1000000) (disch := first | assumption | ((try simp only [LEN, LEN2]); omega)) only [push_cast, sevalprocAttr, g142, pf142, b142, h, hne, hmi, oW, set_oW, hm2]
    refine ⟨((D.set i D[m]).set m D[i], i + 1, (m : Int) - 1), by simp, ⟨by simp [h1], by simp only; omega, by simp only; omega, fun k hk => ?_⟩, by simp only; omega⟩
    simp only [List.getElem?_set, List.length_set]
    have hmr : l.reverse[m]? = l[i]? := by rw [List.getElem?_reverse (by omega)]; congr 1; omega
    have hir : l.reverse[i]? = l[m]? := by rw [List.getElem?_reverse (by omega)]; congr 1; omega
    have hDi := h4 i (by omega)
    have hDm := h4 m (by omega)
    rw [if_neg (by omega), List.getElem?_eq_getElem hi] at hDi
    rw [if_neg (by omega), List.getElem?_eq_getElem hm] at hDm
    by_cases e1 : k = m
    · subst e1; rw [if_pos rfl, if_pos hm, if_pos (by omega), hmr, hDi]
    · rw [if_neg (fun e => e1 e.symm)]
      by_cases e2 : k = i
      · subst e2; rw [if_pos rfl, if_pos hi, if_pos (by omega), hir, hDm]
      · rw [if_neg (fun e => e2 e.symm), h4 k hk]
        by_cases hc : k < i ∨ l.length ≤ k + i
        · rw [if_pos hc, if_pos (by omega)]
        · rw [if_neg hc, if_neg (by omega)]
  · simp (maxSteps := 1000000) (disch := first | assumption | ((try simp only [LEN, LEN2]); omega)) only [push_cast, sevalprocAttr, g142, pf142, b142, h]
    have : D = l.reverse := by
      refine List.ext_getElem? fun k => ?_
      by_cases hk : k < l.length
      · rw [h4 k hk]
        split
        · rfl
        · obtain e : l.length - 1 - k = k := by omega
          rw [List.getElem?_reverse hk, e]
      · rw [List.getElem?_eq_none (by omega), List.getElem?_eq_none (by simp; omega)]
    rw [this]
theorem f142t {l : List Write} (hl : l.length ≤ 1000000) : type_of% (tE (f142 (l := l) hl)) := tE (f142 (l := l) hl)
attribute [push_cast] f142t
theorem isortR_take {l : List Write} {i : Nat} (h : i < l.length) : isortR (l.take (i + 1)) = insRev l[i] (isortR (l.take i)) := by
  rw [List.take_succ_eq_append_getElem h]; simp [isortR, -List.take_append_getElem]
theorem isortR_len (l : List Write) : (isortR l).length = l.length := by
  have : ∀ (l a : List Write), (l.foldl (fun a x => insRev x a) a).length = l.length + a.length := by
    intro l
    induction l with
    | nil => intro a; simp
    | cons x l ih => intro a; rw [List.foldl_cons, ih, insRev_len, List.length_cons]; omega
  have h := this l []
  rw [List.length_nil, Nat.add_zero] at h; exact h
theorem ordF {a b : Write} : Fun G 144 [.vs true (oW a), .vs true (oW b)] (.int .i64 (ordW a b), []) := lift rfl S1.f144
abbrev PIn (l : List Write) (i : Nat) (x : Write) (D : List Write) (j : Nat) : Prop :=
  ∃ A B : List Write, D = B.reverse ++ x :: (A.reverse ++ l.drop (i + 1)) ∧ B.length = j ∧ A.length + B.length = i ∧ insRev x (isortR (l.take i)) = A ++ insRev x B
set_option maxHeartbeats 4000000 in
set_option maxHeartbeats 2000000 in
theorem f154 {l : List Write} (hl : l.length ≤ 1000000) : Fun G 154 [.one (.own 78 (l.map oW)), .int .i64 0, .int .i64 l.length, .fn 144 []] (.tup [], [.own 78 ((isortR l).reverse.map oW)]) := by
  refine Fun.of_run (g := g154) (pf := pf154) rfl rfl rfl rfl ?_
  simp (maxSteps := 1000000) (disch := first | assumption | ((try simp only [LEN, LEN2]); omega)) only [push_cast, sevalprocAttr, g154, pf154, b154]
  refine run_loop' (fun s : List Write × Nat => [(0, T.one (.own 78 (s.1.map oW))), (1, T.int .i64 0), (2, T.int .i64 l.length), (3, T.fn 144 []), (8, T.int .i64 s.2)]) (fun s => s.1 = (isortR (l.take s.2)).reverse ++ l.drop s.2 ∧ 1 ≤ s.2 ∧ (s.2 ≤ l.length ∨ l = [])) (fun s => l.length - s.2) (l, 1) rfl ⟨?_, Nat.le_refl _, ?_⟩ (fun s hs => ?_)
  · cases l with
    | nil => rfl
    | cons x l => simp [isortR, insRev]
  · cases l with
    | nil => exact .inr rfl
    | cons x l => left; simp
  obtain ⟨D, i⟩ := s
  obtain ⟨h1, h2, h3⟩ := hs
  simp only at h1 h2 h3
  by_cases h : (i : Int) < l.length
  · have hi : i < l.length := by omega
    obtain ⟨x, hx⟩ : ∃ x, x = l[i] := ⟨_, rfl⟩
    simp (maxSteps := 1000000) (disch := first | assumption | ((try simp only [LEN, LEN2]); omega)) only [push_cast, sevalprocAttr, g154, pf154, b154, h]
    refine run_loop' (fun s : List Write × Nat => [(0, T.one (.own 78 (s.1.map oW))), (1, T.int .i64 0), (2, T.int .i64 l.length), (3, T.fn 144 []), (8, T.int .i64 i), (9, T.int .i64 s.2)]) (fun s => PIn l i x s.1 s.2) (fun s => s.2) (D, i) rfl ⟨[], isortR (l.take i), ?_, ?_, ?_, rfl⟩ (fun s hs => ?_)
    · rw [h1, hx]; simp
    · rw [isortR_len, List.length_take]; omega
    · rw [isortR_len, List.length_take]; simp; omega
    obtain ⟨D2, j⟩ := s
    obtain ⟨A, B, e1, e2, e3, e4⟩ := hs
    simp only at e1 e2
    have hlD : D2.length = l.length := by rw [e1]; simp; omega
    have hj : j < D2.length := by omega
    have hDj : D2[j] = x := by
      subst e1 e2
      rw [List.getElem_append_right (by simp)]; simp
    have hend : B.reverse ++ x :: (A.reverse ++ l.drop (i + 1)) = (isortR (l.take (i + 1))).reverse ++ l.drop (i + 1) → ∃ a' : List Write × Nat, [(0, T.one (V.own 78 (D2.map oW))), (1, T.int .i64 0), (2, T.int .i64 l.length), (3, T.fn 144 []), (8, T.int .i64 ((i : Int) + 1))] = [(0, T.one (V.own 78 (a'.1.map oW))), (1, T.int .i64 0), (2, T.int .i64 l.length), (3, T.fn 144 []), (8, T.int .i64 a'.2)] ∧ (a'.1 = (isortR (l.take a'.2)).reverse ++ l.drop a'.2 ∧ 1 ≤ a'.2 ∧ (a'.2 ≤ l.length ∨ l = [])) ∧ l.length - a'.2 < l.length - i := fun he => ⟨(D2, i + 1), by simp, ⟨by rw [e1]; exact he, by simp only; omega, .inl (by simp only; omega)⟩, by simp only; omega⟩
    rw [isortR_take hi, ← hx] at hend
    match B, e1, e2, e3, e4, hend with
    | [], e1, e2, e3, e4, hend =>
      obtain rfl : j = 0 := e2.symm
      simp (maxSteps := 1000000) (disch := first | assumption | ((try simp only [LEN, LEN2]); omega)) only [push_cast, sevalprocAttr, g154, pf154, b154]
      exact hend (by rw [e4]; simp [insRev])
    | b :: B', e1, e2, e3, e4, hend =>
      obtain ⟨k, rfl⟩ : ∃ k, j = k + 1 := ⟨B'.length, by simpa using e2.symm⟩
      have hk : k < D2.length := by omega
      have hDk : D2[k] = b := by
        subst e1
        have : B'.length = k := by simpa using e2
        subst this
        simp
      have hkk : ((k : Int) + 1 - 1).toNat = k := by omega
      have hpos : (0 : Int) < (k : Int) + 1 := by omega
      have hk1 : ((k : Int) + 1).toNat = k + 1 := by omega
      have ho := ordF (a := x) (b := b)
      simp only [oW] at ho
      cases hlt : ltW x b with
      | false =>
        have hlt' : ¬ ordW x b < 0 := by simpa [ltW] using hlt
        simp (maxSteps := 1000000) (disch := first | assumption | ((try simp only [LEN, LEN2]); omega)) only [push_cast, sevalprocAttr, g154, pf154, b154, oW, hpos, hkk, hk1, hDj, hDk, callC_eq ho, callT_eq ho, hlt']
        exact hend (by rw [e4]; simp [insRev, hlt])
      | true =>
        have hlt' : ordW x b < 0 := by simpa [ltW] using hlt
        have hne : k ≠ k + 1 := by omega
        have hne2 : k + 1 ≠ k := by omega
        have hk2 : k < (D2.set (k + 1) b).length := by rw [List.length_set]; exact hk
        have hkk2 : (k : Int) + 1 - 1 = k := by omega
        simp (maxSteps := 1000000) (disch := first | assumption | ((try simp only [LEN, LEN2]); omega)) only [push_cast, sevalprocAttr, g154, pf154, b154, oW, hpos, hkk, hk1, hkk2, hDj, hDk, callC_eq ho, callT_eq ho, hlt', set_oW, hk2, hne, hne2]
        refine ⟨((D2.set (k + 1) b).set k x, k), rfl, ⟨A ++ [b], B', ?_, by simpa using e2, by simp at e3 ⊢; omega, by rw [e4]; simp [insRev, hlt]⟩, by simp only; omega⟩
        have hBk : B'.length = k := by simpa using e2
        subst e1 hBk
        simp [List.set_append]
  · simp (maxSteps := 1000000) (disch := first | assumption | ((try simp only [LEN, LEN2]); omega)) only [push_cast, sevalprocAttr, g154, pf154, b154, h]
    have : D = (isortR l).reverse := by
      rw [h1, List.take_of_length_le (by omega), List.drop_eq_nil_of_le (by omega), List.append_nil]
    rw [this]
theorem f154t {l : List Write} (hl : l.length ≤ 1000000) : type_of% (tE (f154 (l := l) hl)) := tE (f154 (l := l) hl)
attribute [push_cast] f154t
set_option maxHeartbeats 2000000 in
theorem f150 {l : List Write} (hl : l.length ≤ 19) : Fun G 150 [.one (.own 78 (l.map oW)), .int .i64 l.length, .fn 144 []] (.tup [], [.own 78 ((isortR l).reverse.map oW)]) := by
  refine Fun.of_run (g := g150) (pf := pf150) rfl rfl rfl rfl ?_
  have h1 : ¬ (20 : Int) ≤ l.length := by omega
  have h2 : ¬ (20 : Int) < l.length := by omega
  have h3 := f154 (l := l) (by omega)
  simp (maxSteps := 1000000) (disch := first | assumption | ((try simp only [LEN, LEN2]); omega)) only [push_cast, sevalprocAttr, g150, pf150, b150]
  refine run_loop' (fun _ : Unit => [(0, T.one (.own 78 (l.map oW))), (1, T.int .i64 l.length), (2, T.fn 144 []), (6, T.int .i64 20), (7, T.int .i64 0), (8, T.int .i64 20)]) (fun _ => True) (fun _ => 0) () rfl trivial (fun _ _ => ?_)
  simp (maxSteps := 1000000) (disch := first | assumption | ((try simp only [LEN, LEN2]); omega)) only [push_cast, sevalprocAttr, g150, pf150, b150, h1, callT_eq h3]
  refine run_loop' (fun _ : Unit => [(0, T.one (.own 78 ((isortR l).reverse.map oW))), (1, T.int .i64 l.length), (2, T.fn 144 []), (6, T.int .i64 20)]) (fun _ => True) (fun _ => 0) () rfl trivial (fun _ _ => ?_)
  simp (maxSteps := 1000000) (disch := first | assumption | ((try simp only [LEN, LEN2]); omega)) only [push_cast, sevalprocAttr, g150, pf150, b150, h2]
theorem f150t {l : List Write} (hl : l.length ≤ 19) : type_of% (tE (f150 (l := l) hl)) := tE (f150 (l := l) hl)
attribute [push_cast] f150t
set_option maxHeartbeats 2000000 in
theorem f143 {l : List Write} (hl : l.length ≤ 19) : Fun G 143 [.one (.own 78 (l.map oW)), .fn 144 []] (.tup [], [.own 78 ((isortR l).reverse.map oW)]) := by
  refine Fun.of_run (g := g143) (pf := pf143) rfl rfl rfl rfl ?_
  simp (maxSteps := 1000000) (disch := first | assumption | ((try simp only [LEN, LEN2]); omega)) only [push_cast, sevalprocAttr, g143, pf143, b143]
theorem f143t {l : List Write} (hl : l.length ≤ 19) : type_of% (tE (f143 (l := l) hl)) := tE (f143 (l := l) hl)
attribute [push_cast] f143t
theorem cfF {l : List Write} (hl : l.length ≤ 1000000) : Fun G 145 [.vs false [.own 78 (l.map oW)], .fn 146 []] (.one (.own 78 ((cpL l).map oW)), []) :=
  given' rfl (cfGiven_eq (by omega))
theorem cloWF {S : List Write} (h : S.length ≤ 1000000) : Fun G 141 [.one (.d (.sl (S.map eW)))] (.one (.own 78 (S.map oW)), []) := by
  refine given' rfl ?_
  simp only [cloneGiven]
  rw [if_pos ⟨by rw [show Tryz.prog.cellsOf 78 = 4 by decide +kernel]; simp [eW], by rw [show Tryz.prog.bytesOf 78 = 48 by decide +kernel]; simp; omega, by simp; omega⟩]
  simp [eW, oW]
set_option maxHeartbeats 2000000 in
theorem f133 {l : List Write} {k : List Int} (hl : l.length ≤ 19) : Fun G 133 [.vs true [.d (.sl (l.map eW)), .d (.sl (k.map eN))]] (.one (.own 78 ((allW l).map oW)), []) := by
  refine Fun.of_run (g := g133) (pf := pf133) rfl rfl rfl rfl ?_
  have h1 := cloWF (S := l) (by omega)
  have h2 := f143 (l := l.reverse) (by simpa using hl)
  have h3 := cfF (l := (isortR l.reverse).reverse) (by simp [isortR_len]; omega)
  simp (maxSteps := 1000000) (disch := first | assumption | ((try simp only [LEN, LEN2]); omega)) only [push_cast, sevalprocAttr, g133, pf133, b133, callC_eq h1, callT_eq h1, callT_eq h2, callC_eq h3, callT_eq h3]
  simp [cpL, allW]
theorem f133c {l : List Write} {k : List Int} (hl : l.length ≤ 19) : type_of% (cE (f133 (l := l) (k := k) hl)) := cE (f133 (l := l) (k := k) hl)
attribute [push_cast] f133c
end S2
end Go.Mir.Tryz
