/- Wherever the power goes in a Save, or in adding records, and whatever stays, Open tells what the law says. Part 3 of its proof. -/
import Derived.Test.YtpjomofniedilaaGreatMirWp2
import Derived.Shelf.SlicesE.Clone
import Derived.Shelf.RegionOpenPlain
import Derived.WalkKit
import Derived.Deep.LoopGhost
import Derived.Lib.Walk
import Derived.Lib.SliceRun
import Derived.KernelRfl
import Derived.Shelf.Strings.Repeat
import Derived.Test.YtpjomofniedilaaGreatProg
set_option linter.unusedVariables false
set_option linter.unusedSimpArgs false
namespace Go.Mir.Q
open Go.Mir
structure Row where
  Key : List UInt8
  Value : List UInt8
deriving DecidableEq
abbrev Map := List (List Row)
structure Wal where
  Run : Int
  Slot : Int
  At : Int
  Seq : Int
deriving DecidableEq
def okRow (r : Row) : Bool := decide (1 ≤ r.Key.length ∧ r.Key.length ≤ 12 ∧ r.Value.length ≤ 20)
def rising : List Row → Bool
  | [] => true
  | [_] => true
  | a :: b :: l => Op.bytesLess a.Key b.Key && rising (b :: l)
def okRows (l : List Row) : Bool := l.all okRow && rising l
def okM (m : Map) : Bool := decide (m.length ≤ 3) && m.all okRows
def wrRow (t : Nat) (x : Row) : Write := ⟨t, x.Key, x.Value, false⟩
def imageF (t : Nat) : Map → List Write
  | [] => []
  | l :: m => l.map (wrRow t) ++ imageF (t + 1) m
def image (m : Map) : List Write := imageF 0 m
def okWal (w : Wal) : Bool := decide (1 ≤ w.Run ∧ w.Run < 1073741824) && decide (w.Slot = 0 ∨ w.Slot = 1) && decide (255 ≤ w.At ∧ w.At ≤ 512) && decide (1 ≤ w.Seq ∧ w.Seq < 1073741824)
theorem image_ok : ∀ {m : Map} {t : Nat}, t + m.length ≤ 3 → m.all okRows = true → ∀ w ∈ imageF t m, okW w = true
  | [], t, _, _, w, hw => by simp [imageF] at hw
  | l :: m, t, ht, hm, w, hw => by
    simp only [List.all_cons, Bool.and_eq_true] at hm
    simp only [imageF, List.mem_append, List.mem_map] at hw
    simp only [List.length_cons] at ht
    rcases hw with ⟨x, hx, rfl⟩ | hw
    · have := hm.1
      simp only [okRows, Bool.and_eq_true, List.all_eq_true] at this
      have hx := this.1 x hx
      simp only [okRow, decide_eq_true_eq] at hx
      simp only [okW, wrRow, decide_eq_true_eq]
      refine ⟨by omega, by omega, ?_, by omega, by omega, by simp⟩
      intro h; rw [h] at hx; simp at hx
    · exact image_ok (by omega) hm.2 w hw
theorem image_okR {m : Map} (h : okM m = true) (h64 : (image m).length ≤ 64) : okR ⟨1, image m⟩ = true := by
  simp only [okM, Bool.and_eq_true, decide_eq_true_eq] at h
  simp only [okR, Bool.and_eq_true, decide_eq_true_eq, List.all_eq_true]
  exact ⟨⟨by omega, by omega, h64⟩, image_ok (by omega) h.2⟩
theorem okR_cnt {r : Record} (h : okR r = true) : cnt (spelt r) ≤ 116 := by
  simp only [okR, Bool.and_eq_true, decide_eq_true_eq, List.all_eq_true] at h
  have : ∀ l : List Write, (∀ w ∈ l, okW w = true) → (wrs l).length ≤ l.length * 36 := by
    intro l
    induction l with
    | nil => intro _; simp [wrs]
    | cons w l ih =>
      intro hw
      have h1 := hw w (by simp)
      simp only [okW, decide_eq_true_eq] at h1
      have h2 := ih fun x hx => hw x (List.mem_cons_of_mem _ hx)
      have h3 : (wrs (w :: l)).length = (wr w).length + (wrs l).length := by simp [wrs]
      have h4 : (wr w).length = 4 + w.Key.length + w.Value.length := by simp [wr, be_length]; omega
      rw [h3, List.length_cons]; omega
  have h1 := this r.Writes h.2
  have h2 : (spelt r).length = 8 + (wrs r.Writes).length := by simp [spelt, be_length]; omega
  unfold cnt; omega
def startS (slot : Int) : Nat := if slot = 0 then 1 else 128
def putsW (a : Nat) : List (List UInt8) → List Put
  | [] => []
  | s :: l => ⟨a, s⟩ :: putsW (a + 1) l
def putsD (a : Nat) (l : List (List UInt8)) : List Do := (putsW a l).map fun p => ⟨false, p⟩
def syncD : Do := ⟨true, ⟨0, []⟩⟩
def superS (run slot : Int) : List UInt8 := sec 0 run 0 true (spelt ⟨slot + 1, []⟩)
def layD (run slot : Int) (m : Map) : List Do := putsD (startS slot) (cuts run 0 (spelt ⟨1, image m⟩)) ++ syncD :: (putsD 0 [superS run slot] ++ [syncD])
theorem putsW_len : ∀ (l : List (List UInt8)) (a : Nat), (putsW a l).length = l.length
  | [], a => rfl
  | s :: l, a => by simp [putsW, putsW_len l]
theorem putsD_len (l : List (List UInt8)) (a : Nat) : (putsD a l).length = l.length := by simp [putsD, putsW_len]
theorem putsW_app : ∀ (l k : List (List UInt8)) (a : Nat), putsW a (l ++ k) = putsW a l ++ putsW (a + l.length) k
  | [], k, a => by simp [putsW]
  | s :: l, k, a => by
    simp only [List.cons_append, putsW, putsW_app l k (a + 1), List.length_cons]
    rw [show a + 1 + l.length = a + (l.length + 1) by omega]
theorem putsW_take : ∀ (l : List (List UInt8)) (a n : Nat), (putsW a l).take n = putsW a (l.take n)
  | [], a, n => by simp [putsW]
  | s :: l, a, 0 => by simp [putsW]
  | s :: l, a, n + 1 => by simp [putsW, putsW_take l]
theorem putsW_mem : ∀ {l : List (List UInt8)} {a : Nat} {p : Put}, p ∈ putsW a l → (a : Int) ≤ p.At ∧ p.At < ((a + l.length : Nat) : Int) ∧ p.Text ∈ l
  | [], a, p, h => by simp [putsW] at h
  | s :: l, a, p, h => by
    simp only [putsW, List.mem_cons] at h
    rcases h with rfl | h
    · simp; omega
    · have := putsW_mem h
      simp only [List.length_cons, List.mem_cons]
      exact ⟨by omega, by omega, .inr this.2.2⟩
theorem spelt_super (slot : Int) : (spelt ⟨slot + 1, []⟩).length = 8 := by simp [spelt, wrs, be_length]
theorem cuts_super (run slot : Int) : cuts 0 run (spelt ⟨slot + 1, []⟩) = [superS run slot] := by
  have h := spelt_super slot
  have hc : cnt (spelt ⟨slot + 1, []⟩) = 1 := by simp [cnt, h]
  have hp : piece (spelt ⟨slot + 1, []⟩) 0 = spelt ⟨slot + 1, []⟩ := by rw [piece, Nat.mul_zero, List.drop_zero, List.take_of_length_le (by omega)]
  simp [cuts, cutK, hc, superS, hp, List.range_succ]
theorem play_puts : ∀ (P : List Put) (S : List (List UInt8)) (W : List Put), (∀ p ∈ P, 0 ≤ p.At ∧ p.At < S.length ∧ p.Text.length = 32) → W.length + P.length ≤ 2048 → playT ⟨S, W⟩ (P.map fun p => ⟨false, p⟩) = (0, ⟨S, W ++ P⟩)
  | [], S, W, _, _ => by simp [playT]
  | p :: P, S, W, h, hl => by
    have h1 := h p (by simp)
    simp only [List.length_cons] at hl
    have := step_ok (T := ⟨S, W⟩) (d := ⟨false, p⟩) rfl ⟨h1.1, h1.2.1⟩ h1.2.2 (by simp only; omega)
    simp only [List.map_cons, playT, this, if_true]
    rw [play_puts P S (W ++ [p]) (fun q hq => h q (by simp [hq])) (by simp; omega)]
    simp
theorem play_sync (S : List (List UInt8)) (W : List Put) : playT ⟨S, W⟩ [syncD] = (0, ⟨flush S W, []⟩) := by simp [playT, stepT, syncD]
def over (S : List (List UInt8)) (a : Nat) (l : List (List UInt8)) : List (List UInt8) := flush S (putsW a l)
theorem over_length (S l : List (List UInt8)) (a : Nat) : (over S a l).length = S.length := flush_length _ _
theorem put1_get (S : List (List UInt8)) (a : Nat) (s : List UInt8) (i : Nat) : (put1 S ⟨a, s⟩)[i]? = if i = a ∧ a < S.length then some s else S[i]? := by
  simp only [put1, Int.toNat_natCast, List.getElem?_set]
  by_cases h : a = i
  · subst h
    by_cases h2 : a < S.length
    · simp [h2]
    · simp [h2]
  · rw [if_neg h, if_neg (by omega)]
theorem over_get : ∀ (l S : List (List UInt8)) (a i : Nat), a + l.length ≤ S.length → (over S a l)[i]? = if a ≤ i ∧ i < a + l.length then l[i - a]? else S[i]?
  | [], S, a, i, h => by
    rw [if_neg (by simp)]; rfl
  | s :: l, S, a, i, h => by
    simp only [List.length_cons] at h
    have h1 : over S a (s :: l) = over (put1 S ⟨a, s⟩) (a + 1) l := rfl
    rw [h1, over_get l _ (a + 1) i (by rw [put1_length]; omega), put1_get]
    simp only [List.length_cons]
    by_cases h2 : a + 1 ≤ i ∧ i < a + 1 + l.length
    · rw [if_pos h2, if_pos (by omega)]
      obtain ⟨j, rfl⟩ : ∃ j, i = j + (a + 1) := ⟨i - (a + 1), by omega⟩
      rw [Nat.add_sub_cancel, show j + (a + 1) - a = j + 1 by omega, List.getElem?_cons_succ]
    · rw [if_neg h2]
      by_cases h3 : i = a
      · subst h3
        rw [if_pos ⟨rfl, by omega⟩, if_pos (by omega), Nat.sub_self, List.getElem?_cons_zero]
      · rw [if_neg (fun h => h3 h.1), if_neg (by omega)]
theorem over_eq (l S : List (List UInt8)) (a : Nat) (h : a + l.length ≤ S.length) : over S a l = S.take a ++ l ++ S.drop (a + l.length) := by
  apply List.ext_getElem?
  intro i
  rw [over_get l S a i h]
  have hta : (S.take a).length = a := by rw [List.length_take]; omega
  by_cases h1 : i < a
  · rw [if_neg (by omega), List.append_assoc, List.getElem?_append_left (by omega), List.getElem?_take, if_pos h1]
  · by_cases h2 : i < a + l.length
    · rw [if_pos ⟨by omega, h2⟩, List.append_assoc, List.getElem?_append_right (by omega), hta, List.getElem?_append_left (by omega)]
    · rw [if_neg (by omega), List.getElem?_append_right (by rw [List.length_append, hta]; omega), List.length_append, hta, List.getElem?_drop]
      congr 1; omega
theorem crash_over (K : List Int) : ∀ (l S : List (List UInt8)) (a i : Nat), a + l.length ≤ S.length → ∃ l' : List (List UInt8), crash1 K S i (putsW a l) = over S a l' ∧ l'.length = l.length ∧ ∀ j : Nat, l'[j]? = l[j]? ∨ (j < l.length ∧ l'[j]? = S[a + j]?)
  | [], S, a, i, h => ⟨[], rfl, rfl, fun j => .inl rfl⟩
  | s :: l, S, a, i, h => by
    simp only [List.length_cons] at h
    simp only [putsW, crash1]
    cases hk : keepB K i with
    | true =>
      obtain ⟨l', h1, h2, h3⟩ := crash_over K l (put1 S ⟨a, s⟩) (a + 1) (i + 1) (by rw [put1_length]; omega)
      refine ⟨s :: l', by simp only [if_true]; exact h1, by simp [h2], fun j => ?_⟩
      cases j with
      | zero => exact .inl rfl
      | succ j =>
        simp only [List.getElem?_cons_succ, List.length_cons]
        rcases h3 j with h | ⟨h, h'⟩
        · exact .inl h
        · rw [put1_get, if_neg (by omega), show a + 1 + j = a + (j + 1) by omega] at h'
          exact .inr ⟨by omega, h'⟩
    | false =>
      obtain ⟨l', h1, h2, h3⟩ := crash_over K l S (a + 1) (i + 1) (by omega)
      have hS : S[a]'(by omega) = S[a]'(by omega) := rfl
      refine ⟨S[a]'(by omega) :: l', ?_, by simp [h2], fun j => ?_⟩
      · simp only [Bool.false_eq_true, if_false]
        rw [h1]
        have : put1 S ⟨a, S[a]'(by omega)⟩ = S := by
          apply List.ext_getElem?
          intro j
          rw [put1_get]
          split
          · rename_i h; rw [h.1, List.getElem?_eq_getElem (by omega)]
          · rfl
        show over S (a + 1) l' = over (put1 S ⟨a, S[a]'(by omega)⟩) (a + 1) l'
        rw [this]
      · cases j with
        | zero => exact .inr ⟨by simp, by simp [List.getElem?_eq_getElem (show a < S.length by omega)]⟩
        | succ j =>
          simp only [List.getElem?_cons_succ, List.length_cons]
          rcases h3 j with h | ⟨h, h'⟩
          · exact .inl h
          · exact .inr ⟨by omega, by rw [h']; congr 1; omega⟩
def runOf (s : List UInt8) : Int := num ((s.drop 4).take 4)
def turnT (s : List UInt8) : Option (Int × Int) :=
  if 1 ≤ runOf s ∧ runOf s < 1073741824 then (if s = superS (runOf s) 1 then some (runOf s, 1) else if s = superS (runOf s) 0 then some (runOf s, 0) else none) else none
def groupT (tables : Nat) (ws : List Write) : Map := (List.range tables).map fun t : Nat => (ws.filter fun w => decide (w.Table = (t : Int))).map fun w => ⟨w.Key, w.Value⟩
def rowsT (tables : Nat) (r : Record) : Option Map :=
  if r.Commit = 1 ∧ (∀ w ∈ r.Writes, w.Table < tables ∧ w.Gone = false) ∧ okM (groupT tables r.Writes) = true ∧ image (groupT tables r.Writes) = r.Writes then some (groupT tables r.Writes) else none
def seg (S : List (List UInt8)) (slot : Int) : List (List UInt8) := (S.drop (startS slot)).take 127
def openT (S : List (List UInt8)) (tables : Nat) : Option (Map × List Record × Wal) :=
  match turnT (S[0]?.getD []) with
  | none => none
  | some (run, slot) =>
    if (whole1 run 0 (seg S slot)).2 = 0 then none else
    match rowsT tables (whole1 run 0 (seg S slot)).1 with
    | none => none
    | some m => some (m, (rd run 1 (S.drop 255)).1, ⟨run, slot, 255 + ((rd run 1 (S.drop 255)).2 : Nat), 1 + ((rd run 1 (S.drop 255)).1.length : Nat)⟩)
theorem sec_run {run n : Int} {i : Nat} {b : Bool} {p : List UInt8} : ((sec run n i b p).drop 4).take 4 = be 4 n := by
  simp [sec, be4]
theorem sec_run0 {run n : Int} {i : Nat} {b : Bool} {p : List UInt8} : (sec run n i b p).take 4 = be 4 run := by
  simp [sec, be4]
theorem runOf_super {run slot : Int} (h0 : 0 ≤ run) (h1 : run < 4294967296) : runOf (superS run slot) = run := by
  rw [runOf, superS, sec_run, num_be4 h0 h1]
theorem super_ne (run run' : Int) : superS run 0 ≠ superS run' 1 := by
  intro h
  have h1 := congrArg (fun s => s.drop 12) h
  simp [superS, sec, be4, spelt, wrs] at h1
  revert h1
  decide
theorem turnT_super {run slot : Int} (h0 : 1 ≤ run) (h1 : run < 1073741824) (hs : slot = 0 ∨ slot = 1) : turnT (superS run slot) = some (run, slot) := by
  have h := runOf_super (run := run) (slot := slot) (by omega) (by omega)
  simp only [turnT, h]
  rw [if_pos ⟨h0, h1⟩]
  rcases hs with rfl | rfl
  · rw [if_neg (super_ne run run), if_pos rfl]
  · rw [if_pos rfl]
theorem map_row_wr (t : Nat) (l : List Row) : (l.map (wrRow t)).map (fun w => (⟨w.Key, w.Value⟩ : Row)) = l := by
  rw [List.map_map]
  conv => rhs; rw [← List.map_id l]
  exact List.map_congr_left fun x _ => rfl
theorem image_tables : ∀ {m : Map} {t : Nat} {w : Write}, w ∈ imageF t m → (t : Int) ≤ w.Table ∧ w.Table < ((t + m.length : Nat) : Int) ∧ w.Gone = false
  | [], t, w, h => by simp [imageF] at h
  | l :: m, t, w, h => by
    simp only [imageF, List.mem_append, List.mem_map] at h
    simp only [List.length_cons]
    rcases h with ⟨x, _, rfl⟩ | h
    · simp only [wrRow]; exact ⟨by omega, by omega, trivial⟩
    · have := image_tables h; exact ⟨by omega, by omega, this.2.2⟩
theorem filter_image : ∀ (m : Map) (t : Nat) (i : Nat), i < m.length → (imageF t m).filter (fun w => decide (w.Table = ((t + i : Nat) : Int))) = (m[i]?.getD []).map (wrRow (t + i))
  | [], t, i, h => by simp at h
  | l :: m, t, i, h => by
    simp only [imageF, List.filter_append]
    cases i with
    | zero =>
      have h1 : (l.map (wrRow t)).filter (fun w => decide (w.Table = ((t + 0 : Nat) : Int))) = l.map (wrRow t) := by
        rw [List.filter_eq_self]; intro w hw
        obtain ⟨x, _, rfl⟩ := List.mem_map.1 hw; simp [wrRow]
      have h2 : (imageF (t + 1) m).filter (fun w => decide (w.Table = ((t + 0 : Nat) : Int))) = [] := by
        rw [List.filter_eq_nil_iff]; intro w hw
        have := image_tables hw; simp; omega
      rw [h1, h2]; simp
    | succ i =>
      have h1 : (l.map (wrRow t)).filter (fun w => decide (w.Table = ((t + (i + 1) : Nat) : Int))) = [] := by
        rw [List.filter_eq_nil_iff]; intro w hw
        obtain ⟨x, _, rfl⟩ := List.mem_map.1 hw; exact fun hh => by have := of_decide_eq_true hh; simp only [wrRow] at this; omega
      have h2 := filter_image m (t + 1) i (Nat.lt_of_succ_lt_succ h)
      rw [show t + 1 + i = t + (i + 1) by omega] at h2
      rw [h1, h2]; simp
theorem group_image (m : Map) : groupT m.length (image m) = m := by
  apply List.ext_getElem?
  intro i
  simp only [groupT, List.getElem?_map]
  by_cases h : i < m.length
  · have := filter_image m 0 i h
    rw [Nat.zero_add] at this
    rw [List.getElem?_range h, Option.map_some]
    simp only [image]
    rw [this, map_row_wr, List.getElem?_eq_getElem h, Option.getD_some]
  · rw [List.getElem?_eq_none (by simp; omega), List.getElem?_eq_none (by omega)]; rfl
theorem rowsT_image {m : Map} (hm : okM m = true) : rowsT m.length ⟨1, image m⟩ = some m := by
  have hg := group_image m
  have ha : ∀ w ∈ image m, w.Table < m.length ∧ w.Gone = false := fun w hw => by
    have := image_tables hw
    exact ⟨by omega, this.2.2⟩
  unfold rowsT
  rw [hg, if_pos ⟨rfl, ha, hm, rfl⟩]
theorem open_std {S : List (List UInt8)} {run slot : Int} {m : Map} (h0 : 1 ≤ run) (h1 : run < 1073741824) (hs : slot = 0 ∨ slot = 1) (hm : okM m = true) (h64 : (image m).length ≤ 64)
    (hS0 : S[0]? = some (superS run slot)) (hseg : ∃ R, S.drop (startS slot) = cuts run 0 (spelt ⟨1, image m⟩) ++ R) :
    openT S m.length = some (m, (rd run 1 (S.drop 255)).1, ⟨run, slot, 255 + ((rd run 1 (S.drop 255)).2 : Nat), 1 + ((rd run 1 (S.drop 255)).1.length : Nat)⟩) := by
  obtain ⟨R, hR⟩ := hseg
  have hr := image_okR hm h64
  have hc := okR_cnt hr
  have hp := (cnt_pos hr).1
  have hg : seg S slot = cuts run 0 (spelt ⟨1, image m⟩) ++ R.take (127 - cnt (spelt ⟨1, image m⟩)) := by
    rw [seg, hR, List.take_append, cuts_len, List.take_of_length_le (by rw [cuts_len]; omega)]
  simp only [openT, hS0, Option.getD_some, turnT_super h0 h1 hs, hg, whole1_cut hr]
  rw [if_neg (by omega)]
  simp only [rowsT_image hm]
def catR (run n : Int) : List Record → List (List UInt8)
  | [] => []
  | r :: rs => cuts run n (spelt r) ++ catR run (n + 1) rs
theorem catR_snoc (run : Int) (r : Record) : ∀ (rs : List Record) (n : Int), catR run n (rs ++ [r]) = catR run n rs ++ cuts run (n + rs.length) (spelt r)
  | [], n => by simp [catR]
  | x :: rs, n => by
    have := catR_snoc run r rs (n + 1)
    simp only [List.cons_append, catR, this, List.append_assoc, List.length_cons]
    rw [show n + 1 + (rs.length : Int) = n + ((rs.length + 1 : Nat) : Int) by omega]
theorem catR_len (run : Int) : ∀ (rs : List Record) (n : Int), (∀ r ∈ rs, okR r = true) → rs.length ≤ (catR run n rs).length
  | [], n, _ => by simp [catR]
  | r :: rs, n, h => by
    have h1 := cnt_pos (h r (by simp))
    have h2 := catR_len run rs (n + 1) fun x hx => h x (List.mem_cons_of_mem _ hx)
    simp only [catR, List.length_append, cuts_len, List.length_cons]; omega
theorem catR_32 (run : Int) : ∀ (rs : List Record) (n : Int), ∀ s ∈ catR run n rs, s.length = 32
  | [], n, s, hs => by simp [catR] at hs
  | r :: rs, n, s, hs => by
    simp only [catR, List.mem_append] at hs
    rcases hs with hs | hs
    · exact cuts_32 s hs
    · exact catR_32 run rs (n + 1) s hs
theorem runF_catR {run : Int} {L T : List (List UInt8)} : ∀ (rs : List Record) (n : Int) (m j : Nat), (whole1 run (n + rs.length) T).2 = 0 → (∀ r ∈ rs, okR r = true) → rs.length < j → n + rs.length ≤ 1073741824 → L.drop m = catR run n rs ++ T → runF run L j n m = (rs, m + (catR run n rs).length)
  | [], n, m, j, hT, _, hj, hn, hL => by
    obtain ⟨k, rfl⟩ : ∃ k, j = k + 1 := ⟨j - 1, by simp at hj; omega⟩
    simp only [List.length_nil] at hT hn
    rw [runF, if_neg (by omega), hL]
    rw [show n + ((0 : Nat) : Int) = n by omega] at hT
    simp only [catR, List.nil_append, hT]
    rfl
  | r :: rs, n, m, j, hT, hok, hj, hn, hL => by
    simp only [List.length_cons] at hj hn hT
    obtain ⟨k, rfl⟩ : ∃ k, j = k + 1 := ⟨j - 1, by omega⟩
    have hr := hok r (by simp)
    have h0 := (cnt_pos hr).1
    rw [catR, List.append_assoc] at hL
    rw [runF, if_neg (by omega), hL]
    simp only [whole1_cut hr]
    rw [if_neg (by omega)]
    have ih := runF_catR (L := L) (T := T) rs (n + 1) (m + cnt (spelt r)) k (by rw [show n + 1 + (rs.length : Int) = n + ((rs.length + 1 : Nat) : Int) by omega]; exact hT) (fun x hx => hok x (List.mem_cons_of_mem _ hx)) (by omega) (by omega) (by
      rw [← List.drop_drop, hL, ← cuts_len run n, List.drop_left])
    rw [ih]
    simp only [catR, List.length_append, cuts_len, Nat.add_assoc]
theorem rd_catR {run n : Int} {rs : List Record} {T : List (List UInt8)} (hT : (whole1 run (n + rs.length) T).2 = 0) (hok : ∀ r ∈ rs, okR r = true) (hn : n + rs.length ≤ 1073741824) : rd run n (catR run n rs ++ T) = (rs, (catR run n rs).length) := by
  have h1 := catR_len run rs n hok
  have := runF_catR (L := catR run n rs ++ T) (T := T) rs n 0 ((catR run n rs ++ T).length + 1) hT hok (by rw [List.length_append]; omega) hn rfl
  rw [rd, this]; simp
theorem cuts_run {run n : Int} {s : List UInt8} : ∀ x ∈ cuts run n s, x.take 4 = be 4 run := by
  intro x hx
  simp only [cuts, cutK, List.mem_map] at hx
  obtain ⟨i, _, rfl⟩ := hx
  exact sec_run0
theorem none_clean {run n : Int} {T : List (List UInt8)} (h : ∀ s, T[0]? = some s → s.take 4 ≠ be 4 run) : (whole1 run n T).2 = 0 := by
  refine whole1_none fun s k h0 hk hl he => ?_
  have h1 := congrArg (·[0]?) he
  simp only [List.getElem?_take] at h1
  rw [if_pos (by omega), cuts_get h0] at h1
  exact h _ h1.symm sec_run0
theorem catR_run (run : Int) : ∀ (rs : List Record) (n : Int), ∀ s ∈ catR run n rs, s.take 4 = be 4 run
  | [], n, s, hs => by simp [catR] at hs
  | r :: rs, n, s, hs => by
    simp only [catR, List.mem_append] at hs
    rcases hs with hs | hs
    · exact cuts_run s hs
    · exact catR_run run rs (n + 1) s hs
theorem be4_inj {a b : Int} (h0 : 0 ≤ a) (h1 : a < 4294967296) (h2 : 0 ≤ b) (h3 : b < 4294967296) (h : be 4 a = be 4 b) : a = b := by
  rw [← num_be4 h0 h1, ← num_be4 h2 h3, h]
theorem zeros_run {run : Int} (h0 : 1 ≤ run) (h1 : run < 4294967296) : zeros.take 4 ≠ be 4 run := by
  intro h
  have := be4_inj (a := 0) (b := run) (by omega) (by omega) (by omega) h1 (by rw [← h]; decide)
  omega
end Go.Mir.Q

set_option linter.unusedVariables false
set_option linter.unusedSimpArgs false
namespace Go.Mir.Q
open Go.Mir
theorem drop_get (S : List (List UInt8)) (a i : Nat) : (S.drop a)[i]? = S[a + i]? := by rw [List.getElem?_drop]
theorem over_drop {S l : List (List UInt8)} {a b : Nat} (h : a + l.length ≤ S.length) (hb : a + l.length ≤ b) : (over S a l).drop b = S.drop b := by
  apply List.ext_getElem?
  intro i
  rw [drop_get, drop_get, over_get l S a _ h, if_neg (by omega)]
theorem over_drop_self {S l : List (List UInt8)} {a : Nat} (h : a + l.length ≤ S.length) : (over S a l).drop a = l ++ S.drop (a + l.length) := by
  rw [over_eq l S a h, List.append_assoc, List.drop_append, List.length_take, Nat.min_eq_left (by omega), List.drop_of_length_le (by rw [List.length_take]; omega)]
  simp
theorem over_below {S l : List (List UInt8)} {a b n : Nat} (h : a + l.length ≤ S.length) (hb : b + n ≤ a) : ((over S a l).drop b).take n = (S.drop b).take n := by
  apply List.ext_getElem?
  intro i
  rw [List.getElem?_take, List.getElem?_take]
  split
  · rw [drop_get, drop_get, over_get l S a _ h, if_neg (by omega)]
  · rfl
theorem over_zero {S l : List (List UInt8)} {a : Nat} (h : a + l.length ≤ S.length) (ha : 1 ≤ a) : (over S a l)[0]? = S[0]? := by
  rw [over_get l S a _ h, if_neg (by omega)]
theorem prefix_take {α : Type} {A L : List α} : (∃ R, L = A ++ R) ↔ L.take A.length = A := by
  constructor
  · rintro ⟨R, rfl⟩; rw [List.take_left]
  · intro h; exact ⟨L.drop A.length, by conv => lhs; rw [← List.take_append_drop A.length L, h]⟩
def all32 (S : List (List UInt8)) : Prop := ∀ s ∈ S, s.length = 32
theorem all32_get {S : List (List UInt8)} : all32 S ↔ ∀ (i : Nat) (s : List UInt8), S[i]? = some s → s.length = 32 :=
  ⟨fun h i s hs => h s (List.mem_of_getElem? hs), fun h s hs => by obtain ⟨i, hi, rfl⟩ := List.mem_iff_getElem.1 hs; exact h i _ (List.getElem?_eq_getElem hi)⟩
theorem over_32 {S l : List (List UInt8)} {a : Nat} (h : a + l.length ≤ S.length) (hS : all32 S) (hl : all32 l) : all32 (over S a l) := by
  rw [all32_get] at *
  intro i s hs
  rw [over_get l S a i h] at hs
  split at hs
  · exact hl _ s hs
  · exact hS _ s hs
theorem super_32 (run slot : Int) : (superS run slot).length = 32 := sec_len (by rw [spelt_super]; omega)
structure Laid (S : List (List UInt8)) (w : Wal) (m : Map) (recs : List Record) : Prop where
  len : S.length = 512
  a32 : all32 S
  run : 1 ≤ w.Run ∧ w.Run < 1073741824
  slot : w.Slot = 0 ∨ w.Slot = 1
  okm : okM m = true
  l64 : (image m).length ≤ 64
  zero : S[0]? = some (superS w.Run w.Slot)
  seg : (S.drop (startS w.Slot)).take (cnt (spelt ⟨1, image m⟩)) = cuts w.Run 0 (spelt ⟨1, image m⟩)
  okr : ∀ r ∈ recs, okR r = true
  log : ∃ T, S.drop 255 = catR w.Run 1 recs ++ T ∧ ∀ s ∈ T, s = zeros
  at_ : w.At = 255 + ((catR w.Run 1 recs).length : Nat)
  seq : w.Seq = 1 + (recs.length : Nat)
theorem clean_zeros {run : Int} {T : List (List UInt8)} (h0 : 1 ≤ run) (h1 : run < 1073741824) (h : ∀ s ∈ T, s = zeros) {n : Int} : (whole1 run n T).2 = 0 :=
  none_clean fun s hs => by rw [h s (List.mem_of_getElem? hs)]; exact zeros_run h0 (by omega)
theorem Laid.few {S : List (List UInt8)} {w : Wal} {m : Map} {recs : List Record} (h : Laid S w m recs) : (catR w.Run 1 recs).length ≤ 257 ∧ recs.length ≤ 257 := by
  obtain ⟨T, hT, _⟩ := h.log
  have h1 := congrArg List.length hT
  rw [List.length_drop, h.len, List.length_append] at h1
  have h2 := catR_len w.Run recs 1 h.okr
  omega
theorem Laid.open {S : List (List UInt8)} {w : Wal} {m : Map} {recs : List Record} (h : Laid S w m recs) : openT S m.length = some (m, recs, w) := by
  obtain ⟨T, hT, hz⟩ := h.log
  have hf := h.few
  have hs := open_std h.run.1 h.run.2 h.slot h.okm h.l64 h.zero (prefix_take.2 (by rw [cuts_len]; exact h.seg))
  have hr := rd_catR (run := w.Run) (n := 1) (rs := recs) (T := T) (clean_zeros h.run.1 h.run.2 hz) h.okr (by omega)
  rw [hs, hT, hr]
  obtain ⟨a, b, c, d⟩ := w
  have h1 := h.at_
  have h2 := h.seq
  simp only at h1 h2 ⊢
  rw [h1, h2]
def layS (S : List (List UInt8)) (run slot : Int) (m : Map) : List (List UInt8) := over (over S (startS slot) (cuts run 0 (spelt ⟨1, image m⟩))) 0 [superS run slot]
theorem startS_le {slot : Int} : 1 ≤ startS slot ∧ startS slot ≤ 128 := by unfold startS; split <;> omega
theorem puts_ok {S : List (List UInt8)} {l : List (List UInt8)} {a : Nat} (h : a + l.length ≤ S.length) (hl : all32 l) : ∀ p ∈ putsW a l, 0 ≤ p.At ∧ p.At < S.length ∧ p.Text.length = 32 := fun p hp => by
  have := putsW_mem hp
  exact ⟨by omega, by omega, hl _ this.2.2⟩
theorem play_over {S l : List (List UInt8)} {a : Nat} (h : a + l.length ≤ S.length) (hl : all32 l) (hk : l.length ≤ 2048) : playT ⟨S, []⟩ (putsD a l ++ [syncD]) = (0, ⟨over S a l, []⟩) := by
  have h1 := play_puts (putsW a l) S [] (puts_ok h hl) (by rw [putsW_len]; simpa using hk)
  have h2 : playT ⟨S, []⟩ (putsD a l) = (0, ⟨S, putsW a l⟩) := by simpa [putsD] using h1
  rw [playT_app (by rw [h2]), h2]
  exact play_sync _ _
theorem play_lay {S : List (List UInt8)} {run slot : Int} {m : Map} (hS : S.length = 512) (hm : okM m = true) (h64 : (image m).length ≤ 64) : playT ⟨S, []⟩ (layD run slot m) = (0, ⟨layS S run slot m, []⟩) := by
  have hc := okR_cnt (image_okR hm h64)
  have hst := startS_le (slot := slot)
  have e : layD run slot m = (putsD (startS slot) (cuts run 0 (spelt ⟨1, image m⟩)) ++ [syncD]) ++ (putsD 0 [superS run slot] ++ [syncD]) := by simp [layD]
  have h1 := play_over (S := S) (l := cuts run 0 (spelt ⟨1, image m⟩)) (a := startS slot) (by rw [cuts_len]; omega) cuts_32 (by rw [cuts_len]; omega)
  have h2 := play_over (S := over S (startS slot) (cuts run 0 (spelt ⟨1, image m⟩))) (l := [superS run slot]) (a := 0) (by rw [over_length]; simp; omega) (fun s hs => by rw [List.mem_singleton.1 hs]; exact super_32 _ _) (by simp)
  rw [e, playT_app (by rw [h1]), h1]
  exact h2
theorem Laid.lay {S : List (List UInt8)} {run slot : Int} {m : Map} (hS : S.length = 512) (h32 : all32 S) (h0 : 1 ≤ run) (h1 : run < 1073741824) (hs : slot = 0 ∨ slot = 1) (hm : okM m = true) (h64 : (image m).length ≤ 64) (hz : ∀ s ∈ S.drop 255, s = zeros) :
    Laid (layS S run slot m) ⟨run, slot, 255, 1⟩ m [] := by
  have hc := okR_cnt (image_okR hm h64)
  have hst := startS_le (slot := slot)
  have b1 : startS slot + (cuts run 0 (spelt ⟨1, image m⟩)).length ≤ S.length := by rw [cuts_len]; omega
  have b2 : 0 + [superS run slot].length ≤ (over S (startS slot) (cuts run 0 (spelt ⟨1, image m⟩))).length := by rw [over_length]; simp; omega
  have d1 : ∀ b, 1 ≤ b → (layS S run slot m).drop b = (over S (startS slot) (cuts run 0 (spelt ⟨1, image m⟩))).drop b := fun b hb => over_drop b2 (by simpa using hb)
  refine ⟨by simp [layS, over_length, hS], over_32 b2 (over_32 b1 h32 cuts_32) (fun s hs => by rw [List.mem_singleton.1 hs]; exact super_32 _ _), ⟨h0, h1⟩, hs, hm, h64, ?_, ?_, by simp, ⟨S.drop 255, ?_, hz⟩, by simp [catR], by simp⟩
  · rw [layS, over_get _ _ _ _ b2]; simp
  · rw [d1 _ hst.1, over_drop_self b1, List.take_append, cuts_len, Nat.sub_self, List.take_of_length_le (by rw [cuts_len]; exact Nat.le_refl _)]; simp
  · rw [d1 _ (by omega), over_drop b1 (by rw [cuts_len]; omega)]; simp [catR]
theorem take_cut {α : Type} {L A : List α} {n : Nat} : n ≤ A.length → (∀ i, i < n → L[i]? = A[i]?) → L.take n = A.take n := fun _ h => by
  apply List.ext_getElem?
  intro i
  rw [List.getElem?_take, List.getElem?_take]
  split
  · exact h i (by assumption)
  · rfl
theorem Laid.add {S : List (List UInt8)} {w : Wal} {m : Map} {recs : List Record} (h : Laid S w m recs) {r : Record} (hr : okR r = true) (hfit : w.At + (cnt (spelt r) : Nat) ≤ 512) :
    Laid (over S w.At.toNat (cuts w.Run w.Seq (spelt r))) ⟨w.Run, w.Slot, w.At + (cnt (spelt r) : Nat), w.Seq + 1⟩ m (recs ++ [r]) := by
  obtain ⟨T, hT, hz⟩ := h.log
  have hat := h.at_
  have hw : w.At.toNat = 255 + (catR w.Run 1 recs).length := by omega
  have hc := okR_cnt (image_okR h.okm h.l64)
  have hst := startS_le (slot := w.Slot)
  have b1 : w.At.toNat + (cuts w.Run w.Seq (spelt r)).length ≤ S.length := by rw [cuts_len, h.len]; omega
  refine ⟨by rw [over_length]; exact h.len, over_32 b1 h.a32 cuts_32, h.run, h.slot, h.okm, h.l64, ?_, ?_, ?_, ?_, ?_, ?_⟩
  · rw [over_zero b1 (by omega)]; exact h.zero
  · rw [over_below b1 (by rw [hw]; simp only; omega)]; exact h.seg
  · intro x hx
    rcases List.mem_append.1 hx with hx | hx
    · exact h.okr x hx
    · rw [List.mem_singleton.1 hx]; exact hr
  · have hTl := congrArg List.length hT
    rw [List.length_drop, h.len, List.length_append] at hTl
    refine ⟨T.drop (cnt (spelt r)), ?_, fun s hs => hz s (List.mem_of_mem_drop hs)⟩
    have e1 : (over S w.At.toNat (cuts w.Run w.Seq (spelt r))).drop 255 = (S.drop 255).take (catR w.Run 1 recs).length ++ (over S w.At.toNat (cuts w.Run w.Seq (spelt r))).drop w.At.toNat := by
      rw [hw]
      rw [← List.drop_drop]
      conv => lhs; rw [← List.take_append_drop (catR w.Run 1 recs).length ((over S (255 + (catR w.Run 1 recs).length) (cuts w.Run w.Seq (spelt r))).drop 255)]
      rw [over_below (by rw [← hw]; exact b1) (Nat.le_refl _)]
    rw [e1, over_drop_self b1, hT, List.take_left, catR_snoc, List.append_assoc]
    congr 1
    have : (1 : Int) + (recs.length : Nat) = w.Seq := h.seq.symm
    rw [this]
    congr 1
    rw [cuts_len, hw, show 255 + (catR w.Run 1 recs).length + cnt (spelt r) = 255 + ((catR w.Run 1 recs).length + cnt (spelt r)) by omega, ← List.drop_drop, hT, List.drop_append, List.drop_of_length_le (by omega)]
    simp
  · have : (1 : Int) + (recs.length : Nat) = w.Seq := h.seq.symm
    rw [catR_snoc, List.length_append, this, cuts_len]
    simp only; omega
  · have := h.seq
    simp only [List.length_append, List.length_singleton]; omega
theorem Laid.next {S : List (List UInt8)} {w : Wal} {m : Map} {recs : List Record} (h : Laid S w m recs) {run n : Int} (h0 : 1 ≤ run) (h1 : run < 1073741824) (hne : run ≠ w.Run) : (whole1 run n (S.drop 255)).2 = 0 := by
  obtain ⟨T, hT, hz⟩ := h.log
  refine none_clean fun s hs => ?_
  rw [hT] at hs
  have := List.mem_of_getElem? hs
  rcases List.mem_append.1 this with hm | hm
  · rw [catR_run _ _ _ s hm]
    intro e
    have hr := h.run
    exact hne (be4_inj (by omega) (by omega) (by omega) (by omega) e).symm
  · rw [hz s hm]; exact zeros_run h0 (by omega)
theorem Laid.save {S : List (List UInt8)} {w : Wal} {m m' : Map} {recs : List Record} (h : Laid S w m recs) (hr : w.Run + 1 < 1073741824) (hm : okM m' = true) (h64 : (image m').length ≤ 64) :
    openT (layS S (w.Run + 1) (1 - w.Slot) m') m'.length = some (m', [], ⟨w.Run + 1, 1 - w.Slot, 255, 1⟩) := by
  have hc := okR_cnt (image_okR hm h64)
  have hst := startS_le (slot := 1 - w.Slot)
  have hrun := h.run
  have hslot := h.slot
  have b1 : startS (1 - w.Slot) + (cuts (w.Run + 1) 0 (spelt ⟨1, image m'⟩)).length ≤ S.length := by rw [cuts_len, h.len]; omega
  have b2 : 0 + [superS (w.Run + 1) (1 - w.Slot)].length ≤ (over S (startS (1 - w.Slot)) (cuts (w.Run + 1) 0 (spelt ⟨1, image m'⟩))).length := by rw [over_length, h.len]; simp
  have d1 : ∀ b, 1 ≤ b → (layS S (w.Run + 1) (1 - w.Slot) m').drop b = (over S (startS (1 - w.Slot)) (cuts (w.Run + 1) 0 (spelt ⟨1, image m'⟩))).drop b := fun b hb => over_drop b2 (by simpa using hb)
  have d2 : (layS S (w.Run + 1) (1 - w.Slot) m').drop 255 = S.drop 255 := by rw [d1 _ (by omega), over_drop b1 (by rw [cuts_len]; omega)]
  have hs := open_std (S := layS S (w.Run + 1) (1 - w.Slot) m') (run := w.Run + 1) (slot := 1 - w.Slot) (m := m') (by omega) hr (by omega) hm h64 (by rw [layS, over_get _ _ _ _ b2]; simp) ⟨_, by rw [d1 _ hst.1, over_drop_self b1]⟩
  rw [hs, d2, rd_none (h.next (by omega) hr (by omega))]
  simp
end Go.Mir.Q

set_option linter.unusedVariables false
set_option linter.unusedSimpArgs false
namespace Go.Mir.Q
open Go.Mir
theorem over_app (S A B : List (List UInt8)) (a : Nat) : over S a (A ++ B) = over (over S a A) (a + A.length) B := by
  simp only [over, flush, putsW_app, List.foldl_append]
theorem over_self {S : List (List UInt8)} {a : Nat} {x : List UInt8} (h : S[a]? = some x) : over S a [x] = S := by
  have ha : a < S.length := (List.getElem?_eq_some_iff.1 h).1
  apply List.ext_getElem?
  intro i
  rw [over_get _ _ _ _ (by simp; omega)]
  split
  · rename_i hi
    simp only [List.length_singleton] at hi
    have : i = a := by omega
    subst this
    rw [h]; simp
  · rfl
theorem Laid.other {S : List (List UInt8)} {w : Wal} {m : Map} {recs : List Record} (h : Laid S w m recs) {l : List (List UInt8)} (hl : l.length ≤ 116) (h32 : all32 l) : Laid (over S (startS (1 - w.Slot)) l) w m recs := by
  have hc := okR_cnt (image_okR h.okm h.l64)
  have hst := startS_le (slot := 1 - w.Slot)
  have b1 : startS (1 - w.Slot) + l.length ≤ S.length := by rw [h.len]; omega
  refine ⟨by rw [over_length]; exact h.len, over_32 b1 h.a32 h32, h.run, h.slot, h.okm, h.l64, ?_, ?_, h.okr, ?_, h.at_, h.seq⟩
  · rw [over_zero b1 hst.1]; exact h.zero
  · rcases h.slot with hs | hs
    · have e1 : startS w.Slot = 1 := by simp [startS, hs]
      have e2 : startS (1 - w.Slot) = 128 := by simp [startS, hs]
      rw [over_below b1 (by omega)]; exact h.seg
    · have e1 : startS w.Slot = 128 := by simp [startS, hs]
      have e2 : startS (1 - w.Slot) = 1 := by simp [startS, hs]
      rw [over_drop b1 (by omega)]; exact h.seg
  · rw [over_drop b1 (by omega)]; exact h.log
theorem crash_32 {S l l' : List (List UInt8)} {a : Nat} (hS : all32 S) (hl : all32 l) (h : ∀ j : Nat, l'[j]? = l[j]? ∨ (j < l.length ∧ l'[j]? = S[a + j]?)) : all32 l' := by
  rw [all32_get] at *
  intro j s hs
  rcases h j with h | ⟨_, h⟩
  · exact hl j s (by rw [← h]; exact hs)
  · exact hS _ s (by rw [← h]; exact hs)
theorem take_32 {l : List (List UInt8)} {n : Nat} (h : all32 l) : all32 (l.take n) := fun s hs => h s (List.mem_of_mem_take hs)
theorem play_some {S l : List (List UInt8)} {a : Nat} (h : a + l.length ≤ S.length) (hl : all32 l) (hk : l.length ≤ 2048) : playT ⟨S, []⟩ (putsD a l) = (0, ⟨S, putsW a l⟩) := by
  have h1 := play_puts (putsW a l) S [] (puts_ok h hl) (by rw [putsW_len]; simpa using hk)
  simpa [putsD] using h1
theorem putsD_take (a : Nat) (l : List (List UInt8)) (n : Nat) : (putsD a l).take n = putsD a (l.take n) := by
  simp only [putsD, ← List.map_take, putsW_take]
theorem Laid.powerSave {S : List (List UInt8)} {w : Wal} {m m' : Map} {recs : List Record} (h : Laid S w m recs) (hr : w.Run + 1 < 1073741824) (hm : okM m' = true) (h64 : (image m').length ≤ 64) (K : List Int) {n : Nat} (hn : n ≤ (layD (w.Run + 1) (1 - w.Slot) m').length) :
    ∃ S' W', playT ⟨S, []⟩ ((layD (w.Run + 1) (1 - w.Slot) m').take n) = (0, ⟨S', W'⟩) ∧ (crashS K S' W').length = 512 ∧ all32 (crashS K S' W') ∧
      (Laid (crashS K S' W') w m recs ∧ n ≠ (layD (w.Run + 1) (1 - w.Slot) m').length ∨ openT (crashS K S' W') m'.length = some (m', [], ⟨w.Run + 1, 1 - w.Slot, 255, 1⟩)) := by
  have hc := okR_cnt (image_okR hm h64)
  have hst := startS_le (slot := 1 - w.Slot)
  obtain ⟨C, hC⟩ : ∃ C, C = cuts (w.Run + 1) 0 (spelt ⟨1, image m'⟩) := ⟨_, rfl⟩
  have hCl : C.length ≤ 116 := by rw [hC, cuts_len]; exact hc
  have hC32 : all32 C := by rw [hC]; exact cuts_32
  have b1 : startS (1 - w.Slot) + C.length ≤ S.length := by rw [h.len]; omega
  have e : layD (w.Run + 1) (1 - w.Slot) m' = putsD (startS (1 - w.Slot)) C ++ syncD :: (putsD 0 [superS (w.Run + 1) (1 - w.Slot)] ++ [syncD]) := by rw [hC]; rfl
  have el : (layD (w.Run + 1) (1 - w.Slot) m').length = C.length + 3 := by rw [e]; simp [putsD_len]
  rw [el] at hn ⊢
  have hsup : all32 [superS (w.Run + 1) (1 - w.Slot)] := fun s hs => by rw [List.mem_singleton.1 hs]; exact super_32 _ _
  have b2 : 0 + [superS (w.Run + 1) (1 - w.Slot)].length ≤ (over S (startS (1 - w.Slot)) C).length := by rw [over_length, h.len]; simp
  have hlay : layS S (w.Run + 1) (1 - w.Slot) m' = over (over S (startS (1 - w.Slot)) C) 0 [superS (w.Run + 1) (1 - w.Slot)] := by rw [hC]; rfl
  have h1 := play_over b1 hC32 (by omega)
  have hnew := h.save hr hm h64
  have hL1 := h.other hCl hC32
  by_cases n1 : n ≤ C.length
  · have ht : (layD (w.Run + 1) (1 - w.Slot) m').take n = putsD (startS (1 - w.Slot)) (C.take n) := by
      rw [e, List.take_append_of_le_length (by rw [putsD_len]; exact n1), putsD_take]
    have hl : (C.take n).length = n := by rw [List.length_take]; omega
    obtain ⟨l', g1, g2, g3⟩ := crash_over K (C.take n) S (startS (1 - w.Slot)) 0 (by rw [hl]; omega)
    refine ⟨S, putsW (startS (1 - w.Slot)) (C.take n), by rw [ht]; exact play_some (by rw [hl]; omega) (take_32 hC32) (by rw [hl]; omega), ?_⟩
    have hx := h.other (l := l') (by rw [g2, hl]; omega) (crash_32 h.a32 (take_32 hC32) g3)
    have hcs : crashS K S (putsW (startS (1 - w.Slot)) (C.take n)) = over S (startS (1 - w.Slot)) l' := g1
    rw [hcs]
    exact ⟨hx.len, hx.a32, .inl ⟨hx, by omega⟩⟩
  have hpre : playT ⟨S, []⟩ (putsD (startS (1 - w.Slot)) C ++ [syncD]) = (0, ⟨over S (startS (1 - w.Slot)) C, []⟩) := h1
  by_cases n2 : n = C.length + 1
  · have ht : (layD (w.Run + 1) (1 - w.Slot) m').take n = putsD (startS (1 - w.Slot)) C ++ [syncD] := by
      rw [e, n2, List.take_append, List.take_of_length_le (by rw [putsD_len]; omega), putsD_len, show C.length + 1 - C.length = 1 by omega]; rfl
    refine ⟨over S (startS (1 - w.Slot)) C, [], by rw [ht]; exact hpre, ?_⟩
    rw [show crashS K (over S (startS (1 - w.Slot)) C) [] = over S (startS (1 - w.Slot)) C from rfl]
    exact ⟨hL1.len, hL1.a32, .inl ⟨hL1, by omega⟩⟩
  by_cases n3 : n = C.length + 2
  · have ht : (layD (w.Run + 1) (1 - w.Slot) m').take n = (putsD (startS (1 - w.Slot)) C ++ [syncD]) ++ putsD 0 [superS (w.Run + 1) (1 - w.Slot)] := by
      rw [e, n3, List.take_append, List.take_of_length_le (by rw [putsD_len]; omega), putsD_len, show C.length + 2 - C.length = 2 by omega]; simp [putsD, putsW]
    have hp2 := play_some (S := over S (startS (1 - w.Slot)) C) b2 hsup (by simp)
    obtain ⟨l', g1, g2, g3⟩ := crash_over K [superS (w.Run + 1) (1 - w.Slot)] (over S (startS (1 - w.Slot)) C) 0 0 b2
    refine ⟨over S (startS (1 - w.Slot)) C, putsW 0 [superS (w.Run + 1) (1 - w.Slot)], by rw [ht, playT_app (by rw [hpre]), hpre]; exact hp2, ?_⟩
    have hcs : crashS K (over S (startS (1 - w.Slot)) C) (putsW 0 [superS (w.Run + 1) (1 - w.Slot)]) = over (over S (startS (1 - w.Slot)) C) 0 l' := g1
    rw [hcs]
    obtain ⟨x, rfl⟩ : ∃ x, l' = [x] := List.length_eq_one_iff.1 g2
    rcases g3 0 with g | ⟨_, g⟩
    · simp only [List.getElem?_cons_zero, Option.some.injEq] at g
      subst g
      rw [← hlay]
      exact ⟨by rw [layS, over_length, over_length]; exact h.len, by rw [hlay]; exact over_32 b2 hL1.a32 hsup, .inr hnew⟩
    · rw [over_self g.symm]
      exact ⟨hL1.len, hL1.a32, .inl ⟨hL1, by omega⟩⟩
  · have n4 : n = C.length + 3 := by omega
    have ht : (layD (w.Run + 1) (1 - w.Slot) m').take n = layD (w.Run + 1) (1 - w.Slot) m' := List.take_of_length_le (by rw [el]; omega)
    refine ⟨layS S (w.Run + 1) (1 - w.Slot) m', [], by rw [ht]; exact play_lay h.len hm h64, ?_⟩
    rw [show crashS K (layS S (w.Run + 1) (1 - w.Slot) m') [] = layS S (w.Run + 1) (1 - w.Slot) m' from rfl]
    exact ⟨by rw [layS, over_length, over_length]; exact h.len, by rw [hlay]; exact over_32 b2 hL1.a32 hsup, .inr hnew⟩
theorem Laid.adds {m : Map} : ∀ {rs : List Record} {S : List (List UInt8)} {w : Wal} {recs : List Record}, Laid S w m recs → (∀ r ∈ rs, okR r = true) → w.At + ((catR w.Run w.Seq rs).length : Nat) ≤ 512 →
    Laid (over S w.At.toNat (catR w.Run w.Seq rs)) ⟨w.Run, w.Slot, w.At + ((catR w.Run w.Seq rs).length : Nat), w.Seq + (rs.length : Nat)⟩ m (recs ++ rs)
  | [], S, w, recs, h, _, _ => by
    have : over S w.At.toNat (catR w.Run w.Seq []) = S := rfl
    rw [this]
    simpa [catR] using h
  | r :: rs, S, w, recs, h, hok, hfit => by
    simp only [catR, List.length_append, cuts_len] at hfit
    have h1 := h.add (hok r (by simp)) (by omega)
    have hat := h.at_
    have h2 := Laid.adds (rs := rs) h1 (fun x hx => hok x (List.mem_cons_of_mem _ hx)) (by simp only; omega)
    simp only at h2
    have e1 : (w.At + (cnt (spelt r) : Nat)).toNat = w.At.toNat + (cuts w.Run w.Seq (spelt r)).length := by rw [cuts_len]; omega
    rw [e1, ← over_app, List.append_assoc] at h2
    simp only [catR, List.length_append, cuts_len, List.length_cons]
    have e2 : w.At + (cnt (spelt r) : Nat) + ((catR w.Run (w.Seq + 1) rs).length : Nat) = w.At + ((cnt (spelt r) + (catR w.Run (w.Seq + 1) rs).length : Nat) : Int) := by omega
    have e3 : w.Seq + 1 + (rs.length : Nat) = w.Seq + ((rs.length + 1 : Nat) : Int) := by omega
    rw [e2, e3] at h2
    exact h2
theorem runF_pre {run : Int} {L T : List (List UInt8)} : ∀ (rs : List Record) (n : Int) (m j : Nat), (∀ r ∈ rs, okR r = true) → rs.length ≤ j → n + rs.length ≤ 1073741824 → L.drop m = catR run n rs ++ T →
    (runF run L j n m).1 = rs ++ (runF run L (j - rs.length) (n + rs.length) (m + (catR run n rs).length)).1
  | [], n, m, j, _, hj, hn, hL => by simp [catR]
  | r :: rs, n, m, j, hok, hj, hn, hL => by
    simp only [List.length_cons] at hj hn
    obtain ⟨k, rfl⟩ : ∃ k, j = k + 1 := ⟨j - 1, by omega⟩
    have hr := hok r (by simp)
    have h0 := (cnt_pos hr).1
    rw [catR, List.append_assoc] at hL
    have hd : L.drop (m + cnt (spelt r)) = catR run (n + 1) rs ++ T := by rw [← List.drop_drop, hL, ← cuts_len run n, List.drop_left]
    have ih := runF_pre (L := L) (T := T) rs (n + 1) (m + cnt (spelt r)) k (fun x hx => hok x (List.mem_cons_of_mem _ hx)) (by omega) (by omega) hd
    conv => lhs; rw [runF, if_neg (by omega), hL]
    simp only [whole1_cut hr]
    rw [if_neg (by omega)]
    simp only [ih, catR, List.length_append, cuts_len, List.length_cons, List.cons_append]
    rw [show k + 1 - (rs.length + 1) = k - rs.length by omega, show n + 1 + (rs.length : Int) = n + ((rs.length + 1 : Nat) : Int) by omega, show m + cnt (spelt r) + (catR run (n + 1) rs).length = m + (cnt (spelt r) + (catR run (n + 1) rs).length) by omega]
theorem runF_mix {run : Int} {L Z : List (List UInt8)} (hr0 : 1 ≤ run) (hr1 : run < 1073741824) (hz : ∀ s ∈ Z, s = zeros) : ∀ (rs : List Record) (n : Int) (m j : Nat), (∀ r ∈ rs, okR r = true) → rs.length < j → n + rs.length ≤ 1073741824 →
    (∀ i : Nat, (L.drop m)[i]? = (catR run n rs ++ Z)[i]? ∨ (L.drop m)[i]? = some zeros) → ∃ k, k ≤ rs.length ∧ (runF run L j n m).1 = rs.take k
  | [], n, m, j, _, hj, hn, hL => by
    obtain ⟨k, rfl⟩ : ∃ k, j = k + 1 := ⟨j - 1, by simp at hj; omega⟩
    refine ⟨0, Nat.le_refl _, ?_⟩
    simp only [List.length_nil] at hn
    have hnone : (whole1 run n (L.drop m)).2 = 0 := none_clean fun s hs => by
      rcases hL 0 with h | h
      · rw [hs] at h
        have := List.mem_of_getElem? h.symm
        simp only [catR, List.nil_append] at this
        rw [hz s this]; exact zeros_run hr0 (by omega)
      · rw [hs] at h
        cases h
        exact zeros_run hr0 (by omega)
    rw [runF, if_neg (by omega)]
    simp only [hnone, if_true, List.take_zero]
  | r :: rs, n, m, j, hok, hj, hn, hL => by
    simp only [List.length_cons] at hj hn
    obtain ⟨k, rfl⟩ : ∃ k, j = k + 1 := ⟨j - 1, by omega⟩
    have hr := hok r (by simp)
    have h0 := (cnt_pos hr).1
    by_cases hi : ∀ i, i < cnt (spelt r) → (L.drop m)[i]? = (cuts run n (spelt r))[i]?
    · have hd : L.drop m = cuts run n (spelt r) ++ L.drop (m + cnt (spelt r)) := by
        conv => lhs; rw [← List.take_append_drop (cnt (spelt r)) (L.drop m)]
        rw [take_cut (A := cuts run n (spelt r)) (by rw [cuts_len]; exact Nat.le_refl _) hi, List.take_of_length_le (by rw [cuts_len]; exact Nat.le_refl _), List.drop_drop]
      obtain ⟨q, hq, hq2⟩ := runF_mix (L := L) (Z := Z) hr0 hr1 hz rs (n + 1) (m + cnt (spelt r)) k (fun x hx => hok x (List.mem_cons_of_mem _ hx)) (by omega) (by omega) (fun i => by
        have := hL (cnt (spelt r) + i)
        rw [drop_get, ← Nat.add_assoc] at this
        rw [drop_get]
        rcases this with h | h
        · left
          rw [h, catR, List.append_assoc, List.getElem?_append_right (by rw [cuts_len]; omega), cuts_len, Nat.add_sub_cancel_left]
        · exact .inr h)
      refine ⟨q + 1, by simpa using hq, ?_⟩
      rw [runF, if_neg (by omega), hd]
      simp only [whole1_cut hr]
      rw [if_neg (by omega)]
      simp only [hq2, List.take_succ_cons]
    · have hbad : ∃ i0, i0 < cnt (spelt r) ∧ (L.drop m)[i0]? = some zeros := by
        refine Classical.byContradiction fun hno => hi fun i hlt => ?_
        rcases hL i with h | h
        · rw [h, catR, List.append_assoc, List.getElem?_append_left (by rw [cuts_len]; exact hlt)]
        · exact (hno ⟨i, hlt, h⟩).elim
      obtain ⟨i0, hi0, hz0⟩ := hbad
      have hnone : (whole1 run n (L.drop m)).2 = 0 := whole1_none fun s c hc hcs hcl he => by
        have hget : ∀ i, i < c → (L.drop m)[i]? = some (sec run n i (decide (i + 1 = cnt s)) (piece s i)) := fun i hlt => by
          have := congrArg (·[i]?) he
          simp only [List.getElem?_take] at this
          rw [if_pos hlt, cuts_get (by omega)] at this
          exact this.symm
        have hnz : ∀ i, i < c → (L.drop m)[i]? ≠ some zeros := fun i hlt h => by
          rw [hget i hlt] at h
          have := sec_run0 (run := run) (n := n) (i := i) (b := decide (i + 1 = cnt s)) (p := piece s i)
          rw [Option.some.inj h] at this
          exact zeros_run hr0 (by omega) this
        have hci : c ≤ i0 := by
          refine Nat.le_of_not_lt fun hlt => hnz i0 hlt hz0
        have h1 := hget (c - 1) (by omega)
        rcases hL (c - 1) with h | h
        · rw [h1, catR, List.append_assoc, List.getElem?_append_left (by rw [cuts_len]; omega), cuts_get (by omega)] at h
          have h2 := congrArg (·[10]?) (Option.some.inj h)
          simp only [sec10] at h2
          rw [decide_eq_true (show c - 1 + 1 = cnt s by omega), decide_eq_false (show ¬ (c - 1 + 1 = cnt (spelt r)) by omega)] at h2
          simp at h2
        · exact hnz _ (by omega) h
      refine ⟨0, Nat.zero_le _, ?_⟩
      rw [runF, if_neg (by omega)]
      simp only [hnone, if_true, List.take_zero]
theorem Laid.powerAdd {S : List (List UInt8)} {w : Wal} {m : Map} {recs rs : List Record} (h : Laid S w m recs) (hok : ∀ r ∈ rs, okR r = true) (hfit : w.At + ((catR w.Run w.Seq rs).length : Nat) ≤ 512) (K : List Int) {n : Nat} (hn : n ≤ (catR w.Run w.Seq rs).length + 1) :
    ∃ S' W', playT ⟨S, []⟩ ((putsD w.At.toNat (catR w.Run w.Seq rs) ++ [syncD]).take n) = (0, ⟨S', W'⟩) ∧ (crashS K S' W').length = 512 ∧ all32 (crashS K S' W') ∧
      ∃ k w', k ≤ rs.length ∧ openT (crashS K S' W') m.length = some (m, recs ++ rs.take k, w') ∧ (n = (catR w.Run w.Seq rs).length + 1 → k = rs.length) := by
  obtain ⟨T, hT, hz⟩ := h.log
  have hat := h.at_
  have hseq := h.seq
  have hfew := h.few
  have hw : w.At.toNat = 255 + (catR w.Run 1 recs).length := by omega
  have hst := startS_le (slot := w.Slot)
  have hc := okR_cnt (image_okR h.okm h.l64)
  obtain ⟨l, hl⟩ : ∃ l, l = catR w.Run w.Seq rs := ⟨_, rfl⟩
  have hl32 : all32 l := by rw [hl]; exact catR_32 _ _ _
  have hcl := catR_len w.Run rs w.Seq hok
  have hcl2 := catR_len w.Run recs 1 h.okr
  rw [← hl] at hfit hn hcl ⊢
  have b1 : w.At.toNat + l.length ≤ S.length := by rw [h.len]; omega
  by_cases n1 : n ≤ l.length
  · have ht : (putsD w.At.toNat l ++ [syncD]).take n = putsD w.At.toNat (l.take n) := by
      rw [List.take_append_of_le_length (by rw [putsD_len]; exact n1), putsD_take]
    have hln : (l.take n).length = n := by rw [List.length_take]; omega
    obtain ⟨l', g1, g2, g3⟩ := crash_over K (l.take n) S w.At.toNat 0 (by rw [hln]; omega)
    rw [hln] at g2
    have hcs : crashS K S (putsW w.At.toNat (l.take n)) = over S w.At.toNat l' := g1
    have b2 : w.At.toNat + l'.length ≤ S.length := by rw [g2]; omega
    refine ⟨S, putsW w.At.toNat (l.take n), by rw [ht]; exact play_some (by rw [hln]; omega) (take_32 hl32) (by rw [hln]; omega), by rw [hcs, over_length]; exact h.len, by rw [hcs]; exact over_32 b2 h.a32 (crash_32 h.a32 (take_32 hl32) g3), ?_⟩
    rw [hcs]
    have hS0 : (over S w.At.toNat l')[0]? = some (superS w.Run w.Slot) := by rw [over_zero b2 (by omega)]; exact h.zero
    have hseg : ((over S w.At.toNat l').drop (startS w.Slot)).take (cnt (spelt ⟨1, image m⟩)) = cuts w.Run 0 (spelt ⟨1, image m⟩) := by rw [over_below b2 (by omega)]; exact h.seg
    have hs := open_std h.run.1 h.run.2 h.slot h.okm h.l64 hS0 (prefix_take.2 (by rw [cuts_len]; exact hseg))
    obtain ⟨L, hL⟩ : ∃ L, L = (over S w.At.toNat l').drop 255 := ⟨_, rfl⟩
    have hLl : L.length = 257 := by rw [hL, List.length_drop, over_length, h.len]
    have hLpre : L = catR w.Run 1 recs ++ L.drop (catR w.Run 1 recs).length := by
      conv => lhs; rw [← List.take_append_drop (catR w.Run 1 recs).length L]
      congr 1
      rw [hL, over_below b2 (by rw [hw]; exact Nat.le_refl _), hT, List.take_left]
    have hLm : ∀ i : Nat, (L.drop (catR w.Run 1 recs).length)[i]? = (catR w.Run w.Seq rs ++ T.drop l.length)[i]? ∨ (L.drop (catR w.Run 1 recs).length)[i]? = some zeros := fun i => by
      have e1 : (L.drop (catR w.Run 1 recs).length)[i]? = (over S w.At.toNat l')[w.At.toNat + i]? := by rw [hL, List.drop_drop, drop_get, hw]
      have eT : ∀ i : Nat, S[w.At.toNat + i]? = T[i]? := fun i => by
        have : S[w.At.toNat + i]? = (S.drop 255)[(catR w.Run 1 recs).length + i]? := by rw [drop_get, hw, Nat.add_assoc]
        rw [this, hT, List.getElem?_append_right (by omega), Nat.add_sub_cancel_left]
      have hTl := congrArg List.length hT
      rw [List.length_drop, h.len, List.length_append] at hTl
      have hz' : ∀ i : Nat, i < l.length → T[i]? = some zeros := fun i hi => by
        rw [List.getElem?_eq_getElem (by omega)]
        exact congrArg some (hz _ (List.getElem_mem _))
      rw [← hl, e1, over_get _ _ _ _ b2, g2]
      by_cases hi : i < n
      · rw [if_pos (by omega), Nat.add_sub_cancel_left]
        rcases g3 i with g | ⟨_, g⟩
        · left
          rw [g, List.getElem?_take, if_pos hi, List.getElem?_append_left (by omega)]
        · right
          rw [g, eT]; exact hz' i (by omega)
      · rw [if_neg (by omega), eT]
        by_cases hi2 : i < l.length
        · exact .inr (hz' i hi2)
        · left
          rw [List.getElem?_append_right (by omega), drop_get, show l.length + (i - l.length) = i by omega]
    have hpre := runF_pre (run := w.Run) (L := L) (T := L.drop (catR w.Run 1 recs).length) recs 1 0 (L.length + 1) h.okr (by omega) (by omega) (by rw [List.drop_zero]; exact hLpre)
    obtain ⟨k, hk, hk2⟩ := runF_mix (L := L) (Z := T.drop l.length) h.run.1 h.run.2 (fun s hs => hz s (List.mem_of_mem_drop hs)) rs w.Seq (catR w.Run 1 recs).length (L.length + 1 - recs.length) hok (by rw [hLl]; have := h.len; omega) (by omega) hLm
    rw [Nat.zero_add, ← hseq, hk2] at hpre
    refine ⟨k, ⟨w.Run, w.Slot, 255 + ((rd w.Run 1 L).2 : Nat), 1 + ((recs ++ rs.take k).length : Nat)⟩, hk, ?_, fun hh => by omega⟩
    rw [hs, ← hL]
    have e : (rd w.Run 1 L).1 = recs ++ rs.take k := hpre
    rw [e]
  · have n2 : n = l.length + 1 := by omega
    have ht : (putsD w.At.toNat l ++ [syncD]).take n = putsD w.At.toNat l ++ [syncD] := List.take_of_length_le (by simp [putsD_len, n2])
    have hx := h.adds hok (by rw [← hl]; exact hfit)
    rw [← hl] at hx
    refine ⟨over S w.At.toNat l, [], by rw [ht]; exact play_over b1 hl32 (by rw [h.len] at b1; omega), ?_⟩
    rw [show crashS K (over S w.At.toNat l) [] = over S w.At.toNat l from rfl]
    exact ⟨hx.len, hx.a32, rs.length, _, Nat.le_refl _, by rw [List.take_length]; exact hx.open, fun _ => rfl⟩
end Go.Mir.Q

set_option linter.unusedVariables false
set_option linter.unusedSimpArgs false
namespace Go.Mir.Q
open Go.Mir
theorem okR_super {slot : Int} (h : slot = 0 ∨ slot = 1) : okR ⟨slot + 1, []⟩ = true := by rcases h with rfl | rfl <;> decide
theorem turn_eq {s : List UInt8} (h0 : 1 ≤ runOf s) (h1 : runOf s < 1073741824) :
    turnT s = if (whole1 0 (runOf s) [s]).2 = 1 ∧ (whole1 0 (runOf s) [s]).1.Writes = [] ∧ ((whole1 0 (runOf s) [s]).1.Commit - 1 = 0 ∨ (whole1 0 (runOf s) [s]).1.Commit - 1 = 1) then some (runOf s, (whole1 0 (runOf s) [s]).1.Commit - 1) else none := by
  have key : ∀ slot : Int, (slot = 0 ∨ slot = 1) → s = superS (runOf s) slot → whole1 0 (runOf s) [s] = (⟨slot + 1, []⟩, 1) := fun slot hs he => by
    have h := whole1_cut (run := 0) (n := runOf s) (r := ⟨slot + 1, []⟩) (S := []) (okR_super hs)
    rw [cuts_super, List.append_nil, ← he] at h
    rw [h]
    congr 1
    simp [cnt, spelt_super]
  by_cases hs1 : s = superS (runOf s) 1
  · have h := key 1 (.inr rfl) hs1
    rw [h]
    simp only [turnT]
    rw [if_pos ⟨h0, h1⟩, if_pos hs1]
    simp
  by_cases hs0 : s = superS (runOf s) 0
  · have h := key 0 (.inl rfl) hs0
    rw [h]
    simp only [turnT]
    rw [if_pos ⟨h0, h1⟩, if_neg hs1, if_pos hs0]
    simp
  · rw [if_neg]
    · simp only [turnT]
      rw [if_pos ⟨h0, h1⟩, if_neg hs1, if_neg hs0]
    · rintro ⟨g1, g2, g3⟩
      obtain ⟨⟨⟨c, ws⟩, k⟩, hw⟩ : ∃ x, whole1 0 (runOf s) [s] = x := ⟨_, rfl⟩
      rw [hw] at g1 g2 g3
      simp only at g1 g2 g3
      subst g1 g2
      obtain ⟨hc, _⟩ := whole_sound hw (by omega)
      rcases g3 with g | g
      · obtain rfl : c = 0 + 1 := by omega
        rw [cuts_super] at hc
        simp only [List.take_succ_cons, List.take_zero, List.cons.injEq, and_true] at hc
        exact hs0 hc.symm
      · obtain rfl : c = 1 + 1 := by omega
        rw [cuts_super] at hc
        simp only [List.take_succ_cons, List.take_zero, List.cons.injEq, and_true] at hc
        exact hs1 hc.symm
def goodP (tables : Nat) : Int → List Write → Bool
  | _, [] => true
  | last, w :: ws => decide (w.Table < tables ∧ last ≤ w.Table ∧ w.Gone = false) && goodP tables w.Table ws
theorem goodP_snoc {tables : Nat} {w : Write} : ∀ {ws : List Write} {last : Int}, goodP tables last (ws ++ [w]) = (goodP tables last ws && decide (w.Table < tables ∧ ((ws.getLast?.map (·.Table)).getD last) ≤ w.Table ∧ w.Gone = false))
  | [], last => by
    cases h : w.Gone <;> by_cases h1 : w.Table < (tables : Int) <;> by_cases h2 : last ≤ w.Table <;> simp [goodP, *]
  | x :: ws, last => by
    simp only [List.cons_append, goodP, goodP_snoc, Bool.and_assoc]
    cases ws with
    | nil => rfl
    | cons y ws =>
      rw [List.getLast?_cons_cons]
      obtain ⟨z, hz⟩ : ∃ z, (y :: ws).getLast? = some z := ⟨_, List.getLast?_eq_some_getLast (by simp)⟩
      rw [hz]; rfl
theorem goodP_iff {tables : Nat} : ∀ {ws : List Write} {last : Int}, goodP tables last ws = true ↔ (∀ w ∈ ws, w.Table < tables ∧ w.Gone = false ∧ last ≤ w.Table) ∧ ws.Pairwise (fun a b => a.Table ≤ b.Table)
  | [], last => by simp [goodP]
  | w :: ws, last => by
    simp only [goodP, Bool.and_eq_true, decide_eq_true_eq, goodP_iff, List.pairwise_cons, List.mem_cons]
    constructor
    · rintro ⟨⟨h1, h2, h3⟩, h4, h5⟩
      exact ⟨fun x hx => by rcases hx with rfl | hx; exact ⟨h1, h3, h2⟩; have := h4 x hx; exact ⟨this.1, this.2.1, by omega⟩, fun x hx => (h4 x hx).2.2, h5⟩
    · rintro ⟨h1, h2, h3⟩
      have hw := h1 w (.inl rfl)
      exact ⟨⟨hw.1, hw.2.2, hw.2.1⟩, fun x hx => ⟨(h1 x (.inr hx)).1, (h1 x (.inr hx)).2.1, h2 x hx⟩, h3⟩
theorem split_first {t : Int} : ∀ {ws : List Write}, ws.Pairwise (fun a b => a.Table ≤ b.Table) → (∀ w ∈ ws, t ≤ w.Table) → ws = ws.filter (fun w => decide (w.Table = t)) ++ ws.filter (fun w => decide (w.Table ≠ t))
  | [], _, _ => rfl
  | w :: ws, hp, ht => by
    rw [List.pairwise_cons] at hp
    have ih := split_first (t := t) hp.2 (fun x hx => ht x (by simp [hx]))
    by_cases h : w.Table = t
    · rw [List.filter_cons_of_pos (by simp [h]), List.filter_cons_of_neg (by simp [h]), List.cons_append, ← ih]
    · have hw := ht w (by simp)
      have h1 : (w :: ws).filter (fun w => decide (w.Table = t)) = [] := by
        rw [List.filter_eq_nil_iff]
        intro x hx hh
        have hh := of_decide_eq_true hh
        rcases List.mem_cons.1 hx with rfl | hx
        · exact h hh
        · have := hp.1 x hx; omega
      have h2 : (w :: ws).filter (fun w => decide (w.Table ≠ t)) = w :: ws := by
        rw [List.filter_eq_self]
        intro x hx
        have : x.Table ≠ t := by
          rcases List.mem_cons.1 hx with rfl | hx
          · exact h
          · have := hp.1 x hx; omega
        exact decide_eq_true this
      rw [h1, h2]; rfl
def groupF (t k : Nat) (ws : List Write) : Map := (List.range k).map fun i : Nat => (ws.filter fun w => decide (w.Table = ((t + i : Nat) : Int))).map fun w => ⟨w.Key, w.Value⟩
theorem groupF_eq (k : Nat) (ws : List Write) : groupF 0 k ws = groupT k ws := by simp [groupF, groupT]
theorem image_group : ∀ (k t : Nat) (ws : List Write), ws.Pairwise (fun a b => a.Table ≤ b.Table) → (∀ w ∈ ws, (t : Int) ≤ w.Table ∧ w.Table < ((t + k : Nat) : Int) ∧ w.Gone = false) → imageF t (groupF t k ws) = ws
  | 0, t, [], _, _ => rfl
  | 0, t, w :: ws, _, h => by have := h w (by simp); omega
  | k + 1, t, ws, hp, h => by
    have hs := split_first (t := t) hp (fun w hw => (h w hw).1)
    have e1 : groupF t (k + 1) ws = ((ws.filter fun w => decide (w.Table = (t : Int))).map fun w => ⟨w.Key, w.Value⟩) :: groupF (t + 1) k (ws.filter fun w => decide (w.Table ≠ (t : Int))) := by
      simp only [groupF, List.range_succ_eq_map, List.map_cons, List.map_map, Nat.add_zero]
      congr 1
      refine List.map_congr_left fun i _ => ?_
      simp only [Function.comp]
      rw [List.filter_filter]
      congr 1
      refine List.filter_congr fun w hw => ?_
      have : (w.Table = ((t + Nat.succ i : Nat) : Int)) ↔ (w.Table = ((t + 1 + i : Nat) : Int) ∧ w.Table ≠ (t : Int)) := by omega
      simp only [decide_eq_decide.2 this, Bool.decide_and]
    have e2 : ((ws.filter fun w => decide (w.Table = (t : Int))).map fun w => (⟨w.Key, w.Value⟩ : Row)).map (wrRow t) = ws.filter fun w => decide (w.Table = (t : Int)) := by
      rw [List.map_map]
      conv => rhs; rw [← List.map_id (ws.filter fun w => decide (w.Table = (t : Int)))]
      refine List.map_congr_left fun w hw => ?_
      obtain ⟨hw1, hw2⟩ := List.mem_filter.1 hw
      have hw2 := of_decide_eq_true hw2
      have hw3 := (h w hw1).2.2
      obtain ⟨a, b, c, d⟩ := w
      simp only at hw2 hw3
      simp [wrRow, hw2, hw3]
    have ih := image_group k (t + 1) (ws.filter fun w => decide (w.Table ≠ (t : Int))) (hp.filter _) (fun w hw => by
      obtain ⟨hw1, hw2⟩ := List.mem_filter.1 hw
      have hw2 := of_decide_eq_true hw2
      have := h w hw1
      exact ⟨by omega, by omega, this.2.2⟩)
    rw [e1, imageF, e2, ih, ← hs]
theorem image_sorted : ∀ (m : Map) (t : Nat), (imageF t m).Pairwise (fun a b => a.Table ≤ b.Table)
  | [], t => by simp [imageF]
  | l :: m, t => by
    simp only [imageF, List.pairwise_append]
    refine ⟨?_, image_sorted m (t + 1), fun a ha b hb => ?_⟩
    · rw [List.pairwise_map]
      exact List.Pairwise.imp (R := fun _ _ => True) (fun _ => by simp [wrRow]) (List.pairwise_of_forall fun _ _ => trivial)
    · obtain ⟨x, _, rfl⟩ := List.mem_map.1 ha
      have := image_tables hb
      simp only [wrRow]; omega
theorem good_image {tables : Nat} {ws : List Write} (h0 : ∀ w ∈ ws, 0 ≤ w.Table) : goodP tables 0 ws = true ↔ (∀ w ∈ ws, w.Table < tables ∧ w.Gone = false) ∧ image (groupT tables ws) = ws := by
  rw [goodP_iff]
  constructor
  · rintro ⟨h1, h2⟩
    refine ⟨fun w hw => ⟨(h1 w hw).1, (h1 w hw).2.1⟩, ?_⟩
    rw [image, ← groupF_eq]
    exact image_group tables 0 ws h2 fun w hw => ⟨by have := h0 w hw; omega, by have := (h1 w hw).1; omega, (h1 w hw).2.1⟩
  · rintro ⟨h1, h2⟩
    refine ⟨fun w hw => ⟨(h1 w hw).1, (h1 w hw).2, h0 w hw⟩, ?_⟩
    rw [← h2]
    exact image_sorted _ 0
theorem rows_eq {tables : Nat} {r : Record} (hr : okR r = true) : rowsT tables r = if goodP tables 0 r.Writes = true ∧ r.Commit = 1 ∧ okM (groupT tables r.Writes) = true then some (groupT tables r.Writes) else none := by
  have h0 : ∀ w ∈ r.Writes, 0 ≤ w.Table := fun w hw => by
    simp only [okR, Bool.and_eq_true, List.all_eq_true] at hr
    have := hr.2 w hw
    simp only [okW, decide_eq_true_eq] at this
    omega
  unfold rowsT
  by_cases hg : goodP tables 0 r.Writes = true
  · have hg2 := (good_image h0).1 hg
    by_cases h : r.Commit = 1 ∧ okM (groupT tables r.Writes) = true
    · rw [if_pos ⟨h.1, hg2.1, h.2, hg2.2⟩, if_pos ⟨hg, h.1, h.2⟩]
    · rw [if_neg (fun hh => h ⟨hh.1, hh.2.2.1⟩), if_neg (fun hh => h hh.2)]
  · rw [if_neg (fun hh => hg ((good_image h0).2 ⟨hh.2.1, hh.2.2.2⟩)), if_neg (fun hh => hg hh.1)]
theorem group_snoc {tables : Nat} {ws : List Write} {w : Write} {k : Nat} (hk : w.Table = k) (hlt : k < tables) : groupT tables (ws ++ [w]) = (groupT tables ws).set k (((groupT tables ws)[k]?.getD []) ++ [⟨w.Key, w.Value⟩]) := by
  apply List.ext_getElem?
  intro i
  simp only [groupT, List.getElem?_map, List.getElem?_set, List.length_map, List.length_range]
  by_cases hi : i < tables
  · rw [List.getElem?_range hi, Option.map_some, List.filter_append, List.map_append]
    by_cases h : k = i
    · subst h
      rw [if_pos rfl, if_pos hlt, List.getElem?_range hlt, Option.map_some, Option.getD_some]
      simp [hk]
    · rw [if_neg h]
      have : ¬ w.Table = (i : Int) := by omega
      simp [this]
  · rw [if_neg (by omega), List.getElem?_eq_none (by simp; omega)]; rfl
end Go.Mir.Q

set_option linter.unusedVariables false
namespace Go.Mir.Q
open Go.Mir
def smDo (l : List Do) : Prop := l.length ≤ 1048576 ∧ ∀ p ∈ l, p.Put.Text.length ≤ 1048576
def smRows (l : List Row) : Prop := l.length ≤ 1048576 ∧ ∀ x ∈ l, x.Key.length ≤ 1048576 ∧ x.Value.length ≤ 1048576
def smM (m : Map) : Prop := m.length ≤ 1048576 ∧ ∀ l ∈ m, smRows l
def eRow (x : Row) : List D := [.sc (.string (bs x.Key)), .sc (.string (bs x.Value))]
def oRow (x : Row) : List V := [.d (.sc (.string (bs x.Key))), .d (.sc (.string (bs x.Value)))]
def eMp (l : List Row) : List D := [.sl (l.map eRow)]
abbrev cWal (w : Wal) : List V := [.d (.sc (.int .i64 w.Run)), .d (.sc (.int .i64 w.Slot)), .d (.sc (.int .i64 w.At)), .d (.sc (.int .i64 w.Seq))]
def eWal (w : Wal) : List D := [.sc (.int .i64 w.Run), .sc (.int .i64 w.Slot), .sc (.int .i64 w.At), .sc (.int .i64 w.Seq)]
def oWal (w : Wal) : List V := [.d (.sc (.int .i64 w.Run)), .d (.sc (.int .i64 w.Slot)), .d (.sc (.int .i64 w.At)), .d (.sc (.int .i64 w.Seq))]
theorem toDss_oRow (l : List Row) : toDss (l.map oRow) = some (l.map eRow) := toDss_map (fun _ => rfl) l
theorem noSlss_oRow (l : List Row) : noSlss (l.map oRow) = true := noSlss_map (fun _ => rfl) l
theorem dV_eRow (l : List Row) : (l.map eRow).map (fun x => x.map V.d) = l.map oRow := by simp [eRow, oRow]
theorem all_oRow (l : List Row) : (l.map oRow).all (fun c => c.length == 2) = true := by simp [oRow]
theorem isD_oRow (l : List Row) : ((l.map oRow).all fun x => x.all V.isD) = true := by simp [oRow, V.isD]
theorem all_eRow (l : List Row) : (l.map eRow).all (fun c => c.length == 2) = true := by simp [eRow]
attribute [push_cast] toDss_oRow noSlss_oRow dV_eRow all_oRow isD_oRow all_eRow
theorem toDss_oWal (l : List Wal) : toDss (l.map oWal) = some (l.map eWal) := toDss_map (fun _ => rfl) l
theorem noSlss_oWal (l : List Wal) : noSlss (l.map oWal) = true := noSlss_map (fun _ => rfl) l
attribute [push_cast] toDss_oWal noSlss_oWal
theorem eqRow_fold (a b : Row) : (decide (a.Key = b.Key) && decide (a.Value = b.Value)) = decide (a = b) := by
  obtain ⟨a1, a2⟩ := a
  obtain ⟨b1, b2⟩ := b
  simp
end Go.Mir.Q

set_option linter.unusedVariables false
namespace Go.Mir.Q
open Go.Mir
theorem less_total : ∀ a b : List UInt8, (Op.bytesLess a b || decide (a = b)) = !Op.bytesLess b a
  | [], [] => rfl
  | [], _ :: _ => rfl
  | _ :: _, [] => by simp [Op.bytesLess]
  | a :: x, b :: y => by
    have ih := less_total x y
    simp only [Op.bytesLess]
    rcases Nat.lt_trichotomy a.toNat b.toNat with h | h | h
    · have h1 : a < b := h
      have h2 : ¬ b < a := fun hh => by have : b.toNat < a.toNat := hh; omega
      have h3 : ¬ b = a := fun hh => by subst hh; omega
      simp [h1, h2, h3]
    · have h0 : a = b := UInt8.toNat_inj.1 h
      subst h0
      have h2 : ¬ a < a := fun hh => by have : a.toNat < a.toNat := hh; omega
      simp only [h2, decide_false, beq_self_eq_true, Bool.true_and, Bool.false_or, List.cons.injEq, true_and]
      exact ih
    · have h1 : b < a := h
      have h2 : ¬ a < b := fun hh => by have : a.toNat < b.toNat := hh; omega
      have h3 : ¬ a = b := fun hh => by subst hh; omega
      simp [h1, h2, h3]
theorem rising_snoc (x : Row) : ∀ l : List Row, rising (l ++ [x]) = (rising l && (match l.getLast? with | some y => Op.bytesLess y.Key x.Key | none => true))
  | [] => rfl
  | [a] => by simp [rising]
  | a :: b :: l => by
    have ih := rising_snoc x (b :: l)
    simp only [List.cons_append] at ih ⊢
    simp only [rising]
    rw [ih, List.getLast?_cons_cons, Bool.and_assoc]
theorem okRows_snoc (l : List Row) (x : Row) : okRows (l ++ [x]) = (okRows l && (okRow x && (match l.getLast? with | some y => Op.bytesLess y.Key x.Key | none => true))) := by
  simp only [okRows, List.all_append, List.all_cons, List.all_nil, Bool.and_true, rising_snoc]
  cases l.all okRow <;> cases rising l <;> cases okRow x <;> simp
theorem rising_pre : ∀ {l k : List Row}, rising (l ++ k) = true → rising l = true
  | [], _, _ => rfl
  | [_], _, _ => rfl
  | a :: b :: l, k, h => by
    simp only [List.cons_append, rising, Bool.and_eq_true] at h ⊢
    exact ⟨h.1, rising_pre (l := b :: l) h.2⟩
theorem okRows_pre {l k : List Row} (h : okRows (l ++ k) = true) : okRows l = true := by
  simp only [okRows, List.all_append, Bool.and_eq_true] at h ⊢
  exact ⟨h.1.1, rising_pre h.2⟩
end Go.Mir.Q

set_option linter.unusedVariables false
set_option linter.unusedSimpArgs false
namespace Go.Mir.Q
open Go.Mir
def hdr (run n : Int) (i : Nat) (s : List UInt8) : Prop :=
  s.length = 32 ∧ num (s.take 4) = run ∧ num ((s.take 8).drop 4) = n ∧ num ((s.take 10).drop 8) = i ∧ ¬ 1 < ((s[10]?.getD 0).toNat : Int) ∧ ¬ 20 < ((s[11]?.getD 0).toNat : Int)
instance {run n : Int} {i : Nat} {s : List UInt8} : Decidable (hdr run n i s) := inferInstanceAs (Decidable (_ ∧ _))
def body1 (s : List UInt8) : List UInt8 := (s.take (12 + (s[11]?.getD 0).toNat)).drop 12
def one (run n : Int) (L : List (List UInt8)) : List (List UInt8) → Nat → List UInt8 → Record × Nat
  | [], _, _ => (⟨0, []⟩, 0)
  | s :: ss, i, b =>
    if i < 4096 ∧ hdr run n i s then
      (if s[10]?.getD 0 = 1 then
        (match take (b ++ body1 s) with
        | some r => if cuts run n (spelt r) = L.take (i + 1) then (r, i + 1) else (⟨0, []⟩, 0)
        | none => (⟨0, []⟩, 0))
      else one run n L ss (i + 1) (b ++ body1 s))
    else (⟨0, []⟩, 0)
end Go.Mir.Q

set_option linter.unusedVariables false
namespace Go.Mir
open Go Go.Proofs Go.Shelf
section
open Go.RowKit Go.Lib
variable {P : Program} {ρ : Ren}
set_option maxHeartbeats 2000000 in
set_option maxRecDepth 100000 in
theorem clone_empty (L : SlLaysE0.n41 P ρ) (i0 : TypeInfo) (z : Value) (size bytes : Nat) (hi : P.info? (ρ.t 23) = some i0) (hz0 : i0.zero = some z) (hz1 : i0.size = size) (hz2 : i0.bytes = bytes) (hzs : z.cells.size = size) (hsz : 0 < size)
    (z23 : ∀ w, (Go.sizeOf (ρ.t 23)).run P w = .ok size w) (a : Addr) (c : Nat) (w : World) :
    Calls P (ρ.f 41) #[.slice (some a) 0 c] w fun e w' => ∃ v', e = .returned v' ∧ w'.ownsRow w.heap.size (ρ.t 23) size v' 0 [] ∧ Below w.heap.size w w' := by
  have mixed := L.mixed; have t4 := L.t4; have a4 := L.a4; have z4 := L.z4; have v4 := L.v4; have t22 := L.t22; have a22 := L.a22; have z22 := L.z22; have v22 := L.v22
  have q22 : ∀ (w : World) (a : Option Addr) (n c n' c' : Nat), (binOp .eql (ρ.t 22) (.slice a n c) (.slice none n' c')).run P w = .ok (.bool a.isNone) w := fun w a n c n' c' => Lib.run_eql_slice_nil w _ _ a n c n' c' L.t22
  have u22 : ∀ w, Sem.run P (underlying (ρ.t 22)) w = .ok (TypeDesc.slice (ρ.t 23)) w := run_underlying t22
  obtain ⟨_, _, FG⟩ := L.f41
  go_enter FG, SlBodyN.n41_ntmps ρ
  go_wp2_with (at_builtin; refine wpList_append_own _ rfl _ _ (ρ.t 22) rfl w.heap.size (ρ.t 23) i0 z size bytes t22 hi hz0 hz1 hz2 hzs hsz _ _ _ rfl (World.ownsRow_made w #[] 0 (Nat.le_refl _) (Nat.zero_le _) (by simp)) a 0 c [] rfl ?qc1 ?qc2 ?qc3 ?qc4 ?qc5 ?qc6 ?_)
  case qc1 => simp
  case qc2 => simp
  case qc3 => simp
  case qc4 => simp [maxLen]
  case qc5 => simp
  case qc6 => simp
  intro v' w1 hown hgrow hnil
  go_wp2
  go_ret
  refine ⟨v', rfl, by simpa using hown, ?_⟩
  exact ((Below.refl _ w).alloc (Nat.le_refl _) _).grown hgrow (by simp) (by intro k hk; simp [Value.ownBlock] at hk; omega)
end
def cloneGiven (P : Program) (el : Nat) : List PM × (List T → Option Res) := ([.ro], fun
  | [.vs false [.d (.sl xs)]] =>
    if xs.all (fun c => c.length == P.cellsOf el) = true ∧ xs.length * P.bytesOf el ≤ 140737488355328 ∧ xs.length ≤ 140737488355328 then some (.one (.own el (xs.map (·.map .d))), []) else none
  | _ => none)
theorem clone_ok {P : Program} {ρ : Ren} (L : SlLaysE0.n41 P ρ) {i0 : TypeInfo} {z : Value} (hi : P.info? (ρ.t 23) = some i0) (hz0 : i0.zero = some z) (hzs : z.cells.size = i0.size) (hsz : 0 < i0.size)
    (z23 : ∀ w, (Go.sizeOf (ρ.t 23)).run P w = .ok i0.size w) (hfn : ∃ fn, P.funcs[ρ.f 41]? = some fn ∧ (fn.name == "runtime.NumGoroutine") = false ∧ fn.body.isNone = false)
    {pm : FuncId → List PM} (hpm : pm (ρ.f 41) = [.ro]) {args : List T} {r : Res} (h : (cloneGiven P (ρ.t 23)).2 args = some r) : CallR P pm (ρ.f 41) args r := by
  simp only [cloneGiven] at h
  split at h
  case h_2 => cases h
  rename_i xs
  split at h
  case isFalse => cases h
  rename_i hc
  obtain ⟨hall, hby, hln⟩ := hc
  cases h
  have hcs : P.cellsOf (ρ.t 23) = i0.size := by simp [Program.cellsOf, hi]
  have hbs : P.bytesOf (ρ.t 23) = i0.bytes := by simp [Program.bytesOf, hi]
  refine ⟨hfn, rfl, fun X w us Fa hX hl ha hd hx => ?_⟩
  match us, hl with
  | [u], _ =>
    have h0 := VS.toOne (ha 0 _ u rfl rfl)
    cases h0 with
    | blk _ hh => simp [Shape] at hh
    | d _ hro =>
      obtain ⟨A, c, rfl, us, hown, hr⟩ := RO.elems (P := P) hro
      by_cases hxne : xs = []
      · subst hxne
        clear hr
        cases A with
        | none =>
          refine (AnyE.slices_Clone_nil L 0 c w).mono fun en w' ⟨he, hw⟩ => ?_
          subst hw
          refine ⟨_, he, Grow.refl _ _, No, No, VS.ofOne (.nil fun _ h => h), ?_, fun _ h _ => h, fun b h => by rcases h with h | h <;> exact h.elim⟩
          rw [hpm]; exact ⟨rfl, fun _ => No, fun j v u h => by simp at h, fun i j b h => by simp at h, fun b => ⟨fun h => h.elim, fun ⟨_, _, h⟩ => h.elim⟩⟩
        | some a =>
          have := clone_empty L i0 z i0.size i0.bytes hi hz0 rfl rfl hzs hsz z23 a c w
          refine this.mono fun en w' ⟨v', he, hrow, hbel⟩ => ?_
          obtain ⟨hl1, hrow⟩ := hrow
          rcases hrow with ⟨rfl, _⟩ | ⟨g, cap, cur, rfl, hg1, hg2, hcap, hmax, hcur, hcells⟩
          · refine ⟨_, he, ⟨hbel.os, hbel.tape, hbel.output, hbel.size, fun k hk _ => hbel.block k hk⟩, No, No, VS.ofOne (.nil fun _ h => h), ?_, fun _ h _ => h, fun b h => by rcases h with h | h <;> exact h.elim⟩
            rw [hpm]; exact ⟨rfl, fun _ => No, fun j v u h => by simp at h, fun i j b h => by simp at h, fun b => ⟨fun h => h.elim, fun ⟨_, _, h⟩ => h.elim⟩⟩
          · refine ⟨_, he, ⟨hbel.os, hbel.tape, hbel.output, hbel.size, fun k hk _ => hbel.block k hk⟩, (fun b => b = g), No, ?_, ?_, fun _ h h2 => h2, fun b h => ?_⟩
            · exact VS.ofOne (.blk (fun _ => No) (vs := []) ⟨rfl, rfl, by omega, by simp, rfl, cap, by simp, by simp, hmax, by rw [hcs]; exact hcur⟩ hg2 (by simp) (by simp) (by simp) (fun b => ⟨.inl, fun h => h.elim id fun ⟨_, h, _⟩ => by simp at h⟩))
            · rw [hpm]; exact ⟨rfl, fun _ => No, fun j v u h => by simp at h, fun i j b h => by simp at h, fun b => ⟨fun h => h.elim, fun ⟨_, _, h⟩ => h.elim⟩⟩
            · rcases h with rfl | h
              · exact ⟨fun hh => by have := hX _ hh; omega, .inr hg1⟩
              · exact h.elim
      rcases hr with rfl | ⟨b, of, sz, hsz0, rfl, hlen, hok, hul, hlc, hcell, hel⟩
      · exact (hxne rfl).elim
      have hsze : sz = i0.size := by
        obtain ⟨x, r, rfl⟩ : ∃ x r, xs = x :: r := by cases xs with | nil => exact (hxne rfl).elim | cons x r => exact ⟨x, r, rfl⟩
        have h1 := hlen x (by simp)
        have h2 := List.all_eq_true.1 hall x (by simp)
        simp [hcs] at h2
        omega
      subst hsze
      have := AnyE.slices_Clone L i0 z i0.size i0.bytes hi hz0 rfl rfl hzs hsz z23 b of xs.length c us w hul (by simp only [maxLen]; omega) (by rw [← hbs]; exact hby) hcell hown.one
      refine this.mono fun en w' ⟨v', he, hrow, hnn, hbel⟩ => ?_
      obtain ⟨hl1, hrow⟩ := hrow
      rcases hrow with ⟨rfl, _⟩ | ⟨g, cap, cur, rfl, hg1, hg2, hcap, hmax, hcur, hcells⟩
      · exact absurd rfl hnn
      refine ⟨_, he, ⟨hbel.os, hbel.tape, hbel.output, hbel.size, fun k hk _ => hbel.block k hk⟩, (fun b => b = g), No, ?_, ?_, fun _ h h2 => h2, fun b h => ?_⟩
      · have hfl : (xs.map (·.map V.d)).flatten = xs.flatten.map V.d := by rw [List.map_flatten]
        refine VS.ofOne (.blk (fun _ => No) (vs := (xs.map (·.map V.d)).flatten) ⟨rfl, rfl, by omega, fun c hc => ?_, rfl, cap, by rw [List.length_map], by rw [List.length_map]; exact hcap, hmax, by rw [hcs]; exact hcur⟩ hg2 (fun j v u hv hu => ?_) (fun _ _ _ _ _ _ h => h.elim) (fun _ _ h => h) (fun b => ⟨.inl, fun h => h.elim id fun ⟨_, _, h⟩ => h.elim⟩))
        · obtain ⟨d, hd, rfl⟩ := List.mem_map.1 hc
          have := List.all_eq_true.1 hall d hd
          simpa using this
        · rw [hfl, List.getElem?_map] at hv
          obtain ⟨y, hy, rfl⟩ := Option.map_eq_some_iff.1 hv
          have hj : j < xs.length * i0.size := by
            have h1 := (List.getElem?_eq_some_iff.1 hy).1
            have h2 : xs.flatten.length = xs.length * i0.size := flat_len hlen
            omega
          have hu2 : us[j]? = some u := by
            rw [← hcells, List.getElem?_take, if_pos hj]
            simpa using hu
          refine .d (fun _ h => h) ((hel j y u hy hu2).mono fun k hk hkl => ⟨⟨hk.1, fun hh => by omega, fun h => h⟩, hbel.block k hkl⟩)
      · rw [hpm]; exact ⟨rfl, fun _ => No, fun j v u h => by simp at h, fun i j b h => by simp at h, fun b => ⟨fun h => h.elim, fun ⟨_, _, h⟩ => h.elim⟩⟩
      · rcases h with rfl | h
        · exact ⟨fun hh => by have := hX _ hh; omega, .inr hg1⟩
        · exact h.elim
end Go.Mir

set_option linter.unusedVariables false
namespace Go.Mir.Tryz
open Go Go.Proofs Go.Shelf
def repF : Nat → Nat
  | 99 => 117 | 105 => 97 | 165 => 118 | 166 => 119 | 169 => 121 | 170 => 120 | 206 => 130 | 212 => 116 | 240 => 131 | 241 => 132 | 263 => 128 | 264 => 129 | 276 => 139 | 277 => 140 | n => n
def repT : Nat → Nat
  | 0 => 0 | 3 => 3 | 4 => 4 | 5 => 5 | 9 => 9 | 20 => 20 | 37 => 45 | 46 => 94 | 51 => 179 | 53 => 182 | 70 => 165 | 72 => 167 | 75 => 170 | 76 => 171 | 80 => 174 | 109 => 162 | 127 => 185 | 146 => 180 | 148 => 183 | 164 => 193 | n => n
def repRen : Ren := ⟨repF, repT, fun n => n⟩
theorem repLays : Lays.n105 Tryz.prog repRen := by
  constructor <;> intros <;> kernel_rfl
theorem repExtra : Builder.Extra Tryz.prog repRen := by
  constructor
  · constructor <;> intros <;> kernel_rfl
  all_goals first
    | (intros; kernel_rfl)
    | (intro h; exact absurd h (by decide))
theorem repeatL_eq (l : List UInt8) (n : Nat) : Lib.repeatL l n = (List.replicate n l).flatten := by
  induction n with
  | zero => rfl
  | succ n ih => simp [Lib.repeatL, ih, List.replicate_succ]
def repGiven : List PM × (List T → Option Res) := ([.ro, .ro], fun
  | [.vs false [.d (.sc (.string s))], .vs false [.d (.sc (.int .i64 c))]] =>
    if 0 ≤ c ∧ s.size * c.toNat ≤ 140737488355328 ∧ c ≤ 9223372036854775807 then some (.str (bs (List.replicate c.toNat s.data.toList).flatten), []) else none
  | _ => none)
theorem sc_of {P : Program} {w : World} {ok : Nat → Prop} {v u : Value} {F : Nat → Prop} (h : TRe P w ok (.vs false [.d (.sc v)]) u F) : u = v := by
  obtain ⟨_, hl, Fc, g1, _, _⟩ := h
  have := g1 0 _ u rfl (by simp [cellsOf])
  cases this with
  | d _ hr => cases hr; rfl
  | blk _ hh => simp [Shape] at hh
theorem of_sc {P : Program} {w : World} {ok : Nat → Prop} {v : Value} (hv : plain v = true) : TRe P w ok (.vs false [.d (.sc v)]) v No :=
  ⟨fun h => (by cases h), by simp [cellsOf], fun _ => No, fun j x u hx hu => by
    cases j with
    | zero =>
      simp [cellsOf] at hx hu
      subst hx; subst hu
      exact .d (fun _ h => h) (.sc hv)
    | succ j => simp at hx, fun _ _ _ _ _ _ h => h.elim, fun b => ⟨fun h => h.elim, fun ⟨_, _, h⟩ => h.elim⟩⟩
theorem own_none {P : Program} {w : World} {ok : Nat → Prop} : OwnL P w ok [] [] No :=
  ⟨rfl, fun _ => No, fun j v u h => by simp at h, fun i j b h => by simp at h, fun b => ⟨fun h => h.elim, fun ⟨_, _, h⟩ => h.elim⟩⟩
theorem rep_ok {pm : FuncId → List PM} (hpm : pm 97 = [.ro, .ro]) {args : List T} {r : Res} (h : repGiven.2 args = some r) : CallR Tryz.prog pm 97 args r := by
  simp only [repGiven] at h
  split at h
  case h_2 => cases h
  rename_i s c
  split at h
  case isFalse => cases h
  rename_i hc
  obtain ⟨h0, h1, h2⟩ := hc
  cases h
  refine ⟨⟨_, Tryz.func97, by kernel_rfl, by kernel_rfl⟩, rfl, fun X w us Fa hX hl ha hd hx => ?_⟩
  match us, hl with
  | [u, v], _ =>
    obtain rfl := sc_of (ha 0 _ u rfl rfl)
    obtain rfl := sc_of (ha 1 _ v rfl rfl)
    obtain ⟨n, rfl⟩ := Int.eq_ofNat_of_zero_le h0
    have := Any.strings_Repeat repLays repExtra s n w (by omega) (by simpa using h1)
    refine this.mono fun en w' ⟨he, hb⟩ => ?_
    refine ⟨_, he, ⟨hb.os, hb.tape, hb.output, hb.size, fun k hk _ => hb.block k hk⟩, No, No, ?_, ?_, fun _ h _ => h, fun b h => by rcases h with h | h <;> exact h.elim⟩
    · have e : (bs (List.replicate (n : Int).toNat s.data.toList).flatten) = ⟨(Lib.repeatL s.data.toList n).toArray⟩ := by rw [repeatL_eq]; rfl
      rw [e]
      exact of_sc rfl
    · rw [hpm]; exact own_none
end Go.Mir.Tryz

set_option linter.unusedVariables false
set_option linter.unusedSimpArgs false
namespace Go.Mir.Tryz
open Go Go.Proofs Go.Shelf
def cloRen (f s t : Nat) : Ren := ⟨fun n => if n = 41 then f else n, fun n => if n = 22 then s else if n = 23 then t else n, fun n => n⟩
theorem cloS : SlLaysE0.n41 Tryz.prog (cloRen 88 24 9) := by
  constructor
  all_goals first
    | (intros; kernel_rfl)
    | exact ⟨_, by kernel_rfl, by kernel_rfl⟩
    | exact ⟨"slices.Clone[[]string,string]", by decide, by kernel_rfl⟩
theorem cloP : SlLaysE0.n41 Tryz.prog (cloRen 89 33 72) := by
  constructor
  all_goals first
    | (intros; kernel_rfl)
    | exact ⟨_, by kernel_rfl, by kernel_rfl⟩
    | exact ⟨"slices.Clone[[]quorum/api.Put,quorum/api.Put]", by decide, by kernel_rfl⟩
def infoOk (P : Program) (t : Nat) : Bool := match P.info? t with
  | some i => match i.zero with
    | some z => z.cells.size == i.size && decide (0 < i.size)
    | none => false
  | none => false
theorem clone_ok' {P : Program} {f s t : Nat} (L : SlLaysE0.n41 P (cloRen f s t)) (hi : infoOk P t = true) (hfn : ∃ fn, P.funcs[f]? = some fn ∧ (fn.name == "runtime.NumGoroutine") = false ∧ fn.body.isNone = false)
    {pm : FuncId → List PM} (hpm : pm f = [.ro]) {args : List T} {r : Res} (h : (cloneGiven P t).2 args = some r) : CallR P pm f args r := by
  unfold infoOk at hi
  split at hi
  · rename_i i hi0
    split at hi
    · rename_i z hz
      simp only [Bool.and_eq_true, beq_iff_eq, decide_eq_true_eq] at hi
      have hi1 : P.info? ((cloRen f s t).t 23) = some i := hi0
      exact clone_ok L hi1 hz hi.1 hi.2 (fun w => by simp [Go.sizeOf, typeInfo, hi1]) hfn hpm h
    · cases hi
  · cases hi
theorem cloS_ok {pm : FuncId → List PM} (hpm : pm 88 = [.ro]) {args : List T} {r : Res} (h : (cloneGiven Tryz.prog 9).2 args = some r) : CallR Tryz.prog pm 88 args r :=
  clone_ok' cloS (by decide +kernel) ⟨_, Tryz.func88, by kernel_rfl, by kernel_rfl⟩ hpm h
theorem cloP_ok {pm : FuncId → List PM} (hpm : pm 89 = [.ro]) {args : List T} {r : Res} (h : (cloneGiven Tryz.prog 72).2 args = some r) : CallR Tryz.prog pm 89 args r :=
  clone_ok' cloP (by decide +kernel) ⟨_, Tryz.func89, by kernel_rfl, by kernel_rfl⟩ hpm h
end Go.Mir.Tryz

set_option maxRecDepth 100000
namespace Go.Mir.Tryz
open Go.Proofs
def g4 : VG := [(1,[37,41,42,51,52,54,55,59,60,63,64,69,70,72,73,75,76,79,80,85,91,92,94,95,99,100,103,104,113,114,123,124,126,141,142,168,169,171,172,180,181,184,185,214,215,216,222,223,225,226,227,228,229,238,239,240,242,243,256,257,258,260,261,269,270,279,280,282,297,298,325,326,328,329]),(4,[133,289]),(5,[98,237]),(6,[176,208,336]),(8,[128,135,200]),(10,[109]),(13,[140,147]),(14,[154]),(15,[158]),(16,[167,179]),(17,[175,188]),(19,[163]),(22,[251,264,284,291,358]),(23,[255,343,349,364]),(25,[252]),(26,[254]),(27,[248]),(30,[296,303]),(31,[310]),(32,[314]),(33,[324]),(34,[334,341,348,350,362]),(36,[319])]
def a4 : FAnn := { pm := [.ro],rt := g4.un,regs := [(0,{ keep := some [1] }),(1,{ md := [(1,.cp)],keep := some [1,38] }),(2,{ keep := some [2] }),(3,{ keep := some [1,3] }),(4,{ keep := some [1,3,48] }),(6,{ md := [(5,.cp),(14,.cp)],keep := some [1,3,83],dr := [(false,[1]),(false,[1,51]),(false,[3]),(false,[1,52,53]),(false,[1,54]),(false,[1,55]),(false,[56]),(false,[57]),(false,[1,58]),(false,[1,58,59]),(false,[3,58]),(false,[58,61]),(false,[1,58,60,62]),(false,[1,58,63]),(false,[1,58,64]),(false,[58,65]),(false,[58,66]),(false,[67]),(false,[1,68]),(false,[1,68,69]),(false,[3,68]),(false,[1,68,70,71]),(false,[1,68,72]),(false,[1,68,73]),(false,[1,68]),(false,[1,68,75]),(false,[3,68]),(false,[68,77]),(false,[1,68,76,78]),(false,[1,68,79]),(false,[1,68,80]),(false,[68,74,81]),(false,[68,82])],cl := [[],[0],[],[0,1,2],[0,1,2,3],[0,1,2,3,4],[0,1,2,3,4,5],[0,1,2,3,4,5,6],[0,1,2,3,4,5,6,7],[0,1,2,3,4,5,6,7,8],[0,1,2,3,4,5,6,7],[0,1,2,3,4,5,6,7,10],[0,1,2,3,4,5,6,7,8,9,10,11],[0,1,2,3,4,5,6,7,8,9,10,11,12],[0,1,2,3,4,5,6,7,8,9,10,11,12,13],[0,1,2,3,4,5,6,7,8,9,10,11,12,13,14],[0,1,2,3,4,5,6,7,8,9,10,11,12,13,14,15],[0,1,2,3,4,5,6,7,8,9,10,11,12,13,14,15,16],[0,1,2,3,4,5,6,7,8,9,10,11,12,13,14,15,16,17],[0,1,2,3,4,5,6,7,8,9,10,11,12,13,14,15,16,17,18],[0,1,2,3,4,5,6,7,8,9,10,11,12,13,14,15,16,17],[0,1,2,3,4,5,6,7,8,9,10,11,12,13,14,15,16,17,18,19,20],[0,1,2,3,4,5,6,7,8,9,10,11,12,13,14,15,16,17,18,19,20,21],[0,1,2,3,4,5,6,7,8,9,10,11,12,13,14,15,16,17,18,19,20,21,22],[0,1,2,3,4,5,6,7,8,9,10,11,12,13,14,15,16,17],[0,1,2,3,4,5,6,7,8,9,10,11,12,13,14,15,16,17,24],[0,1,2,3,4,5,6,7,8,9,10,11,12,13,14,15,16,17],[0,1,2,3,4,5,6,7,8,9,10,11,12,13,14,15,16,17,26],[0,1,2,3,4,5,6,7,8,9,10,11,12,13,14,15,16,17,24,25,26,27],[0,1,2,3,4,5,6,7,8,9,10,11,12,13,14,15,16,17,24,25,26,27,28],[0,1,2,3,4,5,6,7,8,9,10,11,12,13,14,15,16,17,24,25,26,27,28,29],[0,1,2,3,4,5,6,7,8,9,10,11,12,13,14,15,16,17,18,19,20,21,22,23,24,25,26,27,28,29,30],[0,1,2,3,4,5,6,7,8,9,10,11,12,13,14,15,16,17,18,19,20,21,22,23,24,25,26,27,28,29,30,31]] }),(7,{ md := [(2,.cp),(3,.tk)],keep := some [1,3,4,5,6] }),(8,{ keep := some [1,3,4,5,6,7] }),(9,{ md := [(7,.cp),(8,.tk)],keep := some [1,3,4,5,6,7,8,10],dr := [(false,[5]),(false,[1]),(false,[1,99]),(false,[3]),(false,[101]),(false,[1,100,102]),(false,[1,103]),(false,[1,5,98,104]),(true,[97,105]),(true,[97,106]),(true,[97,107]),(true,[97,108]),(false,[]),(true,[8,106,128,135,200]),(true,[9,107]),(true,[10,108,109])],cl := [[],[],[1],[],[3],[1,2,3,4],[1,2,3,4,5],[0,1,2,3,4,5,6],[0,1,2,3,4,5,6,7],[0,1,2,3,4,5,6,7,8],[0,1,2,3,4,5,6,7,8],[0,1,2,3,4,5,6,7,8],[],[0,1,2,3,4,5,6,7,8,9,12],[0,1,2,3,4,5,6,7,8,9,10,12,13],[0,1,2,3,4,5,6,7,8,9,10,11,12,13,14]] }),(10,{ md := [(1,.cp)],keep := some [1,3,4,5,6,7,8,111] }),(11,{ keep := some [2] }),(12,{ keep := some [1,3,4,5,6,7,8,11] }),(13,{ keep := some [1,3,4,5,6,7,8,11,120] }),(15,{ md := [(8,.cp)],keep := some [1,3,4,5,6,7,8,11,12] }),(16,{ md := [(3,.cp),(4,.tk)],keep := some [1,3,4,5,6,7,8,11,12,13,14] }),(17,{ md := [(3,.cp),(4,.tk)],keep := some [1,3,4,5,6,7,8,11,12,13,14,15] }),(18,{ md := [(2,.cp),(3,.tk)],keep := some [1,3,4,5,6,7,8,11,12,14,15,16,17,19] }),(19,{ md := [(1,.cp),(5,.cp),(10,.cp)],keep := some [1,3,4,5,6,7,8,11,12,16,17,166] }),(20,{ keep := some [2] }),(21,{ md := [(6,.cp),(7,.tk),(10,.cp)],keep := some [1,3,4,5,6,7,8,11,12,16,17,20] }),(22,{ md := [(7,.cp),(8,.tk)],keep := some [1,3,4,5,6,7,8,11,12,20,21] }),(23,{ keep := some [1,3,4,5,6,7,8,11,207] }),(24,{ keep := some [2] }),(14,{ keep := some [1,3,4,5,6,7,8,11] }),(25,{ keep := some [1,3,4,5,6,7,22] }),(26,{ md := [(1,.cp)],keep := some [1,3,4,5,6,7,22,23] }),(27,{ keep := some [1,3,4,5,6,7,22,23,24] }),(28,{ keep := some [1,3,4,5,6,7,22,23,24,219] }),(30,{ md := [(11,.cp),(12,.cp)],keep := some [1,3,4,5,6,7,22,23,24,235],dr := [(false,[1]),(false,[1,222]),(false,[3]),(false,[1,223,224]),(false,[1,225]),(false,[1]),(false,[1,227]),(false,[1,228]),(false,[24]),(false,[24]),(false,[231]),(false,[1,229,230,232]),(false,[1,226,233]),(false,[234])],cl := [[],[0],[],[0,1,2],[0,1,2,3],[],[5],[5,6],[],[],[9],[5,6,7,8,9,10],[0,1,2,3,4,5,6,7,8,9,10,11],[0,1,2,3,4,5,6,7,8,9,10,11,12]] }),(31,{ md := [(7,.cp),(8,.tk)],keep := some [1,3,4,5,6,7,22,23,24,25,26,27],dr := [(false,[5]),(false,[1]),(false,[1,238]),(false,[1,239]),(false,[24]),(false,[1,240,241]),(false,[1,242]),(false,[1,5,237,243]),(true,[236,244]),(true,[236,245]),(true,[236,246]),(true,[236,247]),(false,[]),(true,[25,245,252]),(true,[26,246,254]),(true,[27,247,248])],cl := [[],[],[1],[1,2],[],[1,2,3,4],[1,2,3,4,5],[0,1,2,3,4,5,6],[0,1,2,3,4,5,6,7],[0,1,2,3,4,5,6,7,8],[0,1,2,3,4,5,6,7,8],[0,1,2,3,4,5,6,7,8],[],[0,1,2,3,4,5,6,7,8,9,12],[0,1,2,3,4,5,6,7,8,9,10,12,13],[0,1,2,3,4,5,6,7,8,9,10,11,12,13,14]] }),(32,{ md := [(1,.cp)],keep := some [1,3,4,5,6,7,22,23,24,25,26,250] }),(33,{ keep := some [1,3,4,5,6,7,22,23,24,26] }),(34,{ keep := some [1,3,4,5,6,7,22,23,24] }),(35,{ keep := some [1,3,4,5,6,7,22,23,24] }),(29,{ keep := some [1,3,4,5,6,7,22,23,24] }),(36,{ keep := some [1,3,4,6,7,22,23] }),(37,{ keep := some [1,3,4,6,7,22,23,28] }),(38,{ keep := some [1,3,4,6,7,22,23,28,276] }),(40,{ md := [(8,.cp)],keep := some [1,3,4,6,7,22,23,28,29] }),(41,{ md := [(3,.cp),(4,.tk)],keep := some [1,3,4,6,7,22,23,28,29,30,31] }),(42,{ md := [(3,.cp),(4,.tk)],keep := some [1,3,4,6,7,22,23,28,29,30,31,32] }),(43,{ md := [(2,.cp),(3,.tk)],keep := some [1,3,4,6,7,22,23,28,29,31,32,33,34,36] }),(44,{ md := [(1,.cp),(5,.cp),(10,.cp),(20,.cp),(39,.fz),(42,.cp),(43,.cp)],keep := some [1,3,4,6,7,22,23,28,368] }),(45,{ keep := some [2] }),(39,{ keep := some [1,3,4,6,7,22,23,28] }),(5,{ keep := some [1,3] }),(46,{ md := [(0,.cp)],keep := some [2] })] }
def g6 : VG := [(1,[5,6,8,9,12,13,16,17,21,22,32,33,35,36,42,43])]
def a6 : FAnn := { pm := [.ro],rt := g6.un,regs := [(0,{ keep := some [1] }),(1,{ keep := some [1,3] }),(2,{ keep := some [1,3,4] }),(3,{ keep := some [1,3,4,28] }),(5,{ md := [(6,.cp)],keep := some [1,3,4] }),(4,{ keep := some [1,3,4] }),(6,{ md := [(5,.cp)],keep := some [2] })] }
def g7 : VG := [(3,[10,11,15,16])]
def a7 : FAnn := { pm := [.ro],rt := g7.un,regs := [(0,{ keep := some [0,2] }),(1,{ keep := some [0,2,3] }),(2,{ keep := some [0,2,3,4] }),(3,{ keep := some [0,2,3,4,7] }),(5,{ md := [(2,.cp)],keep := some [0,2,3,4],dr := [(false,[3]),(false,[3,10]),(false,[]),(true,[12,13]),(true,[3,10,11,13,14,15,16]),(false,[3]),(true,[3,10,11,14,15,16])],cl := [[],[0],[],[2],[0,1,2,3],[0,1,2,3,4],[0,1,2,3,4,5]] }),(4,{ keep := some [0,2,3,4] }),(6,{ keep := some [2] })] }
def g8 : VG := []
def a8 : FAnn := { pm := [.ro],rt := g8.un,regs := [(0,{ keep := some [0] }),(1,{ md := [(1,.cp),(2,.tk),(9,.cp)],keep := some [2] })] }
def g9 : VG := [(2,[23,24,26,27,39,40,41,50,51,53,54,55,56,57,66,67,68,70,71,86,87,88,90,91]),(7,[34]),(8,[65,97]),(10,[79,94]),(12,[6,85,98]),(14,[80]),(15,[84])]
def a9 : FAnn := { pm := [.ro,.ro],rt := g9.un,regs := [(0,{ keep := some [1,2,4,5] }),(1,{ md := [(10,.cp),(11,.tk)],keep := some [1,2,4,5,7,8] }),(2,{ md := [(0,.cp),(3,.tk)],keep := some [1,2,4,5,8,10] }),(3,{ keep := some [1,2,4,5,8,10,12] }),(4,{ keep := some [1,2,4,5,8,10,12,13] }),(5,{ keep := some [1,2,4,5,8,10,12,13,47] }),(7,{ md := [(11,.cp),(12,.cp)],keep := some [1,2,4,5,8,10,12,13,63],dr := [(false,[2]),(false,[2,50]),(false,[1]),(false,[2,51,52]),(false,[2,53]),(false,[2]),(false,[2,55]),(false,[2,56]),(false,[13]),(false,[13]),(false,[59]),(false,[2,57,58,60]),(false,[2,54,61]),(false,[62])],cl := [[],[0],[],[0,1,2],[0,1,2,3],[],[5],[5,6],[],[],[9],[5,6,7,8,9,10],[0,1,2,3,4,5,6,7,8,9,10,11],[0,1,2,3,4,5,6,7,8,9,10,11,12]] }),(8,{ md := [(7,.cp),(8,.tk)],keep := some [1,2,4,5,8,10,12,13,14,15,16],dr := [(false,[8]),(false,[2]),(false,[2,66]),(false,[2,67]),(false,[13]),(false,[2,68,69]),(false,[2,70]),(false,[2,8,65,71]),(true,[64,72]),(true,[64,73]),(true,[64,74]),(true,[64,75]),(false,[]),(true,[14,73,80]),(true,[15,74,84]),(true,[16,75])],cl := [[],[],[1],[1,2],[],[1,2,3,4],[1,2,3,4,5],[0,1,2,3,4,5,6],[0,1,2,3,4,5,6,7],[0,1,2,3,4,5,6,7,8],[0,1,2,3,4,5,6,7,8],[0,1,2,3,4,5,6,7,8],[],[0,1,2,3,4,5,6,7,8,9,12],[0,1,2,3,4,5,6,7,8,9,10,12,13],[0,1,2,3,4,5,6,7,8,9,10,11,12,13,14]] }),(9,{ keep := some [1,2,4,5,8,10,12,13,14,15,77] }),(10,{ md := [(3,.tk)],keep := some [1,2,4,5,8,10,12,13,15] }),(11,{ keep := some [1,2,4,5,8,10,12,13] }),(12,{ keep := some [1,2,4,5,8,10,12,13] }),(6,{ keep := some [1,2,4,5,8,10,12,13] }),(13,{ md := [(2,.cp)],keep := some [4,5,6,12],dr := [(false,[10]),(true,[95]),(false,[10,94,95]),(false,[8]),(false,[12]),(true,[4,96]),(true,[5,8,65,97]),(true,[6,12,85,98])],cl := [[],[],[0,1],[],[],[0,1,2],[0,1,2,3,5],[0,1,2,3,4,5,6]] })] }
def g10 : VG := [(1,[4,5,6,9,10]),(3,[8,12,13])]
def a10 : FAnn := { pm := [.ro],rt := g10.un,regs := [(0,{ keep := some [1,2] }),(1,{ keep := some [1,2,3] }),(2,{ md := [(2,.cp)],keep := some [1,2,3] }),(3,{ md := [(2,.cp)],keep := some [2,3] }),(4,{ keep := some [2] })] }
def g11 : VG := []
def a11 : FAnn := { pm := [.ro,.ro],rt := g11.un,regs := [(0,{ keep := some [0,1] }),(1,{ keep := some [4] })] }
def g12 : VG := [(2,[12,16,17,22,23,37,38,39,51,52,76,77]),(4,[91]),(5,[86,92]),(6,[35,47,57,79,89,90,93]),(10,[63])]
def a12 : FAnn := { pm := [.ro,.ro],rt := g12.un,regs := [(0,{ keep := some [1,2,6] }),(1,{ md := [(1,.cp)],keep := some [1,2,6,34] }),(2,{ keep := some [4,5,6,7],dr := [(false,[6]),(true,[4,91]),(true,[5,86,92]),(true,[6,35,47,57,79,89,90,93]),(true,[7])],cl := [[],[],[1],[0,1,2],[0,1,2,3]] }),(3,{ md := [(4,.cp),(5,.tk)],keep := some [1,2,6,8] }),(4,{ keep := some [1,2,6,45] }),(5,{ keep := some [4,5,6,7] }),(6,{ md := [(2,.cp)],keep := some [1,2,6,9] }),(7,{ md := [(5,.cp),(8,.cp),(9,.tk)],keep := some [1,2,6,10,11],dr := [(false,[2]),(false,[2,51]),(false,[9]),(false,[9]),(false,[54]),(false,[2,52,53,55]),(false,[6]),(false,[6,57]),(false,[56,58]),(true,[50,59]),(true,[50,60]),(true,[50,61]),(false,[]),(true,[10,60,63]),(true,[11,61])],cl := [[],[0],[],[],[3],[0,1,2,3,4],[],[6],[0,1,2,3,4,5,6,7],[0,1,2,3,4,5,6,7,8],[0,1,2,3,4,5,6,7,8,9],[0,1,2,3,4,5,6,7,8,9],[],[0,1,2,3,4,5,6,7,8,9,10,12],[0,1,2,3,4,5,6,7,8,9,10,11,12,13]] }),(8,{ md := [(2,.cp),(3,.tk)],keep := some [2,4,6,8,11] }),(9,{ keep := some [2,4,6,73] }),(10,{ keep := some [4,5,6,7] }),(11,{ md := [(2,.cp),(5,.cp),(6,.tk)],keep := some [4,5,6,11],dr := [(false,[2]),(false,[2,76]),(false,[2,77]),(false,[6]),(false,[6,79]),(false,[78,80]),(true,[75,81]),(true,[75,82]),(true,[75,83]),(true,[5,82,86,92]),(true,[11,83])],cl := [[],[0],[0,1],[],[3],[0,1,2,3,4],[0,1,2,3,4,5],[0,1,2,3,4,5,6],[0,1,2,3,4,5,6],[0,1,2,3,4,5,6,7],[0,1,2,3,4,5,6,7,8,9]] }),(12,{ keep := some [4,5,6] }),(13,{ keep := some [4,5,6,7],dr := [(false,[4]),(false,[5]),(false,[6]),(true,[4,91]),(true,[5,86,92]),(true,[6,35,47,57,79,89,90,93]),(true,[7])],cl := [[],[],[],[0],[0,1,3],[0,1,2,3,4],[0,1,2,3,4,5]] })] }
def g14 : VG := []
def a14 : FAnn := { pm := [.ro,.ro,.ro],rt := g14.un,regs := [(0,{ keep := some [0,1,2] }),(1,{ keep := some [6] })] }
def g16 : VG := []
def a16 : FAnn := { pm := [.ro],rt := g16.un,regs := [(0,{ keep := some [0] }),(1,{ keep := some [2] })] }
def g17 : VG := []
def a17 : FAnn := { pm := [.ro,.ro],rt := g17.un,regs := [(0,{ keep := some [0,1] }),(1,{ keep := some [0,1,10] }),(2,{ keep := some [4] }),(3,{ keep := some [0,1,5] }),(4,{ keep := some [0,1,5,14] }),(6,{ md := [(8,.cp)],keep := some [0,1,5,26],dr := [(false,[0]),(false,[5]),(false,[17,18]),(false,[19]),(false,[1]),(false,[5]),(false,[21,22]),(false,[23]),(false,[20,24]),(false,[25])],cl := [[],[],[0,1],[0,1,2],[],[],[4,5],[4,5,6],[0,1,2,3,4,5,6,7],[0,1,2,3,4,5,6,7,8]] }),(7,{ keep := some [4] }),(5,{ keep := some [0,1,5] }),(8,{ keep := some [4] })] }
def g18 : VG := []
def a18 : FAnn := { pm := [.ro,.ro],rt := g18.un,regs := [(0,{ keep := some [0,1] }),(1,{ keep := some [0,1,10] }),(2,{ keep := some [4] }),(3,{ keep := some [0,1,5] }),(4,{ keep := some [0,1,5,14] }),(6,{ md := [(8,.cp)],keep := some [0,1,5,26],dr := [(false,[0]),(false,[5]),(false,[17,18]),(false,[19]),(false,[1]),(false,[5]),(false,[21,22]),(false,[23]),(false,[20,24]),(false,[25])],cl := [[],[],[0,1],[0,1,2],[],[],[4,5],[4,5,6],[0,1,2,3,4,5,6,7],[0,1,2,3,4,5,6,7,8]] }),(7,{ keep := some [4] }),(5,{ keep := some [0,1,5] }),(8,{ keep := some [4] })] }
def g20 : VG := [(1,[15,48]),(2,[22]),(4,[33]),(5,[27]),(6,[37]),(7,[47]),(10,[42])]
def a20 : FAnn := { pm := [],rt := g20.un,regs := [(0,{ keep := some [] }),(1,{ keep := some [1] }),(2,{ md := [(1,.cp),(2,.tk)],keep := some [1,2,4] }),(3,{ md := [(0,.cp),(3,.tk)],keep := some [1,4,5,6] }),(4,{ md := [(1,.cp),(2,.tk)],keep := some [1,4,6,7,10] }),(5,{ md := [(1,.cp),(5,.cp),(10,.cp),(16,.cp)],keep := some [0] })] }
def g21 : VG := [(2,[7,11,14])]
def a21 : FAnn := { pm := [.ro,.ro],rt := g21.un,regs := [(0,{ keep := some [1,2,5] }),(1,{ md := [(1,.cp)],keep := some [1,2,5,9] }),(2,{ keep := some [4,5,6] }),(3,{ md := [(7,.cp)],keep := some [4,5,6] })] }
def g22 : VG := [(3,[11,19,38]),(9,[31]),(10,[7,33,36])]
def a22 : FAnn := { pm := [.ro,.ro,.ro],rt := g22.un,regs := [(0,{ keep := some [1,2,3,6] }),(1,{ md := [(1,.cp)],keep := some [1,2,3,6,17] }),(2,{ keep := some [6,7,10] }),(3,{ md := [(1,.cp)],keep := some [1,2,3,6] }),(4,{ keep := some [1,3,6,21,22,23] }),(5,{ keep := some [1,3,6,21,22,23,24] }),(6,{ keep := some [1,3,6,8,9,21,22,23] }),(7,{ keep := some [1,3,6,9,21,22,23,30] }),(8,{ keep := some [1,3,6,10,21,22,23] }),(9,{ keep := some [1,3,6,10,21,22,23,34] }),(10,{ keep := some [6,7,10] }),(11,{ keep := some [1,3,6,21,22,23] }),(12,{ keep := some [6,7,10] })] }
def g23 : VG := [(2,[8,12,14,15,20,21,36,37,42,44,45]),(7,[38,40])]
def a23 : FAnn := { pm := [.ro,.ro],rt := g23.un,regs := [(0,{ keep := some [1,2,4] }),(1,{ md := [(1,.cp)],keep := some [1,2,4,10] }),(2,{ keep := some [4,5] }),(3,{ md := [(1,.cp)],keep := some [1,2,4] }),(4,{ keep := some [1,2,4,15,16,17] }),(5,{ keep := some [1,2,4,15,16,17,18] }),(6,{ keep := some [1,2,4,6,7,15,16,17] }),(7,{ keep := some [1,2,4,7,15,16,17,35] }),(8,{ keep := some [1,2,4,15,16,17] }),(9,{ keep := some [1,2,4,15,16,17] }),(10,{ keep := some [2,4] }),(11,{ keep := some [4,5] })] }
def g24 : VG := [(3,[2,11,19])]
def a24 : FAnn := { pm := [.ro],rt := g24.un,regs := [(0,{ keep := some [0] }),(1,{ keep := some [0,3] }),(2,{ keep := some [0,3,4] }),(3,{ keep := some [0,3,4,8] }),(5,{ md := [(5,.cp)],keep := some [0,3,4] }),(4,{ keep := some [0,3,4] }),(6,{ keep := some [2,3] })] }
def g25 : VG := []
def a25 : FAnn := { pm := [.ro,.ro],rt := g25.un,regs := [(0,{ keep := some [0,1] }),(1,{ keep := some [0,1,5] }),(2,{ keep := some [0,1,5,10] }),(4,{ md := [(4,.cp)],keep := some [0,1,5,18] }),(5,{ keep := some [4] }),(6,{ keep := some [0,1,5,6] }),(7,{ keep := some [0,1,5,6,26] }),(9,{ keep := some [0,1,5,6,40] }),(10,{ keep := some [4] }),(8,{ keep := some [0,1,5,6] }),(3,{ keep := some [0,1,5] }),(11,{ md := [(1,.cp)],keep := some [4] })] }
def g26 : VG := [(2,[8,17,23,25,30,35,39,44,47,48,50]),(3,[12,22]),(4,[49]),(7,[28,37,41])]
def a26 : FAnn := { pm := [.ro,.ro],rt := g26.un,regs := [(0,{ keep := some [2,3,5] }),(1,{ md := [(1,.cp),(5,.cp)],keep := some [2,3,5,15] }),(2,{ keep := some [4,5,6] }),(3,{ keep := some [2,3,5,20] }),(4,{ keep := some [4,5,6] }),(5,{ md := [(5,.cp)],keep := some [2,5,7] }),(6,{ keep := some [2,5,7,33] }),(7,{ keep := some [4,5,6] }),(8,{ keep := some [2,4,5,7] }),(9,{ keep := some [2,4,5] }),(10,{ keep := some [4,5,6],dr := [(false,[4]),(false,[2]),(true,[4,49]),(true,[2,5,8,17,23,25,30,35,39,44,47,48,50]),(true,[6])],cl := [[],[],[0],[0,1,2],[0,1,2,3]] })] }
def g28 : VG := []
def a28 : FAnn := { pm := [.ro],rt := g28.un,regs := [(0,{ keep := some [0] }),(1,{ keep := some [0,3] }),(2,{ keep := some [0,3,4] }),(3,{ keep := some [0,3,4,15] }),(5,{ keep := some [0,3,4] }),(6,{ keep := some [0,3,4,5] }),(7,{ keep := some [0,3,4,5,35] }),(9,{ keep := some [0,3,4,5],dr := [(false,[3]),(false,[0]),(false,[4]),(false,[39,40]),(false,[41]),(false,[5]),(false,[42,43]),(false,[44]),(false,[45]),(false,[46]),(false,[0]),(false,[4]),(false,[48,49]),(false,[50]),(false,[5]),(false,[51,52]),(false,[53]),(false,[54]),(false,[55]),(false,[47,56]),(false,[57]),(false,[38,58]),(true,[3,59])],cl := [[],[],[],[1,2],[1,2,3],[],[1,2,3,4,5],[1,2,3,4,5,6],[1,2,3,4,5,6,7],[1,2,3,4,5,6,7,8],[],[],[10,11],[10,11,12],[],[10,11,12,13,14],[10,11,12,13,14,15],[10,11,12,13,14,15,16],[10,11,12,13,14,15,16,17],[1,2,3,4,5,6,7,8,9,10,11,12,13,14,15,16,17,18],[1,2,3,4,5,6,7,8,9,10,11,12,13,14,15,16,17,18,19],[0,1,2,3,4,5,6,7,8,9,10,11,12,13,14,15,16,17,18,19,20],[0,1,2,3,4,5,6,7,8,9,10,11,12,13,14,15,16,17,18,19,20,21]] }),(8,{ keep := some [0,3,4,5] }),(4,{ keep := some [0,3,4] }),(10,{ keep := some [2] })] }
def g29 : VG := [(1,[5,6,9,10,13,14,17,18,22,23,33,34,36,37])]
def a29 : FAnn := { pm := [.ro],rt := g29.un,regs := [(0,{ keep := some [1] }),(1,{ md := [(2,.cp),(6,.cp)],keep := some [1,3],dr := [(false,[1]),(false,[1,5]),(false,[1,6]),(false,[7]),(false,[1]),(false,[1,9]),(false,[1,10]),(false,[8,11]),(false,[1]),(false,[1,13]),(false,[1,14]),(false,[12,15]),(false,[1]),(false,[1,17]),(false,[1,18]),(false,[16,19]),(true,[3,20])],cl := [[],[0],[0,1],[0,1,2],[],[4],[0,1,2,4,5],[0,1,2,3,4,5,6],[],[8],[8,9],[0,1,2,3,4,5,6,7,8,9,10],[],[12],[12,13],[0,1,2,3,4,5,6,7,8,9,10,11,12,13,14],[0,1,2,3,4,5,6,7,8,9,10,11,12,13,14,15]] }),(2,{ keep := some [1,3,4] }),(3,{ keep := some [1,3,4,29] }),(5,{ md := [(6,.cp)],keep := some [1,3,4] }),(4,{ keep := some [1,3,4] }),(6,{ keep := some [2] })] }
def g30 : VG := []
def a30 : FAnn := { pm := [.ro],rt := g30.un,regs := [(0,{ keep := some [0] }),(1,{ keep := some [2] })] }
def g31 : VG := []
def a31 : FAnn := { pm := [.ro],rt := g31.un,regs := [(0,{ keep := some [0] }),(1,{ keep := some [0,3] }),(2,{ keep := some [0,3,12] }),(4,{ keep := some [0,3,4] }),(5,{ keep := some [0,3,4,21] }),(7,{ md := [(8,.cp),(19,.cp)],keep := some [0,3,4,69],dr := [(false,[0]),(false,[3]),(false,[24,25]),(false,[26]),(false,[4]),(false,[27,28]),(false,[29]),(false,[30]),(false,[31]),(false,[32]),(false,[33]),(false,[0,34]),(false,[3,34]),(false,[34,35,36]),(false,[34,37]),(false,[4,34]),(false,[34,38,39]),(false,[34,40]),(false,[34,41]),(false,[34,42]),(false,[34,43]),(false,[34,44]),(false,[45]),(false,[4,46]),(false,[46,47]),(false,[46,48]),(false,[0,49]),(false,[3,49]),(false,[49,50,51]),(false,[49,52]),(false,[4,49]),(false,[49,54]),(false,[49,53,55]),(false,[49,56]),(false,[49,57]),(false,[0,49]),(false,[3,49]),(false,[49,59,60]),(false,[49,61]),(false,[4,49]),(false,[49,62,63]),(false,[49,64]),(false,[49,65]),(false,[49,58,66]),(false,[46,49,67]),(false,[46,68])],cl := [[],[],[0,1],[0,1,2],[],[0,1,2,3,4],[0,1,2,3,4,5],[0,1,2,3,4,5,6],[0,1,2,3,4,5,6,7],[0,1,2,3,4,5,6,7,8],[0,1,2,3,4,5,6,7,8,9],[0,1,2,3,4,5,6,7,8,9,10],[0,1,2,3,4,5,6,7,8,9,10],[0,1,2,3,4,5,6,7,8,9,10,11,12],[0,1,2,3,4,5,6,7,8,9,10,11,12,13],[0,1,2,3,4,5,6,7,8,9,10],[0,1,2,3,4,5,6,7,8,9,10,11,12,13,14,15],[0,1,2,3,4,5,6,7,8,9,10,11,12,13,14,15,16],[0,1,2,3,4,5,6,7,8,9,10,11,12,13,14,15,16,17],[0,1,2,3,4,5,6,7,8,9,10,11,12,13,14,15,16,17,18],[0,1,2,3,4,5,6,7,8,9,10,11,12,13,14,15,16,17,18,19],[0,1,2,3,4,5,6,7,8,9,10,11,12,13,14,15,16,17,18,19,20],[0,1,2,3,4,5,6,7,8,9,10,11,12,13,14,15,16,17,18,19,20,21],[0,1,2,3,4,5,6,7,8,9,10,11,12,13,14,15,16,17,18,19,20,21,22],[0,1,2,3,4,5,6,7,8,9,10,11,12,13,14,15,16,17,18,19,20,21,22,23],[0,1,2,3,4,5,6,7,8,9,10,11,12,13,14,15,16,17,18,19,20,21,22,23,24],[0,1,2,3,4,5,6,7,8,9,10,11,12,13,14,15,16,17,18,19,20,21,22,23,24,25],[0,1,2,3,4,5,6,7,8,9,10,11,12,13,14,15,16,17,18,19,20,21,22,23,24,25],[0,1,2,3,4,5,6,7,8,9,10,11,12,13,14,15,16,17,18,19,20,21,22,23,24,25,26,27],[0,1,2,3,4,5,6,7,8,9,10,11,12,13,14,15,16,17,18,19,20,21,22,23,24,25,26,27,28],[0,1,2,3,4,5,6,7,8,9,10,11,12,13,14,15,16,17,18,19,20,21,22,23,24,25],[0,1,2,3,4,5,6,7,8,9,10,11,12,13,14,15,16,17,18,19,20,21,22,23,24,25,30],[0,1,2,3,4,5,6,7,8,9,10,11,12,13,14,15,16,17,18,19,20,21,22,23,24,25,26,27,28,29,30,31],[0,1,2,3,4,5,6,7,8,9,10,11,12,13,14,15,16,17,18,19,20,21,22,23,24,25,26,27,28,29,30,31,32],[0,1,2,3,4,5,6,7,8,9,10,11,12,13,14,15,16,17,18,19,20,21,22,23,24,25,26,27,28,29,30,31,32,33],[0,1,2,3,4,5,6,7,8,9,10,11,12,13,14,15,16,17,18,19,20,21,22,23,24,25],[0,1,2,3,4,5,6,7,8,9,10,11,12,13,14,15,16,17,18,19,20,21,22,23,24,25],[0,1,2,3,4,5,6,7,8,9,10,11,12,13,14,15,16,17,18,19,20,21,22,23,24,25,35,36],[0,1,2,3,4,5,6,7,8,9,10,11,12,13,14,15,16,17,18,19,20,21,22,23,24,25,35,36,37],[0,1,2,3,4,5,6,7,8,9,10,11,12,13,14,15,16,17,18,19,20,21,22,23,24,25],[0,1,2,3,4,5,6,7,8,9,10,11,12,13,14,15,16,17,18,19,20,21,22,23,24,25,35,36,37,38,39],[0,1,2,3,4,5,6,7,8,9,10,11,12,13,14,15,16,17,18,19,20,21,22,23,24,25,35,36,37,38,39,40],[0,1,2,3,4,5,6,7,8,9,10,11,12,13,14,15,16,17,18,19,20,21,22,23,24,25,35,36,37,38,39,40,41],[0,1,2,3,4,5,6,7,8,9,10,11,12,13,14,15,16,17,18,19,20,21,22,23,24,25,26,27,28,29,30,31,32,33,34,35,36,37,38,39,40,41,42],[0,1,2,3,4,5,6,7,8,9,10,11,12,13,14,15,16,17,18,19,20,21,22,23,24,25,26,27,28,29,30,31,32,33,34,35,36,37,38,39,40,41,42,43],[0,1,2,3,4,5,6,7,8,9,10,11,12,13,14,15,16,17,18,19,20,21,22,23,24,25,26,27,28,29,30,31,32,33,34,35,36,37,38,39,40,41,42,43,44]] }),(8,{ keep := some [2] }),(6,{ keep := some [0,3,4] }),(3,{ keep := some [0,3] }),(9,{ keep := some [2] })] }
def g32 : VG := [(3,[2,21,42])]
def a32 : FAnn := { pm := [.ro],rt := g32.un,regs := [(0,{ keep := some [0] }),(1,{ keep := some [0,3] }),(2,{ keep := some [0,3,4] }),(3,{ keep := some [0,3,4,9] }),(5,{ keep := some [0,3,4,5] }),(6,{ keep := some [0,3,4,5,18] }),(8,{ keep := some [0,3,4,5],dr := [(false,[3]),(false,[4]),(false,[0]),(false,[4]),(false,[23,24]),(false,[25]),(false,[5]),(false,[26,27]),(false,[28]),(false,[29]),(false,[0]),(false,[4]),(false,[31,32]),(false,[33]),(false,[5]),(false,[34,35]),(false,[36]),(false,[37]),(true,[22,30,38,39]),(true,[39,40]),(true,[2,3,21,40,41,42]),(true,[2,3,21,41,42])],cl := [[],[],[],[],[2,3],[2,3,4],[],[2,3,4,5,6],[2,3,4,5,6,7],[2,3,4,5,6,7,8],[],[],[10,11],[10,11,12],[],[10,11,12,13,14],[10,11,12,13,14,15],[10,11,12,13,14,15,16],[1,2,3,4,5,6,7,8,9,10,11,12,13,14,15,16,17],[1,2,3,4,5,6,7,8,9,10,11,12,13,14,15,16,17,18],[0,1,2,3,4,5,6,7,8,9,10,11,12,13,14,15,16,17,18,19],[0,1,2,3,4,5,6,7,8,9,10,11,12,13,14,15,16,17,18,19,20]] }),(7,{ keep := some [0,3,4,5] }),(4,{ keep := some [0,3,4] }),(9,{ keep := some [2,3] })] }
def g33 : VG := [(9,[15,18,19]),(10,[25]),(11,[6,30,39])]
def a33 : FAnn := { pm := [.ro,.ro,.ro],rt := g33.un,regs := [(0,{ keep := some [0,1,2,7] }),(1,{ md := [(1,.cp)],keep := some [0,1,7,9] }),(2,{ md := [(2,.cp)],keep := some [0,1,7,9,10] }),(3,{ keep := some [0,1,7,10,21] }),(4,{ keep := some [6,7,8,11] }),(5,{ md := [(1,.cp),(3,.cp)],keep := some [0,1,7,11] }),(6,{ md := [(3,.cp)],keep := some [0,1,7,11] }),(7,{ keep := some [6,7,8,11] })] }
def g34 : VG := [(3,[10,32,42,43,54,55,59,60,64,65]),(9,[40,49,61])]
def a34 : FAnn := { pm := [.ro,.ro,.ro],rt := g34.un,regs := [(0,{ keep := some [1,2,3,6] }),(1,{ md := [(1,.cp)],keep := some [1,2,3,6] }),(2,{ keep := some [1,2,3,6,8] }),(3,{ keep := some [1,2,3,6,8,24] }),(5,{ keep := some [1,2,3,6,8,31] }),(6,{ md := [(2,.cp)],keep := some [1,2,3,6,8] }),(7,{ keep := some [1,2,3,6,8,9] }),(8,{ md := [(6,.cp)],keep := some [1,2,3,6,8,9,47] }),(9,{ keep := some [6,7] }),(10,{ keep := some [1,2,3,6,8,9,52] }),(11,{ keep := some [6,7] }),(12,{ keep := some [1,2,3,6,8,9,57] }),(13,{ keep := some [6,7] }),(14,{ keep := some [1,2,3,6,8] }),(4,{ keep := some [1,2,3,6,8] }),(15,{ keep := some [6,7] })] }
def g35 : VG := [(2,[10,12,15,19,26,30,35,36,39,41]),(3,[9]),(7,[21,28,32]),(8,[4,40])]
def a35 : FAnn := { pm := [.ro,.ro],rt := g35.un,regs := [(0,{ keep := some [2,3,5] }),(1,{ md := [(5,.cp)],keep := some [2,5,7] }),(2,{ keep := some [2,5,7,17] }),(3,{ keep := some [4,5,6,8] }),(4,{ keep := some [2,5,7,24] }),(5,{ keep := some [4,5,6,8] }),(6,{ md := [(3,.cp)],keep := some [2,5,7,8] }),(7,{ keep := some [2,5,8] }),(8,{ keep := some [2,5,8] }),(9,{ keep := some [4,5,6,8],dr := [(false,[8]),(false,[2]),(true,[4,8,40]),(true,[2,5,10,12,15,19,26,30,35,36,39,41]),(true,[6])],cl := [[],[],[0],[0,1,2],[0,1,2,3]] })] }
def g36 : VG := [(2,[6,9,10,29,30,31,32,34,35,37,38,40,41,43,44,45])]
def a36 : FAnn := { pm := [.ro,.ro],rt := g36.un,regs := [(0,{ keep := some [1,2,4] }),(1,{ md := [(1,.cp)],keep := some [1,2,4] }),(2,{ keep := some [1,2,4,5] }),(3,{ keep := some [1,2,4,5,12] }),(5,{ keep := some [1,2,4,5,28] }),(6,{ keep := some [1,2,4,5],dr := [(false,[2]),(false,[2,29]),(false,[2]),(false,[2,31]),(false,[5]),(false,[2,32,33]),(false,[2,34]),(false,[2,35]),(false,[2]),(false,[2,37]),(false,[5]),(false,[2,38,39]),(false,[2,40]),(false,[2,41]),(false,[2,30,36]),(true,[2,6,9,10,29,30,31,32,34,35,37,38,40,41,42,43,44,45])],cl := [[],[0],[],[2],[],[2,3,4],[2,3,4,5],[2,3,4,5,6],[],[8],[],[8,9,10],[8,9,10,11],[8,9,10,11,12],[0,1,2,3,4,5,6,7,8,9,10,11,12,13],[0,1,2,3,4,5,6,7,8,9,10,11,12,13,14]] }),(4,{ keep := some [1,2,4,5] }),(7,{ keep := some [2,4] }),(8,{ keep := some [4] })] }
def g37 : VG := [(3,[2,11,18])]
def a37 : FAnn := { pm := [.ro],rt := g37.un,regs := [(0,{ keep := some [0] }),(1,{ keep := some [0,3] }),(2,{ keep := some [0,3,4] }),(3,{ keep := some [0,3,4,8] }),(5,{ keep := some [0,3,4] }),(4,{ keep := some [0,3,4] }),(6,{ keep := some [2,3] })] }
def g38 : VG := [(3,[2,11,18])]
def a38 : FAnn := { pm := [.ro],rt := g38.un,regs := [(0,{ keep := some [0] }),(1,{ keep := some [0,3] }),(2,{ keep := some [0,3,4] }),(3,{ keep := some [0,3,4,8] }),(5,{ keep := some [0,3,4] }),(4,{ keep := some [0,3,4] }),(6,{ keep := some [2,3] })] }
def g39 : VG := [(1,[3,4,8,9,14,15,19,20,24,25,26])]
def a39 : FAnn := { pm := [.ro],rt := g39.un,regs := [(0,{ keep := some [1] }),(1,{ keep := some [1,18] }),(2,{ keep := some [2] }),(3,{ md := [(2,.cp),(8,.cp)],keep := some [2] })] }
def g40 : VG := [(2,[10,19,21,25,29,33,41,42,52,56]),(5,[38,46,47])]
def a40 : FAnn := { pm := [.ro],rt := g40.un,regs := [(0,{ keep := some [0,2] }),(1,{ keep := some [0,2,7] }),(2,{ keep := some [0,2,7,8] }),(3,{ keep := some [0,2,4,7] }),(4,{ keep := some [0,2,7],dr := [(false,[2]),(false,[2,10]),(false,[11]),(false,[0]),(false,[4]),(false,[14]),(false,[13,15]),(false,[16]),(false,[12,17]),(false,[2]),(true,[2,10,18,19,21,25,29,33,41,42,52,56])],cl := [[],[0],[0,1],[],[],[4],[3,4,5],[3,4,5,6],[0,1,2,3,4,5,6,7],[0,1,2,3,4,5,6,7,8],[0,1,2,3,4,5,6,7,8,9]] }),(5,{ keep := some [0,2,7] }),(6,{ keep := some [0,2,28] }),(7,{ keep := some [2,3] }),(8,{ md := [(4,.cp),(5,.tk)],keep := some [2,5,6] }),(9,{ keep := some [2,5,6] }),(10,{ keep := some [2,3] })] }
def g41 : VG := []
def a41 : FAnn := { pm := [.ro],rt := g41.un,regs := [(0,{ keep := some [0] }),(1,{ keep := some [4] }),(2,{ keep := some [2] }),(3,{ keep := some [2] })] }
def g42 : VG := [(12,[46,56]),(13,[43])]
def a42 : FAnn := { pm := [.ro,.ro,.ro],rt := g42.un,regs := [(0,{ keep := some [0,1,2,6] }),(1,{ keep := some [0,1,2,6,8] }),(2,{ keep := some [0,1,2,6,8,14,15,16] }),(3,{ keep := some [0,1,2,6,8,14,15,16,17] }),(4,{ keep := some [0,1,2,6,8,9,10,14,15,16] }),(5,{ keep := some [0,1,2,6,8,9,10,14,15,16,23] }),(6,{ keep := some [0,1,2,6,8,9,10,11,14,15,16] }),(7,{ keep := some [0,1,2,6,8,9,10,11,14,15,16,28] }),(8,{ keep := some [0,1,2,6,8,9,10,14,15,16] }),(9,{ keep := some [0,1,2,6,8,9,14,15,16,37] }),(10,{ md := [(1,.cp),(2,.tk)],keep := some [0,1,2,6,9,12,13] }),(11,{ md := [(6,.cp),(10,.cp),(11,.cp)],keep := some [6,9,12,55],dr := [(false,[13]),(false,[13,43]),(false,[44]),(false,[12,45]),(false,[1,45]),(false,[2,45]),(false,[12,45,46,47,48]),(false,[0,45]),(false,[9,45]),(false,[45,51]),(false,[45,50,52]),(false,[45,49,53]),(false,[45,54])],cl := [[],[0],[0,1],[0,1,2],[0,1,2],[0,1,2],[0,1,2,3,4,5],[0,1,2],[0,1,2],[0,1,2,8],[0,1,2,7,8,9],[0,1,2,3,4,5,6,7,8,9,10],[0,1,2,3,4,5,6,7,8,9,10,11]] }),(12,{ keep := some [6,7] }),(13,{ keep := some [0,1,2,6,8,14,15,16] }),(14,{ keep := some [6,7] })] }
def g43 : VG := [(2,[12,13,17,18,53]),(6,[4,35,38,41,42,50,52,57]),(9,[19,24,30,33,36,39,43,45])]
def a43 : FAnn := { pm := [.ro,.ro],rt := g43.un,regs := [(0,{ keep := some [1,2] }),(1,{ keep := some [1,2,6] }),(2,{ keep := some [1,2,6,7] }),(3,{ keep := some [1,2,6,7,13,14,15] }),(4,{ keep := some [1,2,6,7,13,14,15,16] }),(5,{ keep := some [1,2,6,7,9,13,14,15] }),(6,{ keep := some [1,2,6,9,13,14,15,32] }),(7,{ keep := some [4,5,6] }),(8,{ keep := some [1,2,6,7,9,13,14,15] }),(9,{ md := [(0,.st)],keep := some [1,2,6,7,13,14,15],dr := [(false,[6]),(false,[9]),(false,[9,36]),(false,[6]),(false,[9]),(false,[9,39]),(false,[6,38,40]),(false,[6,41]),(false,[9]),(false,[9,43]),(false,[9]),(false,[9,45]),(true,[44,46,47]),(true,[47,48]),(true,[4,6,35,38,41,42,48,49,50,52,57]),(false,[6,35,37]),(true,[4,6,35,38,41,42,49,50,52,57])],cl := [[],[],[1],[],[],[4],[3,4,5],[3,4,5,6],[],[8],[],[10],[8,9,10,11],[8,9,10,11,12],[3,4,5,6,7,8,9,10,11,12,13],[0,1,2,3,4,5,6,7,8,9,10,11,12,13,14],[0,1,2,3,4,5,6,7,8,9,10,11,12,13,14,15]] }),(10,{ keep := some [1,2,6,7,13,14,15] }),(11,{ md := [(6,.cp)],keep := some [4,5,6] })] }
def g44 : VG := [(6,[23,32]),(8,[24])]
def a44 : FAnn := { pm := [.ro,.ro,.ro],rt := g44.un,regs := [(0,{ keep := some [0,1,2,6,7] }),(1,{ keep := some [0,1,2,6,7,11] }),(2,{ md := [(5,.cp),(6,.tk)],keep := some [0,1,2,6,7,8,9] }),(3,{ keep := some [0,1,2,6,7,8,9,22] }),(4,{ keep := some [0,1,2,6,7] }),(5,{ keep := some [6,7] })] }
def g45 : VG := []
def a45 : FAnn := { pm := [.ro,.ro],rt := g45.un,regs := [(0,{ keep := some [0,1] }),(1,{ keep := some [4] })] }
def g47 : VG := [(9,[10])]
def a47 : FAnn := { pm := [.ro,.ro],rt := g47.un,regs := [(0,{ keep := some [0,1] }),(1,{ keep := some [4] })] }
def g48 : VG := []
def a48 : FAnn := { pm := [.ro],rt := g48.un,regs := [(0,{ keep := some [0] }),(1,{ keep := some [4] }),(2,{ keep := some [2] }),(3,{ keep := some [2] })] }
def g50 : VG := []
def a50 : FAnn := { pm := [.ro,.ro],rt := g50.un,regs := [(0,{ keep := some [0,1] }),(1,{ keep := some [0,1,10] }),(2,{ keep := some [4] }),(3,{ keep := some [0,1,5] }),(4,{ keep := some [0,1,5,14] }),(6,{ keep := some [0,1,5,25],dr := [(false,[0]),(false,[5]),(false,[17,18]),(false,[19]),(false,[1]),(false,[5]),(false,[21,22]),(false,[23]),(false,[20,24])],cl := [[],[],[0,1],[0,1,2],[],[],[4,5],[4,5,6],[0,1,2,3,4,5,6,7]] }),(7,{ keep := some [4] }),(5,{ keep := some [0,1,5] }),(8,{ keep := some [4] })] }
def g52 : VG := []
def a52 : FAnn := { pm := [.ro,.ro],rt := g52.un,regs := [(0,{ keep := some [0,1] }),(1,{ keep := some [0,1,10] }),(2,{ keep := some [4] }),(3,{ keep := some [0,1,5] }),(4,{ keep := some [0,1,5,14] }),(6,{ keep := some [0,1,5,25],dr := [(false,[0]),(false,[5]),(false,[17,18]),(false,[19]),(false,[1]),(false,[5]),(false,[21,22]),(false,[23]),(false,[20,24])],cl := [[],[],[0,1],[0,1,2],[],[],[4,5],[4,5,6],[0,1,2,3,4,5,6,7]] }),(7,{ keep := some [4] }),(5,{ keep := some [0,1,5] }),(8,{ keep := some [4] })] }
def g53 : VG := [(2,[5,11,12]),(3,[7,13,14])]
def a53 : FAnn := { pm := [.ro,.ro],rt := g53.un,regs := [(0,{ keep := some [2,3] }),(1,{ md := [(10,.cp)],keep := some [4] })] }
def g56 : VG := []
def a56 : FAnn := { pm := [.ro],rt := g56.un,regs := [(0,{ keep := some [0,3] }),(1,{ md := [(1,.cp)],keep := some [2,3,4] })] }
def g57 : VG := [(1,[3,7,12,16,22,27,32,37])]
def a57 : FAnn := { pm := [.ro],rt := g57.un,regs := [(0,{ keep := some [1] }),(1,{ keep := some [2] })] }
def g58 : VG := [(9,[21,25,35]),(10,[39,49]),(11,[6,42,52])]
def a58 : FAnn := { pm := [.ro,.ro,.ro],rt := g58.un,regs := [(0,{ keep := some [0,1,2,7] }),(1,{ md := [(1,.cp)],keep := some [0,1,2,7,14] }),(2,{ keep := some [6,7,8,11] }),(3,{ md := [(1,.cp)],keep := some [0,1,7,9] }),(4,{ keep := some [0,1,7,9,19] }),(5,{ keep := some [6,7,8,11] }),(6,{ md := [(1,.cp)],keep := some [0,1,7,9,30] }),(7,{ keep := some [6,7,8,11] }),(8,{ keep := some [0,1,7,9,10] }),(9,{ md := [(1,.cp)],keep := some [0,1,7,10,11],dr := [(false,[1]),(false,[33]),(false,[9]),(false,[0]),(true,[9,21,25,35,36,37]),(true,[34,37,38]),(false,[10]),(true,[10,39,40,49]),(true,[38,40,41]),(true,[6,11,41,42,52])],cl := [[],[0],[],[],[0,1,2,3],[0,1,2,3,4],[],[6],[0,1,2,3,4,5,6,7],[0,1,2,3,4,5,6,7,8]] }),(10,{ keep := some [0,1,7,11],dr := [(false,[11]),(false,[1]),(false,[43]),(true,[44,45]),(false,[0]),(true,[45,46,47]),(true,[6,11,42,47,48,52]),(false,[10]),(true,[10,39,49,50]),(true,[48,50,51]),(true,[6,11,42,51,52])],cl := [[],[],[1],[1,2],[],[1,2,3,4],[0,1,2,3,4,5],[],[7],[0,1,2,3,4,5,6,7,8],[0,1,2,3,4,5,6,7,8,9]] }),(11,{ keep := some [6,7,8,11] })] }
def g59 : VG := [(1,[3,4,6,7])]
def a59 : FAnn := { pm := [.ro],rt := g59.un,regs := [(0,{ keep := some [1,2] }),(1,{ md := [(2,.cp),(5,.cp)],keep := some [2],dr := [(false,[1]),(false,[1,3]),(false,[1,4]),(false,[1]),(false,[1,6]),(false,[1,7]),(true,[5,8,9]),(true,[2,9])],cl := [[],[0],[0,1],[],[3],[0,1,2,3,4],[0,1,2,3,4,5],[0,1,2,3,4,5,6]] })] }
def g60 : VG := [(0,[7,8,9,10,11,16,17,21,22,23,24,28,29,30,31,32,33,38,40,41,42,44,45,46,59,60,61,62]),(3,[12,13,19,47,48,53,54]),(6,[34,36])]
def a60 : FAnn := { pm := [.io,.ro],rt := g60.un,regs := [(0,{ keep := some [0,3] }),(2,{ keep := some [0,3,18] }),(3,{ keep := some [0,24,25,26] }),(4,{ keep := some [0,24,25,26,27] }),(5,{ keep := some [0,6,24,25,26] }),(6,{ keep := some [0,24,25,26],dr := [(false,[0]),(false,[0,30]),(false,[0,31]),(false,[0,32]),(false,[6]),(false,[6,34]),(false,[6]),(false,[6,36]),(false,[0,33,35]),(true,[0,7,8,9,10,11,16,17,21,22,23,24,28,29,30,31,32,33,37,38,40,41,42,44,45,46,59,60,61,62])],cl := [[],[0],[0,1],[0,1,2],[],[4],[],[6],[0,1,2,3,4,5,6,7],[0,1,2,3,4,5,6,7,8]] }),(7,{ keep := some [0,24,25,26] }),(8,{ keep := some [0] }),(9,{ md := [(6,.cp)],keep := some [0,3,43],dr := [(false,[0]),(false,[0,44]),(false,[0,45]),(false,[3]),(false,[3,47]),(false,[3,48]),(false,[0,46,49]),(false,[50]),(true,[43,51])],cl := [[],[0],[0,1],[],[3],[3,4],[0,1,2,3,4,5],[0,1,2,3,4,5,6],[0,1,2,3,4,5,6,7]] }),(10,{ keep := some [0,4] }),(11,{ md := [(3,.cp)],keep := some [0,3,52] }),(12,{ keep := some [0,4] }),(13,{ keep := some [0,3,58] }),(14,{ keep := some [0,4] }),(1,{ md := [(0,.st)],keep := some [0],dr := [(false,[0]),(false,[0]),(false,[0,8]),(false,[0,9]),(false,[0,10]),(false,[3]),(false,[3,12]),(true,[3,12,13,14,19,47,48,53,54]),(true,[0,7,8,9,10,11,14,15,16,17,21,22,23,24,28,29,30,31,32,33,38,40,41,42,44,45,46,59,60,61,62]),(false,[0,7]),(false,[0,16]),(true,[0,7,8,9,10,11,15,16,17,21,22,23,24,28,29,30,31,32,33,38,40,41,42,44,45,46,59,60,61,62])],cl := [[],[],[1],[1,2],[1,2,3],[],[5],[5,6],[1,2,3,4,5,6,7],[0,1,2,3,4,5,6,7,8],[0,1,2,3,4,5,6,7,8,9],[0,1,2,3,4,5,6,7,8,9,10]] }),(15,{ keep := some [0,4] })] }
def g61 : VG := [(1,[4,5,6]),(3,[8,9])]
def a61 : FAnn := { pm := [.ro],rt := g61.un,regs := [(0,{ keep := some [1,2] }),(1,{ keep := some [1,2,3] }),(2,{ md := [(2,.cp)],keep := some [2,3] }),(3,{ keep := some [2] })] }
def g62 : VG := [(1,[4,9,10,15,16,21,22,24,25])]
def a62 : FAnn := { pm := [.ro],rt := g62.un,regs := [(0,{ keep := some [1] }),(1,{ md := [(2,.cp)],keep := some [1,13] }),(2,{ keep := some [2] }),(3,{ keep := some [1,3] }),(4,{ keep := some [1,3,18] }),(6,{ md := [(5,.cp)],keep := some [1,3,27] }),(7,{ keep := some [2] }),(5,{ keep := some [1,3] }),(8,{ keep := some [2] })] }
def g63 : VG := [(1,[3,7,12,13,18,19])]
def a63 : FAnn := { pm := [.ro],rt := g63.un,regs := [(0,{ keep := some [1] }),(1,{ md := [(17,.cp)],keep := some [2] })] }
def g64 : VG := [(3,[11]),(6,[48,60]),(10,[28,43,49])]
def a64 : FAnn := { pm := [.ro,.ro,.ro],rt := g64.un,regs := [(0,{ keep := some [1,2,3,6] }),(1,{ md := [(1,.cp)],keep := some [1,2,6,7] }),(2,{ keep := some [1,2,6,7,8] }),(3,{ keep := some [1,2,6,7,8,18] }),(5,{ keep := some [1,2,6,7,8,9] }),(6,{ keep := some [1,2,6,7,8,9,10] }),(7,{ md := [(10,.cp)],keep := some [1,2,6,7,8,9,10] }),(8,{ keep := some [1,2,6,7,8,9,10] }),(9,{ md := [(5,.cp)],keep := some [1,2,6,7,8,9],dr := [(false,[6]),(false,[10]),(false,[10,49]),(false,[9]),(false,[51]),(false,[52]),(false,[50,53]),(true,[54,55]),(true,[6,48,55,56,60]),(true,[6,48,56,60])],cl := [[],[],[1],[],[3],[3,4],[1,2,3,4,5],[1,2,3,4,5,6],[0,1,2,3,4,5,6,7],[0,1,2,3,4,5,6,7,8]] }),(10,{ keep := some [1,2,6,7,8] }),(4,{ keep := some [1,2,6,7,8] }),(11,{ keep := some [6] })] }
def g65 : VG := [(0,[6,16,26])]
def a65 : FAnn := { pm := [.own,.ro,.ro],rt := g65.un,regs := [(0,{ keep := some [0,1,2] }),(1,{ keep := some [0,1,9,10,11] }),(2,{ keep := some [0,1,9,10,11,12] }),(3,{ keep := some [0,1,7,8,9,10,11] }),(4,{ keep := some [0,1,9,10,11] }),(5,{ keep := some [0,1,9,10,11] }),(6,{ keep := some [0,6] })] }
def g72 : VG := []
def a72 : FAnn := { pm := [.ro],rt := g72.un,regs := [(0,{ keep := some [0] }),(1,{ keep := some [0,3] }),(2,{ keep := some [0,3,4] }),(3,{ keep := some [0,3,4,14] }),(5,{ md := [(6,.cp)],keep := some [0,3,4] }),(4,{ keep := some [0,3,4] }),(6,{ keep := some [2] })] }
def g73 : VG := []
def a73 : FAnn := { pm := [.ro],rt := g73.un,regs := [(0,{ keep := some [0] }),(1,{ keep := some [0,3] }),(2,{ keep := some [0,3,4] }),(3,{ keep := some [0,3,4,14] }),(5,{ keep := some [0,3,4] }),(4,{ keep := some [0,3,4] }),(6,{ keep := some [2] })] }
def g74 : VG := []
def a74 : FAnn := { pm := [.ro],rt := g74.un,regs := [(0,{ keep := some [0] }),(1,{ md := [(2,.cp)],keep := some [2] })] }
def g75 : VG := []
def a75 : FAnn := { pm := [.ro],rt := g75.un,regs := [(0,{ keep := some [0] }),(1,{ keep := some [2] })] }
def g76 : VG := [(3,[13]),(8,[6,42,56])]
def a76 : FAnn := { pm := [.ro,.ro,.ro],rt := g76.un,regs := [(0,{ keep := some [1,2,3] }),(1,{ md := [(1,.cp)],keep := some [1,2,7] }),(2,{ keep := some [1,2,7,8] }),(3,{ keep := some [1,2,7,8,9] }),(5,{ keep := some [1,2,7,8,9,10] }),(6,{ keep := some [1,2,7,8,9,10,11] }),(7,{ keep := some [1,2,7,8,9,10,11,23] }),(8,{ keep := some [1,2,7,8,9,10,11] }),(9,{ md := [(1,.cp),(3,.cp),(6,.cp),(9,.cp),(12,.cp)],keep := some [1,2,7,8,9,10,11,12],dr := [(false,[1]),(false,[24]),(false,[2]),(false,[26]),(false,[25,27]),(false,[9]),(false,[29]),(false,[28,30]),(false,[11]),(false,[32]),(false,[31,33]),(false,[10]),(false,[35]),(false,[34,36]),(false,[7]),(false,[10]),(false,[38,39]),(false,[37,40]),(true,[12,41])],cl := [[],[0],[],[0,1,2],[0,1,2,3],[],[0,1,2,3,5],[0,1,2,3,4,5,6],[],[0,1,2,3,5,6,8],[0,1,2,3,4,5,6,7,8,9],[],[0,1,2,3,5,6,8,9,11],[0,1,2,3,4,5,6,7,8,9,10,11,12],[],[],[14,15],[0,1,2,3,4,5,6,7,8,9,10,11,12,13,14,15,16],[0,1,2,3,4,5,6,7,8,9,10,11,12,13,14,15,16,17]] }),(10,{ md := [(5,.cp)],keep := some [1,2,7,8,9,10,11] }),(11,{ keep := some [1,2,7,8,9,11] }),(12,{ keep := some [1,2,7,8,9,55] }),(13,{ keep := some [6,8] }),(4,{ keep := some [1,2,7,8,9] })] }
def g77 : VG := [(5,[4,13,25])]
def a77 : FAnn := { pm := [.ro,.ro],rt := g77.un,regs := [(0,{ keep := some [0,1] }),(1,{ keep := some [0,1,5] }),(2,{ keep := some [0,1,5,6] }),(3,{ keep := some [0,1,5,6,10] }),(5,{ keep := some [0,1,5,6] }),(4,{ keep := some [0,1,5,6] }),(6,{ keep := some [4,5] })] }
def g78 : VG := []
def a78 : FAnn := { pm := [.ro,.ro],rt := g78.un,regs := [(0,{ keep := some [0,1] }),(1,{ md := [(2,.cp)],keep := some [4] })] }
def g79 : VG := []
def a79 : FAnn := { pm := [.ro],rt := g79.un,regs := [(0,{ keep := some [0] }),(1,{ md := [(1,.cp)],keep := some [2] })] }
def g81 : VG := []
def a81 : FAnn := { pm := [.ro,.ro],rt := g81.un,regs := [(0,{ keep := some [0,1] }),(1,{ md := [(2,.cp)],keep := some [4] })] }
def g82 : VG := [(2,[5,10])]
def a82 : FAnn := { pm := [.ro,.ro],rt := g82.un,regs := [(0,{ keep := some [1,2] }),(1,{ md := [(3,.cp),(8,.cp)],keep := some [3] })] }
def g84 : VG := [(4,[10,13,18,19,20,28,33,34,35,38,39,40]),(5,[26,27,32,45,50])]
def a84 : FAnn := { pm := [.ro],rt := g84.un,regs := [(0,{ keep := some [0,2] }),(1,{ keep := some [2,4] }),(2,{ keep := some [2,4,5] }),(3,{ keep := some [2,4,5,6] }),(4,{ keep := some [2,4,5,6,23] }),(6,{ keep := some [2,4,5,6],dr := [(false,[5]),(false,[5,26]),(false,[4]),(true,[4,10,13,18,19,20,28,29,33,34,35,38,39,40]),(true,[29,30]),(true,[5,26,27,30,31,32,45,50]),(false,[5]),(true,[5,26,27,31,32,45,50])],cl := [[],[0],[],[2],[2,3],[0,1,2,3,4],[0,1,2,3,4,5],[0,1,2,3,4,5,6]] }),(5,{ keep := some [2,4,5,6] }),(7,{ md := [(13,.cp)],keep := some [2,5,48] }),(8,{ keep := some [2,3] }),(9,{ keep := some [2,3] })] }
def g85 : VG := []
def a85 : FAnn := { pm := [.ro,.ro],rt := g85.un,regs := [(0,{ keep := some [0,1] }),(1,{ keep := some [0,1,10] }),(2,{ keep := some [4] }),(3,{ keep := some [0,1,12,13] }),(4,{ keep := some [0,1,12,13,14] }),(5,{ keep := some [0,1,5,12,13] }),(6,{ keep := some [0,1,12,13,24],dr := [(false,[0]),(false,[5]),(false,[16,17]),(false,[18]),(false,[1]),(false,[5]),(false,[20,21]),(false,[22]),(false,[19,23])],cl := [[],[],[0,1],[0,1,2],[],[],[4,5],[4,5,6],[0,1,2,3,4,5,6,7]] }),(7,{ keep := some [4] }),(8,{ keep := some [0,1,12,13] }),(9,{ keep := some [4] })] }
def g69 : VG := []
def a69 : FAnn := { pm := [.ro],rt := g69.un,regs := [(0,{ keep := some [0] }),(1,{ md := [(5,.cp)],keep := some [2] })] }
def g87 : VG := [(3,[22,23,32,35]),(5,[16,20,21]),(7,[25,27])]
def a87 : FAnn := { pm := [.ro],rt := g87.un,regs := [(0,{ keep := some [0,2] }),(1,{ keep := some [0,2,3] }),(2,{ keep := some [2,3,9,10,11] }),(3,{ keep := some [2,3,9,10,11,12] }),(4,{ keep := some [2,3,4,5,9,10,11] }),(5,{ keep := some [2,3,4,5,9,10,11,16,17,18] }),(6,{ keep := some [2,3,4,5,9,10,11,16,17,18,19] }),(7,{ keep := some [2,3,4,5,7,9,10,11,16,17,18] }),(8,{ keep := some [2,3,4,5,9,10,11,16,17,18] }),(9,{ keep := some [2,3,4,5,9,10,11,16,17,18] }),(10,{ keep := some [2,3,9,10,11] }),(11,{ keep := some [2] })] }
def g80 : VG := []
def a80 : FAnn := { pm := [.ro],rt := g80.un,regs := [(0,{ keep := some [0] }),(1,{ keep := some [2] })] }
def g83 : VG := [(2,[9,10])]
def a83 : FAnn := { pm := [.ro,.ro],rt := g83.un,regs := [(0,{ keep := some [1,2] }),(1,{ keep := some [4] })] }
def g90 : VG := [(3,[2,11,18])]
def a90 : FAnn := { pm := [.ro],rt := g90.un,regs := [(0,{ keep := some [0] }),(1,{ keep := some [0,3] }),(2,{ keep := some [0,3,4] }),(3,{ keep := some [0,3,4,8] }),(5,{ keep := some [0,3,4] }),(4,{ keep := some [0,3,4] }),(6,{ keep := some [2,3] })] }
def g91 : VG := [(1,[3,7,12,17,21])]
def a91 : FAnn := { pm := [.ro],rt := g91.un,regs := [(0,{ keep := some [1] }),(1,{ md := [(2,.cp),(3,.tk),(6,.cp),(11,.cp)],keep := some [2] })] }
def g67 : VG := []
def a67 : FAnn := { pm := [.ro,.ro],rt := g67.un,regs := [(0,{ keep := some [0,1] }),(1,{ md := [(2,.cp)],keep := some [4] })] }
def g92 : VG := [(1,[3])]
def a92 : FAnn := { pm := [.ro],rt := g92.un,regs := [(0,{ keep := some [1] }),(1,{ md := [(1,.cp)],keep := some [2] })] }
def g94 : VG := [(1,[6,9,10,13,14,18,19]),(3,[20,33,43,48]),(5,[21,24,27,34,37,44])]
def a94 : FAnn := { pm := [.ro],rt := g94.un,regs := [(0,{ keep := some [1] }),(1,{ keep := some [1,3],dr := [(false,[1]),(false,[1,6]),(true,[7,8]),(false,[1]),(false,[1,9]),(false,[1,10]),(true,[8,11,12]),(true,[3,12,20,33,43,48])],cl := [[],[0],[0,1],[],[3],[3,4],[0,1,2,3,4,5],[0,1,2,3,4,5,6]] }),(2,{ keep := some [1,3,14,15,16] }),(3,{ keep := some [1,3,14,15,16,17] }),(4,{ keep := some [1,3,5,14,15,16] }),(5,{ md := [(6,.cp)],keep := some [1,3,5,14,15,16],dr := [(false,[3]),(false,[5]),(false,[5,21]),(false,[22]),(false,[5]),(false,[5,24]),(false,[25]),(false,[5]),(false,[5,27]),(false,[28]),(false,[29]),(true,[23,26,30,31]),(true,[3,20,31,32,33,43,48]),(true,[3,20,32,33,43,48])],cl := [[],[],[1],[1,2],[],[4],[4,5],[],[7],[7,8],[7,8,9],[1,2,3,4,5,6,7,8,9,10],[0,1,2,3,4,5,6,7,8,9,10,11],[0,1,2,3,4,5,6,7,8,9,10,11,12]] }),(6,{ keep := some [1,3,5,14,15,16],dr := [(false,[3]),(false,[5]),(false,[5,34]),(true,[3,20,33,35,36,43,48]),(false,[5]),(false,[5,37]),(false,[38]),(false,[39]),(true,[40,41]),(true,[36,41,42]),(true,[3,20,33,42,43,48])],cl := [[],[],[1],[0,1,2],[],[4],[4,5],[4,5,6],[4,5,6,7],[0,1,2,3,4,5,6,7,8],[0,1,2,3,4,5,6,7,8,9]] }),(7,{ keep := some [1,3,14,15,16] }),(8,{ keep := some [1,3,14,15,16] }),(9,{ keep := some [2] })] }
def g95 : VG := [(0,[5])]
def a95 : FAnn := { pm := [.own,.ro],rt := g95.un,regs := [(0,{ keep := some [0,1] }),(1,{ keep := some [4] })] }
def g96 : VG := []
def a96 : FAnn := { pm := [.ro],rt := g96.un,regs := [(0,{ keep := some [0] }),(1,{ keep := some [3] }),(2,{ keep := some [2] }),(3,{ keep := some [2] })] }
def g106 : VG := []
def a106 : FAnn := { pm := [.ro],rt := g106.un,regs := [(0,{ keep := some [0] }),(1,{ keep := some [0,3] }),(2,{ keep := some [0,3,4] }),(3,{ keep := some [0,3,4,14] }),(5,{ keep := some [0,3,4],dr := [(false,[3]),(false,[0]),(false,[4]),(false,[18,19]),(false,[20]),(false,[21]),(false,[22]),(false,[0]),(false,[4]),(false,[24,25]),(false,[26]),(false,[27]),(false,[28]),(false,[23,29]),(false,[30]),(false,[17,31]),(true,[3,32])],cl := [[],[],[],[1,2],[1,2,3],[1,2,3,4],[1,2,3,4,5],[],[],[7,8],[7,8,9],[7,8,9,10],[7,8,9,10,11],[1,2,3,4,5,6,7,8,9,10,11,12],[1,2,3,4,5,6,7,8,9,10,11,12,13],[0,1,2,3,4,5,6,7,8,9,10,11,12,13,14],[0,1,2,3,4,5,6,7,8,9,10,11,12,13,14,15]] }),(4,{ keep := some [0,3,4] }),(6,{ keep := some [2] })] }
def g107 : VG := [(1,[7,10,11,16,17,22,23,25,26]),(5,[27,30,37,42,45,50])]
def a107 : FAnn := { pm := [.ro],rt := g107.un,regs := [(0,{ keep := some [1] }),(1,{ md := [(2,.cp),(6,.cp)],keep := some [1,3],dr := [(false,[1]),(false,[1,7]),(false,[8]),(false,[1]),(false,[1,10]),(false,[1,11]),(false,[12]),(false,[9,13]),(true,[3,14])],cl := [[],[0],[0,1],[],[3],[3,4],[0,1,2,3,4,5],[0,1,2,3,4,5,6],[0,1,2,3,4,5,6,7]] }),(2,{ keep := some [1,3,4] }),(3,{ keep := some [1,3,4,19] }),(5,{ keep := some [1,3,4,5] }),(6,{ keep := some [1,3,4,5,6] }),(7,{ keep := some [1,3,4,5,6,28] }),(8,{ keep := some [1,3,4,5,6] }),(9,{ md := [(3,.cp),(6,.cp),(11,.cp),(19,.cp)],keep := some [1,3,4],dr := [(false,[3]),(false,[5]),(false,[5,30]),(false,[31]),(false,[29,32]),(false,[6]),(false,[34]),(false,[33,35]),(false,[5]),(false,[5,37]),(false,[38]),(false,[39]),(false,[36,40]),(false,[5]),(false,[5,42]),(false,[41,43]),(false,[5]),(false,[5,45]),(false,[46]),(false,[47]),(false,[44,48]),(false,[5]),(false,[5,50]),(false,[49,51]),(true,[3,52])],cl := [[],[],[1],[1,2],[0,1,2,3],[],[1,2,3,5],[0,1,2,3,4,5,6],[],[8],[8,9],[1,2,3,5,6,8,9,10],[0,1,2,3,4,5,6,7,8,9,10,11],[],[13],[0,1,2,3,4,5,6,7,8,9,10,11,12,13,14],[],[16],[16,17],[1,2,3,5,6,8,9,10,11,16,17,18],[0,1,2,3,4,5,6,7,8,9,10,11,12,13,14,15,16,17,18,19],[],[21],[0,1,2,3,4,5,6,7,8,9,10,11,12,13,14,15,16,17,18,19,20,21,22],[0,1,2,3,4,5,6,7,8,9,10,11,12,13,14,15,16,17,18,19,20,21,22,23]] }),(4,{ keep := some [1,3,4] }),(10,{ keep := some [2] })] }
def g108 : VG := [(5,[15,19,22])]
def a108 : FAnn := { pm := [.ro,.ro],rt := g108.un,regs := [(0,{ keep := some [0,1] }),(1,{ keep := some [0,1,5] }),(2,{ keep := some [0,5,6] }),(3,{ keep := some [0,5,6,12] }),(5,{ keep := some [0,5,6] }),(6,{ keep := some [0,5,6] }),(4,{ keep := some [0,5,6] }),(7,{ keep := some [4] })] }
def g109 : VG := []
def a109 : FAnn := { pm := [.ro,.ro],rt := g109.un,regs := [(0,{ keep := some [0,1] }),(1,{ keep := some [0,1,7,8] }),(2,{ keep := some [0,1,7,8,9] }),(3,{ keep := some [0,1,5,7,8] }),(4,{ keep := some [0,1,5,7,8,16] }),(5,{ keep := some [4] }),(6,{ keep := some [0,1,7,8] }),(7,{ keep := some [4] })] }
def g110 : VG := []
def a110 : FAnn := { pm := [.ro,.ro],rt := g110.un,regs := [(0,{ keep := some [0,1] }),(1,{ keep := some [0,1,7,8] }),(2,{ keep := some [0,1,7,8,9] }),(3,{ keep := some [0,1,5,7,8] }),(4,{ keep := some [0,1,5,7,8,16] }),(5,{ keep := some [4] }),(6,{ keep := some [0,1,7,8] }),(7,{ keep := some [4] })] }
def g111 : VG := [(0,[8]),(11,[15])]
def a111 : FAnn := { pm := [.io,.ro],rt := g111.un,regs := [(0,{ keep := some [0,1] }),(1,{ keep := some [0,1,5] }),(2,{ keep := some [0,5,11,12,13] }),(3,{ keep := some [0,5,11,12,13,14] }),(4,{ keep := some [0,5,7,11,12,13] }),(5,{ keep := some [0,5,11,12,13] }),(6,{ keep := some [0,5,11,12,13] }),(7,{ keep := some [0,4] })] }
def g112 : VG := [(0,[4,7,12,13,14,15,21,22,23,24,28,29]),(2,[6,11,27,32,33])]
def a112 : FAnn := { pm := [.io],rt := g112.un,regs := [(0,{ keep := some [0,2] }),(1,{ keep := some [0,2] }),(2,{ keep := some [0,2,3] }),(3,{ keep := some [0,2,3] }),(4,{ keep := some [0,2] }),(5,{ keep := some [0,2] }),(6,{ keep := some [0,2] }),(7,{ keep := some [0,2] })] }
def g99 : VG := []
def a99 : FAnn := { pm := [.ro,.ro],rt := g99.un,regs := [(0,{ keep := some [0,1] }),(1,{ md := [(2,.cp)],keep := some [4] })] }
def g100 : VG := []
def a100 : FAnn := { pm := [.ro],rt := g100.un,regs := [(0,{ keep := some [0] }),(1,{ md := [(1,.cp)],keep := some [2] })] }
def g98 : VG := []
def a98 : FAnn := { pm := [.ro,.ro],rt := g98.un,regs := [(0,{ keep := some [0,1] }),(1,{ keep := some [0,1,7,8] }),(2,{ keep := some [0,1,7,8,9] }),(3,{ keep := some [0,1,5,7,8] }),(4,{ keep := some [0,1,5,7,8,16] }),(5,{ keep := some [4] }),(6,{ keep := some [0,1,7,8] }),(7,{ keep := some [4] })] }
def g93 : VG := [(1,[3,7,12,17,21])]
def a93 : FAnn := { pm := [.ro],rt := g93.un,regs := [(0,{ keep := some [1] }),(1,{ md := [(2,.cp),(3,.tk),(6,.cp),(11,.cp)],keep := some [2] })] }
def g127 : VG := [(0,[6,7,8,12,13,14,19,20,21,22,23,24,28,29,30,31,35,36])]
def a127 : FAnn := { pm := [.io,.ro],rt := g127.un,regs := [(0,{ keep := some [0,1] }),(1,{ keep := some [0,1,18] }),(2,{ keep := some [0] }),(3,{ keep := some [0,4] }),(4,{ keep := some [0,1,5] }),(5,{ keep := some [0,5] }),(6,{ keep := some [0,4] })] }
def g122 : VG := []
def a122 : FAnn := { pm := [.ro,.ro],rt := g122.un,regs := [(0,{ keep := some [0,1] }),(1,{ keep := some [0,1,7,8] }),(2,{ keep := some [0,1,7,8,9] }),(3,{ keep := some [0,1,5,7,8] }),(4,{ keep := some [0,1,5,7,8,16] }),(5,{ keep := some [4] }),(6,{ keep := some [0,1,7,8] }),(7,{ keep := some [4] })] }
def g101 : VG := [(4,[12,17,26])]
def a101 : FAnn := { pm := [.ro],rt := g101.un,regs := [(0,{ keep := some [0] }),(1,{ keep := some [0,5,6,7] }),(2,{ keep := some [0,5,6,7,8] }),(3,{ keep := some [0,3,4,5,6,7] }),(4,{ md := [(2,.cp),(7,.cp)],keep := some [0,5,6,7,36],dr := [(false,[4]),(false,[4,12]),(false,[13]),(false,[14]),(false,[15]),(false,[4,16]),(false,[4,16,17]),(false,[16,18]),(false,[16,19]),(false,[16,20]),(false,[21]),(false,[3,22]),(false,[22,23]),(false,[22,24]),(false,[4,25]),(false,[4,25,26]),(false,[0,25]),(false,[3,25]),(false,[25,29]),(false,[25,28,30]),(false,[25,31]),(false,[25,32]),(false,[25,27,33]),(false,[22,25,34]),(false,[22,35])],cl := [[],[0],[0,1],[0,1,2],[0,1,2,3],[0,1,2,3,4],[0,1,2,3,4,5],[0,1,2,3,4,5,6],[0,1,2,3,4,5,6,7],[0,1,2,3,4,5,6,7,8],[0,1,2,3,4,5,6,7,8,9],[0,1,2,3,4,5,6,7,8,9,10],[0,1,2,3,4,5,6,7,8,9,10,11],[0,1,2,3,4,5,6,7,8,9,10,11,12],[0,1,2,3,4,5,6,7,8,9,10,11,12,13],[0,1,2,3,4,5,6,7,8,9,10,11,12,13,14],[0,1,2,3,4,5,6,7,8,9,10,11,12,13],[0,1,2,3,4,5,6,7,8,9,10,11,12,13],[0,1,2,3,4,5,6,7,8,9,10,11,12,13,17],[0,1,2,3,4,5,6,7,8,9,10,11,12,13,16,17,18],[0,1,2,3,4,5,6,7,8,9,10,11,12,13,16,17,18,19],[0,1,2,3,4,5,6,7,8,9,10,11,12,13,16,17,18,19,20],[0,1,2,3,4,5,6,7,8,9,10,11,12,13,14,15,16,17,18,19,20,21],[0,1,2,3,4,5,6,7,8,9,10,11,12,13,14,15,16,17,18,19,20,21,22],[0,1,2,3,4,5,6,7,8,9,10,11,12,13,14,15,16,17,18,19,20,21,22,23]] }),(5,{ keep := some [2] }),(6,{ keep := some [0,5,6,7] }),(7,{ keep := some [2] })] }
def g113 : VG := []
def a113 : FAnn := { pm := [.ro],rt := g113.un,regs := [(0,{ keep := some [0] }),(1,{ keep := some [2] })] }
def g114 : VG := []
def a114 : FAnn := { pm := [.ro],rt := g114.un,regs := [(0,{ keep := some [0] }),(1,{ keep := some [2] })] }
def g115 : VG := []
def a115 : FAnn := { pm := [.ro],rt := g115.un,regs := [(0,{ keep := some [0] }),(1,{ keep := some [2] })] }
def b4 : IC := .seq (JR [Jy 1 0,Jo 2 false] [1]) (.seq (.seq (JR [Jg 37 8 1,Jr 38 6 37] [1,38]) (.cond (.tmp 38) (.seq (JR [Jo 2 true] [2]) .ret) .skip)) (.seq (.seq (JR [Ji 3 0] [1,3]) (.block 0 (.loop (.seq (.seq (JR [Jc 39 3,Jk 40 .add 39 1,Jf 41 0 1,Jl 42 41,Jn 43 42,Jb 44 .lss 40 43,Jc 45 44,Jcw 46 45 true 3,Jw 47 45 true (.bin none .lss (.tmp 46) (.con (.int .i64 6))),Jp 48 45 47] [1,3,48]) (.cond (.tmp 48) .skip (.exit 0))) (.seq (.block 1 (.seq (.seq (JW [(Jf 51 0 1,false,[1]),(Jl 52 51,false,[1,51]),(Jc 53 3,false,[3]),(Jx 54 1 52 53,false,[1,52,53]),(Jl 55 54,false,[1,54]),(Jr 56 8 55,false,[1,55]),(Ju 57 56,false,[56]),(Jc 58 57,false,[57]),(Jfw 59 58 false 0 1,false,[1,58]),(Jlw 60 58 false 59,false,[1,58,59]),(Jcw 61 58 false 3,false,[3,58]),(Jw 62 58 false (.bin none .add (.tmp 61) (.con (.int .i64 1))),false,[58,61]),(Jw 63 58 false (.indexA 1 (.tmp 60) (.tmp 62)),false,[1,58,60,62]),(Jlw 64 58 false 63,false,[1,58,63]),(Jw 65 58 false (.callr 8 [.tmp 64]),false,[1,58,64]),(Jw 66 58 false (.un .not (.tmp 65)),false,[58,65]),(Jq 67 58 66,false,[58,66]),(Jc 68 67,false,[67]),(Jfw 69 68 false 0 1,false,[1,68]),(Jlw 70 68 false 69,false,[1,68,69]),(Jcw 71 68 false 3,false,[3,68]),(Jw 72 68 false (.indexA 1 (.tmp 70) (.tmp 71)),false,[1,68,70,71]),(Jlw 73 68 false 72,false,[1,68,72]),(Jw 74 68 false (.len false (.tmp 73)),false,[1,68,73]),(Jfw 75 68 false 0 1,false,[1,68]),(Jlw 76 68 false 75,false,[1,68,75]),(Jcw 77 68 false 3,false,[3,68]),(Jw 78 68 false (.bin none .add (.tmp 77) (.con (.int .i64 1))),false,[68,77]),(Jw 79 68 false (.indexA 1 (.tmp 76) (.tmp 78)),false,[1,68,76,78]),(Jlw 80 68 false 79,false,[1,68,79]),(Jw 81 68 false (.len false (.tmp 80)),false,[1,68,80]),(Jw 82 68 false (.bin none .neq (.tmp 74) (.tmp 81)),false,[68,74,81]),(Jq 83 68 82,false,[68,82])] [1,3,83]) (.cond (.tmp 83) (.exit 1) .skip)) (.seq (JR [Jg 85 8 1,Jc 86 3,Jv 87 9 85 86,Jt 84 87,Je 88 0 84,Je 89 1 84,Je 90 2 84,J 4 (.alloc [.own 9 [],.own 72 []]),J 5 (.alloc [.d (.sc (.int .i64 0)),.d (.sc (.int .i64 0)),.d (.sc (.int .i64 0)),.d (.sc (.int .i64 0))]),Js 2 4 88,Js 4 5 89,Jt 6 90] [1,3,4,5,6]) (.seq (JR [Jf 91 0 1,Jl 92 91,Jc 93 3,Jx 94 1 92 93,Jl 95 94,Jn 96 95,Jt 7 96] [1,3,4,5,6,7]) (.seq (JW [(Jg 98 4 5,false,[5]),(Jf 99 0 1,false,[1]),(Jl 100 99,false,[1,99]),(Jc 101 3,false,[3]),(Jk 102 .add 101 1,false,[101]),(Jx 103 1 100 102,false,[1,100,102]),(Jl 104 103,false,[1,103]),(Jv 105 21 98 104,false,[1,5,98,104]),(Jt 97 105,true,[97,105]),(Je 106 0 97,true,[97,106]),(Je 107 1 97,true,[97,107]),(Je 108 2 97,true,[97,108]),(J 9 (.alloc [.d (.sc (.int .i64 0)),.d (.sc (.int .i64 0)),.d (.sc (.int .i64 0)),.d (.sc (.int .i64 0))]),false,[]),(Jt 8 106,true,[8,106,128,135,200]),(Js 4 9 107,true,[9,107]),(Jt 10 108,true,[10,108,109])] [1,3,4,5,6,7,8,10]) (.seq (.seq (JR [Jc 109 10,Jr 110 16 109,Jk 111 .neq 110 0] [1,3,4,5,6,7,8,111]) (.cond (.tmp 111) (.seq (JR [Jo 2 false] [2]) .ret) .skip)) (.seq (.seq (JR [Ji 11 0] [1,3,4,5,6,7,8,11]) (.block 2 (.loop (.seq (.seq (JR [Jc 112 11,Jf 113 7 1,Jl 114 113,Jn 115 114,Jb 116 .lss 112 115,Jc 117 116,Jcw 118 117 true 11,Jw 119 117 true (.bin none .lss (.tmp 118) (.con (.int .i64 5))),Jp 120 117 119] [1,3,4,5,6,7,8,11,120]) (.cond (.tmp 120) .skip (.exit 2))) (.seq (.block 3 (.seq (JR [Jf 123 7 1,Jl 124 123,Jc 125 11,Jx 126 1 124 125,Jl 127 126,Jc 128 8,Jn 129 128,Jk 130 .add 129 1,Jv 131 11 127 130,Jt 12 131] [1,3,4,5,6,7,8,11,12]) (.seq (JR [Jg 133 2 4,Jc 134 12,Jc 135 8,J 136 (.callr 22 [.tmp 133,.tmp 134,.tmp 135]),Jt 132 136,Je 137 0 132,Je 138 1 132,J 13 (.alloc [.own 9 [],.own 72 []]),Js 2 13 137,Jt 14 138] [1,3,4,5,6,7,8,11,12,13,14]) (.seq (JR [Jg 140 2 13,Jf 141 6 1,Jl 142 141,Jv 143 23 140 142,Jt 139 143,Je 144 0 139,Je 145 1 139,Js 2 13 144,Jt 15 145] [1,3,4,5,6,7,8,11,12,13,14,15]) (.seq (JR [Jg 147 2 13,Jc 148 7,Jv 149 12 147 148,Jt 146 149,Je 150 0 146,Je 151 1 146,Je 152 2 146,Je 153 3 146,J 18 (.alloc [.d (.sc (.int .i64 0)),.d (.sc (.int .i64 0)),.d (.sc (.int .i64 0)),.d (.sc (.int .i64 0))]),Jt 16 150,Jt 17 151,Js 4 18 152,Jt 19 153] [1,3,4,5,6,7,8,11,12,14,15,16,17,19]) (.seq (.seq (JR [Jc 154 14,Jr 155 16 154,Jk 156 .neq 155 0,Jc 157 156,Jcw 158 157 false 15,Jw 159 157 false (.callr 16 [.tmp 158]),Jw 160 157 false (.bin none .neq (.tmp 159) (.con (.int .i64 0))),Jq 161 157 160,Jc 162 161,Jcw 163 162 false 19,Jw 164 162 false (.callr 16 [.tmp 163]),Jw 165 162 false (.bin none .neq (.tmp 164) (.con (.int .i64 0))),Jq 166 162 165] [1,3,4,5,6,7,8,11,12,16,17,166]) (.cond (.tmp 166) (.seq (JR [Jo 2 false] [2]) .ret) .skip)) (.seq (JR [Jc 167 16,Jf 168 0 1,Jl 169 168,Jc 170 3,Jx 171 1 169 170,Jl 172 171,Jv 173 17 167 172,Jt 174 173,Jcw 175 174 true 17,Jcw 176 174 true 6,Jw 177 174 true (.callr 18 [.tmp 175,.tmp 176]),Jp 178 174 177,Jt 20 178] [1,3,4,5,6,7,8,11,12,16,17,20]) (.seq (JR [Jc 179 16,Jf 180 0 1,Jl 181 180,Jc 182 3,Jk 183 .add 182 1,Jx 184 1 181 183,Jl 185 184,Jv 186 17 179 185,Jt 187 186,Jcw 188 187 true 17,Jw 189 187 true (.len false (.tmp 188)),Jw 190 187 true (.bin none .eql (.tmp 189) (.con (.int .i64 0))),Jp 191 187 190,Jt 21 191] [1,3,4,5,6,7,8,11,12,20,21]) (.seq (JR [Jc 192 20,Ju 193 192,Jc 194 193,Jcw 195 194 true 21,Jw 196 194 true (.un .not (.tmp 195)),Jp 197 194 196,Jc 198 197,Jcw 199 198 false 12,Jcw 200 198 false 8,Jw 201 198 false (.len false (.tmp 200)),Jw 202 198 false (.bin none .eql (.tmp 199) (.tmp 201)),Jcw 203 198 false 202,Jcw 204 203 true 21,Jw 205 203 true (.un .not (.tmp 204)),Jw 206 198 false (.pick (.tmp 203) (.tmp 205) (.con (.bool false))),Jq 207 198 206] [1,3,4,5,6,7,8,11,207]) (.cond (.tmp 207) (.seq (JR [Jo 2 false] [2]) .ret) .skip)))))))))) (JR [Jc 121 11,Jk 122 .add 121 1,Jt 11 122] [1,3,4,5,6,7,8,11])))))) (.seq (JR [Jz 22 74] [1,3,4,5,6,7,22]) (.seq (JR [Jc 208 6,Jr 209 24 208,Jt 23 209] [1,3,4,5,6,7,22,23]) (.seq (.seq (JR [Ji 24 0] [1,3,4,5,6,7,22,23,24]) (.block 4 (.loop (.seq (.seq (JR [Jc 210 24,Jk 211 .lss 210 3,Jc 212 211,Jcw 213 212 true 24,Jfw 214 212 true 1 1,Jfw 215 212 true 0 214,Jlw 216 212 true 215,Jw 217 212 true (.len false (.tmp 216)),Jw 218 212 true (.bin none .lss (.tmp 213) (.tmp 217)),Jp 219 212 218] [1,3,4,5,6,7,22,23,24,219]) (.cond (.tmp 219) .skip (.exit 4))) (.seq (.block 5 (.seq (.seq (JW [(Jf 222 0 1,false,[1]),(Jl 223 222,false,[1,222]),(Jc 224 3,false,[3]),(Jx 225 1 223 224,false,[1,223,224]),(Jl 226 225,false,[1,225]),(Jf 227 1 1,false,[1]),(Jf 228 0 227,false,[1,227]),(Jl 229 228,false,[1,228]),(Jc 230 24,false,[24]),(Jc 231 24,false,[24]),(Jk 232 .add 231 1,false,[231]),(J 233 (.cut 2 (.tmp 229) (some (.tmp 230)) (some (.tmp 232))),false,[1,229,230,232]),(Jv 234 25 226 233,false,[1,226,233]),(Ju 235 234,false,[234])] [1,3,4,5,6,7,22,23,24,235]) (.cond (.tmp 235) (.exit 5) .skip)) (.seq (JW [(Jg 237 4 5,false,[5]),(Jf 238 1 1,false,[1]),(Jf 239 0 238,false,[1,238]),(Jl 240 239,false,[1,239]),(Jc 241 24,false,[24]),(Jx 242 2 240 241,false,[1,240,241]),(Jg 243 2 242,false,[1,242]),(Jv 244 26 237 243,false,[1,5,237,243]),(Jt 236 244,true,[236,244]),(Je 245 0 236,true,[236,245]),(Je 246 1 236,true,[236,246]),(Je 247 2 236,true,[236,247]),(J 26 (.alloc [.d (.sc (.int .i64 0)),.d (.sc (.int .i64 0)),.d (.sc (.int .i64 0)),.d (.sc (.int .i64 0))]),false,[]),(Jt 25 245,true,[25,245,252]),(Js 4 26 246,true,[26,246,254]),(Jt 27 247,true,[27,247,248])] [1,3,4,5,6,7,22,23,24,25,26,27]) (.seq (.seq (JR [Jc 248 27,Jr 249 16 248,Jk 250 .neq 249 0] [1,3,4,5,6,7,22,23,24,25,26,250]) (.cond (.tmp 250) (.exit 4) .skip)) (.seq (JR [Jc 251 22,Jc 252 25,J 253 (.app false 74 3 32 (.tmp 251) (.tmp 252)),Jt 22 253] [1,3,4,5,6,7,22,23,24,26]) (.seq (JR [Jg 254 4 26,Js 4 5 254] [1,3,4,5,6,7,22,23,24]) (JR [Jc 255 23,Jf 256 1 1,Jf 257 0 256,Jl 258 257,Jc 259 24,Jx 260 2 258 259,Jg 261 2 260,J 262 (.bslice 70 [.d (.sc (.int .i64 0)),.own 78 []] 1 [(0,.tmp 261)]),J 263 (.app false 70 2 32 (.tmp 255) (.tmp 262)),Jt 23 263] [1,3,4,5,6,7,22,23,24]))))))) (JR [Jc 220 24,Jk 221 .add 220 1,Jt 24 221] [1,3,4,5,6,7,22,23,24])))))) (.seq (JR [Jc 264 22,J 265 (.build true [.d (.sc (.bool false)),.d (.sc (.int .i64 0)),.d (.sc (.string (bs [])))] [(0,1,.con (.bool true))]),J 266 (.bslice 74 [.d (.sc (.bool false)),.d (.sc (.int .i64 0)),.d (.sc (.string (bs [])))] 1 [(0,.tmp 265)]),J 267 (.app false 74 3 32 (.tmp 264) (.tmp 266)),Jt 22 267] [1,3,4,6,7,22,23]) (.seq (JR [Ji 28 0] [1,3,4,6,7,22,23,28]) (.block 6 (.loop (.seq (.seq (JR [Jc 268 28,Jf 269 7 1,Jl 270 269,Jn 271 270,Jb 272 .lss 268 271,Jc 273 272,Jcw 274 273 true 28,Jw 275 273 true (.bin none .lss (.tmp 274) (.con (.int .i64 5))),Jp 276 273 275] [1,3,4,6,7,22,23,28,276]) (.cond (.tmp 276) .skip (.exit 6))) (.seq (.block 7 (.seq (JR [Jf 279 7 1,Jl 280 279,Jc 281 28,Jx 282 1 280 281,Jl 283 282,Jc 284 22,Jn 285 284,Jk 286 .add 285 1,Jv 287 11 283 286,Jt 29 287] [1,3,4,6,7,22,23,28,29]) (.seq (JR [Jg 289 2 4,Jc 290 29,Jc 291 22,J 292 (.callr 22 [.tmp 289,.tmp 290,.tmp 291]),Jt 288 292,Je 293 0 288,Je 294 1 288,J 30 (.alloc [.own 9 [],.own 72 []]),Js 2 30 293,Jt 31 294] [1,3,4,6,7,22,23,28,29,30,31]) (.seq (JR [Jg 296 2 30,Jf 297 6 1,Jl 298 297,Jv 299 23 296 298,Jt 295 299,Je 300 0 295,Je 301 1 295,Js 2 30 300,Jt 32 301] [1,3,4,6,7,22,23,28,29,30,31,32]) (.seq (JR [Jg 303 2 30,Jc 304 7,Jv 305 12 303 304,Jt 302 305,Je 306 0 302,Je 307 1 302,Je 308 2 302,Je 309 3 302,J 35 (.alloc [.d (.sc (.int .i64 0)),.d (.sc (.int .i64 0)),.d (.sc (.int .i64 0)),.d (.sc (.int .i64 0))]),Jt 33 306,Jt 34 307,Js 4 35 308,Jt 36 309] [1,3,4,6,7,22,23,28,29,31,32,33,34,36]) (.seq (JR [Jc 310 31,Jr 311 16 310,Jk 312 .neq 311 0,Jc 313 312,Jcw 314 313 false 32,Jw 315 313 false (.callr 16 [.tmp 314]),Jw 316 313 false (.bin none .neq (.tmp 315) (.con (.int .i64 0))),Jq 317 313 316,Jc 318 317,Jcw 319 318 false 36,Jw 320 318 false (.callr 16 [.tmp 319]),Jw 321 318 false (.bin none .neq (.tmp 320) (.con (.int .i64 0))),Jq 322 318 321,Jc 323 322,Jcw 324 323 false 33,Jfw 325 323 false 0 1,Jlw 326 323 false 325,Jcw 327 323 false 3,Jw 328 323 false (.indexA 1 (.tmp 326) (.tmp 327)),Jlw 329 323 false 328,Jw 330 323 false (.callr 17 [.tmp 324,.tmp 329]),Jw 331 323 false (.un .not (.tmp 330)),Jq 332 323 331,Jc 333 332,Jcw 334 333 false 34,Jw 335 333 false (.len false (.tmp 334)),Jcw 336 333 false 6,Jw 337 333 false (.len false (.tmp 336)),Jw 338 333 false (.bin none .lss (.tmp 335) (.tmp 337)),Jq 339 333 338,Jc 340 339,Jcw 341 340 false 34,Jw 342 340 false (.len false (.tmp 341)),Jcw 343 340 false 23,Jw 344 340 false (.len false (.tmp 343)),Jw 345 340 false (.bin none .gtr (.tmp 342) (.tmp 344)),Jq 346 340 345,Jc 347 346,Jcw 348 347 false 34,Jw 349 347 false (.mov .fz (.tmp 23)),Jcw 350 347 false 34,Jw 351 347 false (.len false (.tmp 350)),Jw 352 347 false (.cut 2 (.tmp 349) none (some (.tmp 351))),Jw 353 347 false (.callr 18 [.tmp 348,.tmp 352]),Jw 354 347 false (.un .not (.tmp 353)),Jq 355 347 354,Jc 356 355,Jcw 357 356 false 29,Jcw 358 356 false 22,Jw 359 356 false (.len false (.tmp 358)),Jw 360 356 false (.bin none .eql (.tmp 357) (.tmp 359)),Jcw 361 356 false 360,Jcw 362 361 true 34,Jw 363 361 true (.len false (.tmp 362)),Jcw 364 361 true 23,Jw 365 361 true (.len false (.tmp 364)),Jw 366 361 true (.bin none .neq (.tmp 363) (.tmp 365)),Jw 367 356 false (.pick (.tmp 361) (.tmp 366) (.con (.bool false))),Jq 368 356 367] [1,3,4,6,7,22,23,28,368]) (.cond (.tmp 368) (.seq (JR [Jo 2 false] [2]) .ret) .skip))))))) (JR [Jc 277 28,Jk 278 .add 277 1,Jt 28 278] [1,3,4,6,7,22,23,28]))))))))))))))))) (JR [Jc 49 3,Jk 50 .add 49 1,Jt 3 50] [1,3])))))) (.seq (JR [J 369 (.callr 20 []),Jt 2 369] [2]) .ret)))
def pf4 : PFunc := ⟨1, [.ro], g4.un, [.tmp 2], b4⟩
theorem pe4 : prepF Go.Proofs.Tryz.prog a4 Go.Proofs.Tryz.f4 = some pf4 := by kernel_rfl
def b6 : IC := .seq (JR [Jy 1 0,Jo 2 false] [1]) (.seq (JR [Jf 5 0 1,Jl 6 5,Jn 7 6,Jf 8 5 1,Jl 9 8,Jn 10 9,Jb 11 .add 7 10,Jf 12 6 1,Jl 13 12,Jn 14 13,Jb 15 .add 11 14,Jf 16 7 1,Jl 17 16,Jn 18 17,Jb 19 .add 15 18,Jt 3 19] [1,3]) (.seq (.seq (JR [Ji 4 0] [1,3,4]) (.block 0 (.loop (.seq (.seq (JR [Jc 20 4,Jf 21 0 1,Jl 22 21,Jn 23 22,Jb 24 .lss 20 23,Jc 25 24,Jcw 26 25 true 3,Jw 27 25 true (.bin none .lss (.tmp 26) (.con (.int .i64 1048576))),Jp 28 25 27] [1,3,4,28]) (.cond (.tmp 28) .skip (.exit 0))) (.seq (.block 1 (JR [Jc 31 3,Jf 32 0 1,Jl 33 32,Jc 34 4,Jx 35 1 33 34,Jl 36 35,Jr 37 28 36,Jb 38 .add 31 37,Jt 3 38] [1,3,4])) (JR [Jc 29 4,Jk 30 .add 29 1,Jt 4 30] [1,3,4])))))) (.seq (JR [Jc 39 3,Jk 40 .gtr 39 700,Jc 41 40,Jfw 42 41 false 1 1,Jw 43 41 false (.load .cp true 4 (.tmp 42)),Jw 44 41 false (.callr 29 [.tmp 43]),Jq 45 41 44,Jt 2 45] [2]) .ret)))
def pf6 : PFunc := ⟨1, [.ro], g6.un, [.tmp 2], b6⟩
theorem pe6 : prepF Go.Proofs.Tryz.prog a6 Go.Proofs.Tryz.f6 = some pf6 := by kernel_rfl
def b7 : IC := .seq (JR [J 2 (.alloc [.own 9 [],.own 72 []])] [0,2]) (.seq (JR [J 3 (.alloc [.own 9 [],.own 72 []])] [0,2,3]) (.seq (.seq (JR [Ji 4 0] [0,2,3,4]) (.block 0 (.loop (.seq (.seq (JR [Jc 5 4,Jc 6 0,Jb 7 .lss 5 6] [0,2,3,4,7]) (.cond (.tmp 7) .skip (.exit 0))) (.seq (.block 1 (JW [(Jf 10 0 3,false,[3]),(Jl 11 10,false,[3,10]),(J 12 (.callr 30 [.con (.int .i64 32)]),false,[]),(J 13 (.bslice 9 [.d (.sc (.string (bs [])))] 1 [(0,.tmp 12)]),true,[12,13]),(J 14 (.app false 9 1 16 (.tmp 11) (.tmp 13)),true,[3,10,11,13,14,15,16]),(Jf 15 0 3,false,[3]),(Js 1 15 14,true,[3,10,11,14,15,16])] [0,2,3,4])) (JR [Jc 8 4,Jk 9 .add 8 1,Jt 4 9] [0,2,3,4])))))) (.seq (JR [Jg 16 2 3,Js 2 2 16] [2]) .ret)))
def pf7 : PFunc := ⟨1, [.ro], g7.un, [.cell 2 true 2], b7⟩
theorem pe7 : prepF Go.Proofs.Tryz.prog a7 Go.Proofs.Tryz.f7 = some pf7 := by kernel_rfl
def b8 : IC := .seq (JR [Jo 2 false] [0]) (.seq (JR [Jc 3 0,Jr 4 31 3,Jt 5 4,Jcw 6 5 true 0,Jw 7 5 true (.len false (.tmp 6)),Jw 8 5 true (.bin none .gtr (.tmp 7) (.con (.int .i64 0))),Jp 9 5 8,Jc 10 9,Jcw 11 10 true 0,Jw 12 10 true (.callr 32 [.tmp 11]),Jw 13 10 true (.len false (.tmp 12)),Jw 14 10 true (.bin none .leq (.tmp 13) (.con (.int .i64 64))),Jp 15 10 14,Jt 2 15] [2]) .ret)
def pf8 : PFunc := ⟨1, [.ro], g8.un, [.tmp 2], b8⟩
theorem pe8 : prepF Go.Proofs.Tryz.prog a8 Go.Proofs.Tryz.f8 = some pf8 := by kernel_rfl
def b9 : IC := .seq (JR [Jy 2 0,J 4 (.alloc [.own 9 [],.own 72 []]),J 5 (.alloc [.d (.sc (.int .i64 0)),.d (.sc (.int .i64 0)),.d (.sc (.int .i64 0)),.d (.sc (.int .i64 0))]),Jz 6 70] [1,2,4,5]) (.seq (JR [Jc 18 1,Jk 19 .rem 18 3,J 20 (.bin none .add (.con (.int .i64 1)) (.tmp 19)),Jc 21 1,Jk 22 .rem 21 2,Jf 23 0 2,Jl 24 23,Jc 25 1,Jx 26 1 24 25,Jl 27 26,J 28 (.callr 33 [.tmp 20,.tmp 22,.tmp 27]),Jt 17 28,Je 29 0 17,Je 30 1 17,Je 31 2 17,J 8 (.alloc [.d (.sc (.int .i64 0)),.d (.sc (.int .i64 0)),.d (.sc (.int .i64 0)),.d (.sc (.int .i64 0))]),Jt 7 29,Js 4 8 30,Jt 9 31] [1,2,4,5,7,8]) (.seq (JR [J 33 (.callr 7 [.con (.int .i64 512)]),Jc 34 7,J 35 (.call 34 [.tmp 33,.con (.int .i64 (-1)),.tmp 34]),Jt 32 35,Je 36 0 32,Je 37 1 32,J 10 (.alloc [.own 9 [],.own 72 []]),Js 2 10 36,Jt 11 37] [1,2,4,5,8,10]) (.seq (JR [Jz 12 70] [1,2,4,5,8,10,12]) (.seq (.seq (JR [Ji 13 0] [1,2,4,5,8,10,12,13]) (.block 0 (.loop (.seq (.seq (JR [Jc 38 13,Jf 39 1 2,Jf 40 0 39,Jl 41 40,Jn 42 41,Jb 43 .lss 38 42,Jc 44 43,Jcw 45 44 true 13,Jw 46 44 true (.bin none .lss (.tmp 45) (.con (.int .i64 4))),Jp 47 44 46] [1,2,4,5,8,10,12,13,47]) (.cond (.tmp 47) .skip (.exit 0))) (.seq (.block 1 (.seq (.seq (JW [(Jf 50 0 2,false,[2]),(Jl 51 50,false,[2,50]),(Jc 52 1,false,[1]),(Jx 53 1 51 52,false,[2,51,52]),(Jl 54 53,false,[2,53]),(Jf 55 1 2,false,[2]),(Jf 56 0 55,false,[2,55]),(Jl 57 56,false,[2,56]),(Jc 58 13,false,[13]),(Jc 59 13,false,[13]),(Jk 60 .add 59 1,false,[59]),(J 61 (.cut 2 (.tmp 57) (some (.tmp 58)) (some (.tmp 60))),false,[2,57,58,60]),(Jv 62 25 54 61,false,[2,54,61]),(Ju 63 62,false,[62])] [1,2,4,5,8,10,12,13,63]) (.cond (.tmp 63) (.exit 1) .skip)) (.seq (JW [(Jg 65 4 8,false,[8]),(Jf 66 1 2,false,[2]),(Jf 67 0 66,false,[2,66]),(Jl 68 67,false,[2,67]),(Jc 69 13,false,[13]),(Jx 70 2 68 69,false,[2,68,69]),(Jg 71 2 70,false,[2,70]),(Jv 72 35 65 71,false,[2,8,65,71]),(Jt 64 72,true,[64,72]),(Je 73 0 64,true,[64,73]),(Je 74 1 64,true,[64,74]),(Je 75 2 64,true,[64,75]),(J 15 (.alloc [.d (.sc (.int .i64 0)),.d (.sc (.int .i64 0)),.d (.sc (.int .i64 0)),.d (.sc (.int .i64 0))]),false,[]),(Jt 14 73,true,[14,73,80]),(Js 4 15 74,true,[15,74,84]),(Jt 16 75,true,[16,75])] [1,2,4,5,8,10,12,13,14,15,16]) (.seq (.seq (JR [Jc 76 16,Jk 77 .neq 76 0] [1,2,4,5,8,10,12,13,14,15,77]) (.cond (.tmp 77) (.exit 1) .skip)) (.seq (JR [Jg 79 2 10,Jc 80 14,J 81 (.call 34 [.tmp 79,.con (.int .i64 (-1)),.tmp 80]),Jt 78 81,Je 82 0 78,Je 83 1 78,Js 2 10 82] [1,2,4,5,8,10,12,13,15]) (.seq (JR [Jg 84 4 15,Js 4 8 84] [1,2,4,5,8,10,12,13]) (JR [Jc 85 12,Jf 86 1 2,Jf 87 0 86,Jl 88 87,Jc 89 13,Jx 90 2 88 89,Jg 91 2 90,J 92 (.bslice 70 [.d (.sc (.int .i64 0)),.own 78 []] 1 [(0,.tmp 91)]),J 93 (.app false 70 2 32 (.tmp 85) (.tmp 92)),Jt 12 93] [1,2,4,5,8,10,12,13]))))))) (JR [Jc 48 13,Jk 49 .add 48 1,Jt 13 49] [1,2,4,5,8,10,12,13])))))) (.seq (JW [(Jg 94 2 10,false,[10]),(J 95 (.bslice 3 [.d (.sc (.int .i64 0))] 1 [(0,.con (.int .i64 1))]),true,[95]),(Jv 96 36 94 95,false,[10,94,95]),(Jg 97 4 8,false,[8]),(Jc 98 12,false,[12]),(Js 2 4 96,true,[4,96]),(Js 4 5 97,true,[5,8,65,97]),(Jt 6 98,true,[6,12,85,98])] [4,5,6,12]) .ret)))))
def pf9 : PFunc := ⟨2, [.ro, .ro], g9.un, [.cell 4 true 2, .cell 5 true 4, .tmp 6], b9⟩
theorem pe9 : prepF Go.Proofs.Tryz.prog a9 Go.Proofs.Tryz.f9 = some pf9 := by kernel_rfl
def b10 : IC := .seq (JR [Jy 1 0,J 2 (.alloc [.own 9 [],.own 72 []])] [1,2]) (.seq (JR [Jg 4 2 1,J 3 (.alloc [.own 9 [],.own 72 []]),Js 2 3 4] [1,2,3]) (.seq (JR [Jf 5 0 1,Jl 6 5,Jr 7 37 6,Jf 8 0 3,Js 1 8 7] [1,2,3]) (.seq (JR [Jf 9 1 1,Jl 10 9,Jr 11 38 10,Jf 12 1 3,Js 1 12 11] [2,3]) (.seq (JR [Jg 13 2 3,Js 2 2 13] [2]) .ret))))
def pf10 : PFunc := ⟨1, [.ro], g10.un, [.cell 2 true 2], b10⟩
theorem pe10 : prepF Go.Proofs.Tryz.prog a10 Go.Proofs.Tryz.f10 = some pf10 := by kernel_rfl
def b11 : IC := .seq (JR [Ji 4 0] [0,1]) (.seq (JR [Jc 5 0,J 6 (.conv .u64 (.tmp 5)),Jc 7 1,J 8 (.conv .u64 (.tmp 7)),Jb 9 .rem 6 8,J 10 (.conv .i64 (.tmp 9)),Jt 4 10] [4]) .ret)
def pf11 : PFunc := ⟨2, [.ro, .ro], g11.un, [.tmp 4], b11⟩
theorem pe11 : prepF Go.Proofs.Tryz.prog a11 Go.Proofs.Tryz.f11 = some pf11 := by kernel_rfl
def b12 : IC := .seq (JR [Jy 2 0,Jz 4 79,Jz 5 70,J 6 (.alloc [.d (.sc (.int .i64 0)),.d (.sc (.int .i64 0)),.d (.sc (.int .i64 0)),.d (.sc (.int .i64 0))]),Ji 7 0] [1,2,6]) (.seq (.seq (JR [Jg 12 2 2,Jr 13 39 12,Ju 14 13,Jc 15 14,Jfw 16 15 false 0 2,Jlw 17 15 false 16,Jw 18 15 false (.len false (.tmp 17)),Jw 19 15 false (.bin none .neq (.tmp 18) (.con (.int .i64 512))),Jq 20 15 19,Jc 21 20,Jfw 22 21 false 1 2,Jlw 23 21 false 22,Jw 24 21 false (.len false (.tmp 23)),Jw 25 21 false (.bin none .gtr (.tmp 24) (.con (.int .i64 0))),Jq 26 21 25,Jc 27 26,Jcw 28 27 false 1,Jw 29 27 false (.bin none .lss (.tmp 28) (.con (.int .i64 1))),Jq 30 27 29,Jc 31 30,Jcw 32 31 false 1,Jw 33 31 false (.bin none .gtr (.tmp 32) (.con (.int .i64 3))),Jq 34 31 33] [1,2,6,34]) (.cond (.tmp 34) (.seq (JW [(Jg 35 4 6,false,[6]),(Jz 4 79,true,[4,91]),(Jz 5 70,true,[5,86,92]),(Js 4 6 35,true,[6,35,47,57,79,89,90,93]),(Ji 7 1,true,[7])] [4,5,6,7]) .ret) .skip)) (.seq (JR [Jf 37 0 2,Jl 38 37,J 39 (.indexA 1 (.tmp 38) (.con (.int .i64 0))),Jl 40 39,Jr 41 40 40,Jt 36 41,Je 42 0 36,Je 43 1 36,Js 4 6 42,Jt 8 43] [1,2,6,8]) (.seq (.seq (JR [Jc 44 8,Ju 45 44] [1,2,6,45]) (.cond (.tmp 45) (.seq (JR [J 46 (.build true [.d (.sc (.int .i64 0)),.d (.sc (.int .i64 0)),.d (.sc (.int .i64 0)),.d (.sc (.int .i64 0))] []),Jz 4 79,Jz 5 70,Js 4 6 46,Ji 7 10] [4,5,6,7]) .ret) .skip)) (.seq (JR [Jf 47 1 6,Jl 48 47,Jr 49 41 48,Jt 9 49] [1,2,6,9]) (.seq (JW [(Jf 51 0 2,false,[2]),(Jl 52 51,false,[2,51]),(Jc 53 9,false,[9]),(Jc 54 9,false,[9]),(Jk 55 .add 54 127,false,[54]),(J 56 (.cut 1 (.tmp 52) (some (.tmp 53)) (some (.tmp 55))),false,[2,52,53,55]),(Jf 57 0 6,false,[6]),(Jl 58 57,false,[6,57]),(J 59 (.callr 42 [.tmp 56,.tmp 58,.con (.int .i64 0)]),false,[56,58]),(Jt 50 59,true,[50,59]),(Je 60 0 50,true,[50,60]),(Je 61 1 50,true,[50,61]),(J 10 (.alloc [.d (.sc (.int .i64 0)),.own 78 []]),false,[]),(Js 2 10 60,true,[10,60,63]),(Jt 11 61,true,[11,61])] [1,2,6,10,11]) (.seq (JR [Jg 63 2 10,Jc 64 1,Jv 65 43 63 64,Jt 62 65,Je 66 0 62,Je 67 1 62,Jt 4 66,Jt 8 67] [2,4,6,8,11]) (.seq (.seq (JR [Jc 68 11,Jk 69 .eql 68 0,Jc 70 69,Jcw 71 70 false 8,Jw 72 70 false (.un .not (.tmp 71)),Jq 73 70 72] [2,4,6,73]) (.cond (.tmp 73) (.seq (JR [J 74 (.build true [.d (.sc (.int .i64 0)),.d (.sc (.int .i64 0)),.d (.sc (.int .i64 0)),.d (.sc (.int .i64 0))] []),Jz 4 79,Jz 5 70,Js 4 6 74,Ji 7 10] [4,5,6,7]) .ret) .skip)) (.seq (JW [(Jf 76 0 2,false,[2]),(Jl 77 76,false,[2,76]),(J 78 (.cut 1 (.tmp 77) (some (.con (.int .i64 255))) none),false,[2,77]),(Jf 79 0 6,false,[6]),(Jl 80 79,false,[6,79]),(J 81 (.callr 44 [.tmp 78,.tmp 80,.con (.int .i64 1)]),false,[78,80]),(Jt 75 81,true,[75,81]),(Je 82 0 75,true,[75,82]),(Je 83 1 75,true,[75,83]),(Jt 5 82,true,[5,82,86,92]),(Jt 11 83,true,[11,83])] [4,5,6,11]) (.seq (JR [Jc 84 11,J 85 (.bin none .add (.con (.int .i64 255)) (.tmp 84)),Jc 86 5,Jn 87 86,J 88 (.bin none .add (.con (.int .i64 1)) (.tmp 87)),Jf 89 2 6,Js 1 89 85,Jf 90 3 6,Js 1 90 88] [4,5,6]) (.seq (JW [(Jc 91 4,false,[4]),(Jc 92 5,false,[5]),(Jg 93 4 6,false,[6]),(Jt 4 91,true,[4,91]),(Jt 5 92,true,[5,86,92]),(Js 4 6 93,true,[6,35,47,57,79,89,90,93]),(Ji 7 0,true,[7])] [4,5,6,7]) .ret))))))))))
def pf12 : PFunc := ⟨2, [.ro, .ro], g12.un, [.tmp 4, .tmp 5, .cell 6 true 4, .tmp 7], b12⟩
theorem pe12 : prepF Go.Proofs.Tryz.prog a12 Go.Proofs.Tryz.f12 = some pf12 := by kernel_rfl
def b14 : IC := .seq (JR [Jo 6 false] [0,1,2]) (.seq (JR [Jc 7 0,Jc 8 1,Jb 9 .geq 7 8,Jc 10 9,Jcw 11 10 true 0,Jcw 12 10 true 2,Jw 13 10 true (.bin none .leq (.tmp 11) (.tmp 12)),Jp 14 10 13,Jt 6 14] [6]) .ret)
def pf14 : PFunc := ⟨3, [.ro, .ro, .ro], g14.un, [.tmp 6], b14⟩
theorem pe14 : prepF Go.Proofs.Tryz.prog a14 Go.Proofs.Tryz.f14 = some pf14 := by kernel_rfl
def b16 : IC := .seq (JR [Ji 2 0] [0]) (.seq (JR [Jc 3 0,Jt 2 3] [2]) .ret)
def pf16 : PFunc := ⟨1, [.ro], g16.un, [.tmp 2], b16⟩
theorem pe16 : prepF Go.Proofs.Tryz.prog a16 Go.Proofs.Tryz.f16 = some pf16 := by kernel_rfl
def b17 : IC := .seq (JR [Jo 4 false] [0,1]) (.seq (.seq (JR [Jc 6 0,Jn 7 6,Jc 8 1,Jn 9 8,Jb 10 .neq 7 9] [0,1,10]) (.cond (.tmp 10) (.seq (JR [Jo 4 false] [4]) .ret) .skip)) (.seq (.seq (JR [Ji 5 0] [0,1,5]) (.block 0 (.loop (.seq (.seq (JR [Jc 11 5,Jc 12 0,Jn 13 12,Jb 14 .lss 11 13] [0,1,5,14]) (.cond (.tmp 14) .skip (.exit 0))) (.seq (.block 1 (.seq (JW [(Jc 17 0,false,[0]),(Jc 18 5,false,[5]),(Jx 19 1 17 18,false,[17,18]),(Jl 20 19,false,[19]),(Jc 21 1,false,[1]),(Jc 22 5,false,[5]),(Jx 23 1 21 22,false,[21,22]),(Jl 24 23,false,[23]),(Jv 25 52 20 24,false,[20,24]),(Ju 26 25,false,[25])] [0,1,5,26]) (.cond (.tmp 26) (.seq (JR [Jo 4 false] [4]) .ret) .skip))) (JR [Jc 15 5,Jk 16 .add 15 1,Jt 5 16] [0,1,5])))))) (.seq (JR [Jo 4 true] [4]) .ret)))
def pf17 : PFunc := ⟨2, [.ro, .ro], g17.un, [.tmp 4], b17⟩
theorem pe17 : prepF Go.Proofs.Tryz.prog a17 Go.Proofs.Tryz.f17 = some pf17 := by kernel_rfl
def b18 : IC := .seq (JR [Jo 4 false] [0,1]) (.seq (.seq (JR [Jc 6 0,Jn 7 6,Jc 8 1,Jn 9 8,Jb 10 .neq 7 9] [0,1,10]) (.cond (.tmp 10) (.seq (JR [Jo 4 false] [4]) .ret) .skip)) (.seq (.seq (JR [Ji 5 0] [0,1,5]) (.block 0 (.loop (.seq (.seq (JR [Jc 11 5,Jc 12 0,Jn 13 12,Jb 14 .lss 11 13] [0,1,5,14]) (.cond (.tmp 14) .skip (.exit 0))) (.seq (.block 1 (.seq (JW [(Jc 17 0,false,[0]),(Jc 18 5,false,[5]),(Jx 19 2 17 18,false,[17,18]),(Jg 20 2 19,false,[19]),(Jc 21 1,false,[1]),(Jc 22 5,false,[5]),(Jx 23 2 21 22,false,[21,22]),(Jg 24 2 23,false,[23]),(Jv 25 53 20 24,false,[20,24]),(Ju 26 25,false,[25])] [0,1,5,26]) (.cond (.tmp 26) (.seq (JR [Jo 4 false] [4]) .ret) .skip))) (JR [Jc 15 5,Jk 16 .add 15 1,Jt 5 16] [0,1,5])))))) (.seq (JR [Jo 4 true] [4]) .ret)))
def pf18 : PFunc := ⟨2, [.ro, .ro], g18.un, [.tmp 4], b18⟩
theorem pe18 : prepF Go.Proofs.Tryz.prog a18 Go.Proofs.Tryz.f18 = some pf18 := by kernel_rfl
def b20 : IC := .seq (JR [Jo 0 false] []) (.seq (JR [J 11 (.build true [.d (.sc (.string (bs []))),.d (.sc (.string (bs [])))] [(0,1,.con (.str (bs [97]))),(1,1,.con (.str (bs [118])))]),J 12 (.bslice 81 [.d (.sc (.string (bs []))),.d (.sc (.string (bs [])))] 1 [(0,.tmp 11)]),J 13 (.bslice 79 [.own 81 []] 1 [(0,.tmp 12)]),Jt 1 13] [1]) (.seq (JR [Jc 15 1,Jr 16 56 15,Jt 14 16,Je 17 0 14,Je 18 1 14,Je 19 2 14,J 3 (.alloc [.d (.sc (.int .i64 0)),.d (.sc (.int .i64 0)),.d (.sc (.int .i64 0)),.d (.sc (.int .i64 0))]),Jt 2 17,Js 4 3 18,Jt 4 19] [1,2,4]) (.seq (JR [J 21 (.callr 7 [.con (.int .i64 512)]),Jc 22 2,J 23 (.call 22 [.tmp 21,.con (.int .i64 (-1)),.tmp 22]),Jt 20 23,Je 24 0 20,Je 25 1 20,J 5 (.alloc [.own 9 [],.own 72 []]),Js 2 5 24,Jt 6 25] [1,4,5,6]) (.seq (JR [Jg 27 2 5,J 28 (.callr 12 [.tmp 27,.con (.int .i64 1)]),Jt 26 28,Je 29 0 26,Je 30 1 26,Je 31 2 26,Je 32 3 26,J 9 (.alloc [.d (.sc (.int .i64 0)),.d (.sc (.int .i64 0)),.d (.sc (.int .i64 0)),.d (.sc (.int .i64 0))]),Jt 7 29,Jt 8 30,Js 4 9 31,Jt 10 32] [1,4,6,7,10]) (.seq (JR [Jc 33 4,Jr 34 16 33,Jk 35 .eql 34 0,Jc 36 35,Jcw 37 36 true 6,Jw 38 36 true (.callr 16 [.tmp 37]),Jw 39 36 true (.bin none .eql (.tmp 38) (.con (.int .i64 0))),Jp 40 36 39,Jc 41 40,Jcw 42 41 true 10,Jw 43 41 true (.callr 16 [.tmp 42]),Jw 44 41 true (.bin none .eql (.tmp 43) (.con (.int .i64 0))),Jp 45 41 44,Jc 46 45,Jcw 47 46 true 7,Jcw 48 46 true 1,Jw 49 46 true (.callr 17 [.tmp 47,.tmp 48]),Jp 50 46 49,Jt 0 50] [0]) .ret)))))
def pf20 : PFunc := ⟨0, [], g20.un, [.tmp 0], b20⟩
theorem pe20 : prepF Go.Proofs.Tryz.prog a20 Go.Proofs.Tryz.f20 = some pf20 := by kernel_rfl
def b21 : IC := .seq (JR [Jy 2 0,Jz 4 74,J 5 (.alloc [.d (.sc (.int .i64 0)),.d (.sc (.int .i64 0)),.d (.sc (.int .i64 0)),.d (.sc (.int .i64 0))]),Ji 6 0] [1,2,5]) (.seq (.seq (JR [Jg 7 4 2,Jr 8 57 7,Ju 9 8] [1,2,5,9]) (.cond (.tmp 9) (.seq (JR [J 10 (.build true [.d (.sc (.int .i64 0)),.d (.sc (.int .i64 0)),.d (.sc (.int .i64 0)),.d (.sc (.int .i64 0))] []),Jz 4 74,Js 4 5 10,Ji 6 1] [4,5,6]) .ret) .skip)) (.seq (JR [Jf 11 0 2,Jl 12 11,Jk 13 .add 12 1,Jf 14 1 2,Jl 15 14,J 16 (.bin none .sub (.con (.int .i64 1)) (.tmp 15)),Jc 17 1,J 18 (.callr 58 [.tmp 13,.tmp 16,.tmp 17]),Je 19 0 18,Je 20 1 18,Je 21 2 18,Jt 4 19,Js 4 5 20,Jt 6 21] [4,5,6]) .ret))
def pf21 : PFunc := ⟨2, [.ro, .ro], g21.un, [.tmp 4, .cell 5 true 4, .tmp 6], b21⟩
theorem pe21 : prepF Go.Proofs.Tryz.prog a21 Go.Proofs.Tryz.f21 = some pf21 := by kernel_rfl
def b22 : IC := .seq (JR [Jy 3 0,J 6 (.alloc [.own 9 [],.own 72 []]),Ji 7 0] [1,2,3,6]) (.seq (.seq (JR [Jg 11 2 3,Jr 12 39 11,Ju 13 12,Jc 14 13,Jcw 15 14 false 1,Jw 16 14 false (.bin none .lss (.tmp 15) (.con (.int .i64 (-1)))),Jq 17 14 16] [1,2,3,6,17]) (.cond (.tmp 17) (.seq (JR [J 18 (.build true [.own 9 [],.own 72 []] []),Js 2 6 18,Ji 7 1] [6,7,10]) .ret) .skip)) (.seq (JR [Jg 19 2 3,Jr 20 59 19,Js 2 3 20] [1,2,3,6]) (.seq (.seq (JR [Jc 21 2,Jn 22 21,J 23 (.mov .cp (.con (.int .i64 0)))] [1,3,6,21,22,23]) (.block 0 (.loop (.seq (JR [Jb 24 .lss 23 22] [1,3,6,21,22,23,24]) (.seq (.cond (.tmp 24) .skip (.exit 0)) (.seq (.block 1 (.seq (JR [Jc 25 23,Jx 26 3 21 23,Jg 27 3 26,J 9 (.alloc [.d (.sc (.bool false)),.d (.sc (.int .i64 0)),.d (.sc (.string (bs [])))]),Jt 8 25,Js 3 9 27] [1,3,6,8,9,21,22,23]) (.seq (.seq (JR [Jc 28 8,Jc 29 1,Jb 30 .eql 28 29] [1,3,6,9,21,22,23,30]) (.cond (.tmp 30) (.exit 0) .skip)) (.seq (JR [Jg 31 3 9,J 32 (.call 60 [.tmp 3,.tmp 31]),Jt 10 32] [1,3,6,10,21,22,23]) (.seq (JR [Jc 33 10,Jk 34 .neq 33 0] [1,3,6,10,21,22,23,34]) (.cond (.tmp 34) (.seq (JR [J 35 (.build true [.own 9 [],.own 72 []] []),Jc 36 10,Js 2 6 35,Jt 7 36] [6,7,10]) .ret) .skip)))))) (JR [Jk 37 .add 23 1,Jc 23 37] [1,3,6,21,22,23]))))))) (.seq (JR [Jg 38 2 3,Js 2 6 38,Ji 7 0] [6,7,10]) .ret))))
def pf22 : PFunc := ⟨3, [.ro, .ro, .ro], g22.un, [.cell 6 true 2, .tmp 7], b22⟩
theorem pe22 : prepF Go.Proofs.Tryz.prog a22 Go.Proofs.Tryz.f22 = some pf22 := by kernel_rfl
def b23 : IC := .seq (JR [Jy 2 0,J 4 (.alloc [.own 9 [],.own 72 []]),Ji 5 0] [1,2,4]) (.seq (.seq (JR [Jg 8 2 2,Jr 9 39 8,Ju 10 9] [1,2,4,10]) (.cond (.tmp 10) (.seq (JR [J 11 (.build true [.own 9 [],.own 72 []] []),Js 2 4 11,Ji 5 1] [4,5]) .ret) .skip)) (.seq (JR [Jg 12 2 2,Jr 13 59 12,Js 2 2 13] [1,2,4]) (.seq (.seq (JR [Jf 14 1 2,Jl 15 14,Jn 16 15,J 17 (.mov .cp (.con (.int .i64 0)))] [1,2,4,15,16,17]) (.block 0 (.loop (.seq (JR [Jb 18 .lss 17 16] [1,2,4,15,16,17,18]) (.seq (.cond (.tmp 18) .skip (.exit 0)) (.seq (.block 1 (.seq (JR [Jc 19 17,Jx 20 2 15 17,Jg 21 2 20,J 7 (.alloc [.d (.sc (.int .i64 0)),.d (.sc (.string (bs [])))]),Jt 6 19,Js 2 7 21] [1,2,4,6,7,15,16,17]) (.seq (JR [Jc 22 1,Jn 23 22,Jk 24 .gtr 23 0,Jc 25 24,Jcw 26 25 true 1,Jcw 27 25 true 6,Jcw 28 25 true 1,Jw 29 25 true (.len false (.tmp 28)),Jw 30 25 true (.bin none .rem (.tmp 27) (.tmp 29)),Jw 31 25 true (.indexA 1 (.tmp 26) (.tmp 30)),Jlw 32 25 true 31,Jw 33 25 true (.bin none .and (.tmp 32) (.con (.int .i64 1))),Jw 34 25 true (.bin none .eql (.tmp 33) (.con (.int .i64 1))),Jp 35 25 34] [1,2,4,7,15,16,17,35]) (.cond (.tmp 35) (JR [Jf 36 0 2,Jl 37 36,Jf 38 0 7,Jl 39 38,Jf 40 1 7,Jl 41 40,Jx 42 1 37 39,Js 1 42 41] [1,2,4,15,16,17]) .skip)))) (JR [Jk 43 .add 17 1,Jc 17 43] [1,2,4,15,16,17]))))))) (.seq (JR [Jf 44 1 2,⟨none,none,.store 1 (.tmp 44) (.con (.vs false [.own 72 []]))⟩] [2,4]) (.seq (JR [Jg 45 2 2,Js 2 4 45,Ji 5 0] [4,5]) .ret)))))
def pf23 : PFunc := ⟨2, [.ro, .ro], g23.un, [.cell 4 true 2, .tmp 5], b23⟩
theorem pe23 : prepF Go.Proofs.Tryz.prog a23 Go.Proofs.Tryz.f23 = some pf23 := by kernel_rfl
def b24 : IC := .seq (JR [Jz 2 70] [0]) (.seq (JR [Jz 3 70] [0,3]) (.seq (.seq (JR [Ji 4 0] [0,3,4]) (.block 0 (.loop (.seq (.seq (JR [Jc 5 4,Jc 6 0,Jn 7 6,Jb 8 .lss 5 7] [0,3,4,8]) (.cond (.tmp 8) .skip (.exit 0))) (.seq (.block 1 (JR [Jc 11 3,Jc 12 0,Jc 13 4,Jx 14 2 12 13,Jg 15 2 14,Jr 16 61 15,J 17 (.bslice 70 [.d (.sc (.int .i64 0)),.own 78 []] 1 [(0,.tmp 16)]),J 18 (.app false 70 2 32 (.tmp 11) (.tmp 17)),Jt 3 18] [0,3,4])) (JR [Jc 9 4,Jk 10 .add 9 1,Jt 4 10] [0,3,4])))))) (.seq (JR [Jc 19 3,Jt 2 19] [2,3]) .ret)))
def pf24 : PFunc := ⟨1, [.ro], g24.un, [.tmp 2], b24⟩
theorem pe24 : prepF Go.Proofs.Tryz.prog a24 Go.Proofs.Tryz.f24 = some pf24 := by kernel_rfl
def b25 : IC := .seq (JR [Jo 4 false] [0,1]) (.seq (.seq (JR [Ji 5 0] [0,1,5]) (.block 0 (.loop (.seq (.seq (JR [Jc 7 5,Jc 8 1,Jn 9 8,Jb 10 .lss 7 9] [0,1,5,10]) (.cond (.tmp 10) .skip (.exit 0))) (.seq (.block 1 (.seq (.seq (JR [Jc 13 1,Jc 14 5,Jx 15 2 13 14,Jg 16 2 15,Jr 17 62 16,Ju 18 17] [0,1,5,18]) (.cond (.tmp 18) (.seq (JR [Jo 4 false] [4]) .ret) .skip)) (.seq (JR [Ji 6 0] [0,1,5,6]) (.block 2 (.loop (.seq (.seq (JR [Jc 19 6,Jc 20 1,Jc 21 5,Jx 22 2 20 21,Jf 23 1 22,Jl 24 23,Jn 25 24,Jb 26 .lss 19 25] [0,1,5,6,26]) (.cond (.tmp 26) .skip (.exit 2))) (.seq (.block 3 (.seq (JR [Jc 29 1,Jc 30 5,Jx 31 2 29 30,Jf 32 1 31,Jl 33 32,Jc 34 6,Jx 35 4 33 34,Jf 36 0 35,Jl 37 36,Jc 38 0,Jn 39 38,Jb 40 .geq 37 39] [0,1,5,6,40]) (.cond (.tmp 40) (.seq (JR [Jo 4 false] [4]) .ret) .skip))) (JR [Jc 27 6,Jk 28 .add 27 1,Jt 6 28] [0,1,5,6])))))))) (JR [Jc 11 5,Jk 12 .add 11 1,Jt 5 12] [0,1,5])))))) (.seq (JR [Jc 41 0,Jr 42 31 41,Jt 4 42] [4]) .ret))
def pf25 : PFunc := ⟨2, [.ro, .ro], g25.un, [.tmp 4], b25⟩
theorem pe25 : prepF Go.Proofs.Tryz.prog a25 Go.Proofs.Tryz.f25 = some pf25 := by kernel_rfl
def b26 : IC := .seq (JR [Jy 2 0,Jy 3 1,Jz 4 74,J 5 (.alloc [.d (.sc (.int .i64 0)),.d (.sc (.int .i64 0)),.d (.sc (.int .i64 0)),.d (.sc (.int .i64 0))]),Ji 6 0] [2,3,5]) (.seq (.seq (JR [Jg 8 4 2,Jr 9 57 8,Ju 10 9,Jc 11 10,Jw 12 11 false (.load .cp true 2 (.tmp 3)),Jw 13 11 false (.callr 63 [.tmp 12]),Jw 14 11 false (.un .not (.tmp 13)),Jq 15 11 14] [2,3,5,15]) (.cond (.tmp 15) (.seq (JR [J 16 (.build true [.d (.sc (.int .i64 0)),.d (.sc (.int .i64 0)),.d (.sc (.int .i64 0)),.d (.sc (.int .i64 0))] []),Jz 4 74,Js 4 5 16,Ji 6 1] [4,5,6]) .ret) .skip)) (.seq (.seq (JR [Jf 17 3 2,Jl 18 17,Jk 19 .add 18 1,Jk 20 .geq 19 1073741824] [2,3,5,20]) (.cond (.tmp 20) (.seq (JR [J 21 (.build true [.d (.sc (.int .i64 0)),.d (.sc (.int .i64 0)),.d (.sc (.int .i64 0)),.d (.sc (.int .i64 0))] []),Jz 4 74,Js 4 5 21,Ji 6 2] [4,5,6]) .ret) .skip)) (.seq (JR [Jg 22 2 3,Jf 23 0 2,Jl 24 23,Jf 25 3 2,Jl 26 25,J 27 (.callr 64 [.tmp 22,.tmp 24,.tmp 26]),Jt 7 27] [2,5,7]) (.seq (.seq (JR [Jc 28 7,Jn 29 28,Jf 30 2 2,Jl 31 30,J 32 (.bin none .sub (.con (.int .i64 512)) (.tmp 31)),Jb 33 .gtr 29 32] [2,5,7,33]) (.cond (.tmp 33) (.seq (JR [J 34 (.build true [.d (.sc (.int .i64 0)),.d (.sc (.int .i64 0)),.d (.sc (.int .i64 0)),.d (.sc (.int .i64 0))] []),Jz 4 74,Js 4 5 34,Ji 6 5] [4,5,6]) .ret) .skip)) (.seq (JR [Jf 35 2 2,Jl 36 35,Jc 37 7,J 38 (.call 65 [.con (.vs false [.own 74 []]),.tmp 36,.tmp 37]),Jt 4 38] [2,4,5,7]) (.seq (JR [Jf 39 2 2,Jl 40 39,Jc 41 7,Jn 42 41,Jb 43 .add 40 42,Jf 44 3 2,Jl 45 44,Jk 46 .add 45 1,Jf 47 2 2,Js 1 47 43,Jf 48 3 2,Js 1 48 46] [2,4,5]) (.seq (JW [(Jc 49 4,false,[4]),(Jg 50 4 2,false,[2]),(Jt 4 49,true,[4,49]),(Js 4 5 50,true,[2,5,8,17,23,25,30,35,39,44,47,48,50]),(Ji 6 0,true,[6])] [4,5,6]) .ret)))))))
def pf26 : PFunc := ⟨2, [.ro, .ro], g26.un, [.tmp 4, .cell 5 true 4, .tmp 6], b26⟩
theorem pe26 : prepF Go.Proofs.Tryz.prog a26 Go.Proofs.Tryz.f26 = some pf26 := by kernel_rfl
def b28 : IC := .seq (JR [Ji 2 0] [0]) (.seq (JR [Jc 6 0,Jn 7 6,Jt 3 7] [0,3]) (.seq (.seq (JR [Ji 4 0] [0,3,4]) (.block 0 (.loop (.seq (.seq (JR [Jc 8 4,Jc 9 0,Jn 10 9,Jb 11 .lss 8 10,Jc 12 11,Jcw 13 12 true 3,Jw 14 12 true (.bin none .lss (.tmp 13) (.con (.int .i64 1048576))),Jp 15 12 14] [0,3,4,15]) (.cond (.tmp 15) .skip (.exit 0))) (.seq (.block 1 (.seq (JR [Jc 18 3,Jc 19 0,Jc 20 4,Jx 21 1 19 20,Jl 22 21,Jn 23 22,Jb 24 .add 18 23,Jt 3 24] [0,3,4]) (.seq (JR [Ji 5 0] [0,3,4,5]) (.block 2 (.loop (.seq (.seq (JR [Jc 25 5,Jc 26 0,Jc 27 4,Jx 28 1 26 27,Jl 29 28,Jn 30 29,Jb 31 .lss 25 30,Jc 32 31,Jcw 33 32 true 3,Jw 34 32 true (.bin none .lss (.tmp 33) (.con (.int .i64 1048576))),Jp 35 32 34] [0,3,4,5,35]) (.cond (.tmp 35) .skip (.exit 2))) (.seq (.block 3 (JW [(Jc 38 3,false,[3]),(Jc 39 0,false,[0]),(Jc 40 4,false,[4]),(Jx 41 1 39 40,false,[39,40]),(Jl 42 41,false,[41]),(Jc 43 5,false,[5]),(Jx 44 2 42 43,false,[42,43]),(Jf 45 0 44,false,[44]),(Jl 46 45,false,[45]),(J 47 (.len true (.tmp 46)),false,[46]),(Jc 48 0,false,[0]),(Jc 49 4,false,[4]),(Jx 50 1 48 49,false,[48,49]),(Jl 51 50,false,[50]),(Jc 52 5,false,[5]),(Jx 53 2 51 52,false,[51,52]),(Jf 54 1 53,false,[53]),(Jl 55 54,false,[54]),(J 56 (.len true (.tmp 55)),false,[55]),(Jb 57 .add 47 56,false,[47,56]),(Jk 58 .quo 57 8,false,[57]),(Jb 59 .add 38 58,false,[38,58]),(Jt 3 59,true,[3,59])] [0,3,4,5])) (JR [Jc 36 5,Jk 37 .add 36 1,Jt 5 37] [0,3,4,5])))))))) (JR [Jc 16 4,Jk 17 .add 16 1,Jt 4 17] [0,3,4])))))) (.seq (JR [Jc 60 3,Jt 2 60] [2]) .ret)))
def pf28 : PFunc := ⟨1, [.ro], g28.un, [.tmp 2], b28⟩
theorem pe28 : prepF Go.Proofs.Tryz.prog a28 Go.Proofs.Tryz.f28 = some pf28 := by kernel_rfl
def b29 : IC := .seq (JR [Jy 1 0,Jo 2 false] [1]) (.seq (JW [(Jf 5 0 1,false,[1]),(Jl 6 5,false,[1,5]),(Jr 7 72 6,false,[1,6]),(Jk 8 .mul 7 8,false,[7]),(Jf 9 1 1,false,[1]),(Jl 10 9,false,[1,9]),(Jr 11 73 10,false,[1,10]),(Jb 12 .add 8 11,false,[8,11]),(Jf 13 2 1,false,[1]),(Jl 14 13,false,[1,13]),(Jn 15 14,false,[1,14]),(Jb 16 .add 12 15,false,[12,15]),(Jf 17 3 1,false,[1]),(Jl 18 17,false,[1,17]),(Jn 19 18,false,[1,18]),(Jb 20 .add 16 19,false,[16,19]),(Jt 3 20,true,[3,20])] [1,3]) (.seq (.seq (JR [Ji 4 0] [1,3,4]) (.block 0 (.loop (.seq (.seq (JR [Jc 21 4,Jf 22 3 1,Jl 23 22,Jn 24 23,Jb 25 .lss 21 24,Jc 26 25,Jcw 27 26 true 3,Jw 28 26 true (.bin none .lss (.tmp 27) (.con (.int .i64 1048576))),Jp 29 26 28] [1,3,4,29]) (.cond (.tmp 29) .skip (.exit 0))) (.seq (.block 1 (JR [Jc 32 3,Jf 33 3 1,Jl 34 33,Jc 35 4,Jx 36 1 34 35,Jl 37 36,Jr 38 73 37,Jb 39 .add 32 38,Jt 3 39] [1,3,4])) (JR [Jc 30 4,Jk 31 .add 30 1,Jt 4 31] [1,3,4])))))) (.seq (JR [Jc 40 3,Jk 41 .gtr 40 6000,Jt 2 41] [2]) .ret)))
def pf29 : PFunc := ⟨1, [.ro], g29.un, [.tmp 2], b29⟩
theorem pe29 : prepF Go.Proofs.Tryz.prog a29 Go.Proofs.Tryz.f29 = some pf29 := by kernel_rfl
def b30 : IC := .seq (JR [J 2 (.mov .tk (.con (.str (bs []))))] [0]) (.seq (JR [Jc 3 0,J 4 (.mkslice 5 1 [.d (.sc (.int .u8 0))] (.tmp 3) (.tmp 3)),J 5 (.b2s (.tmp 4)),Jt 2 5] [2]) .ret)
def pf30 : PFunc := ⟨1, [.ro], g30.un, [.tmp 2], b30⟩
theorem pe30 : prepF Go.Proofs.Tryz.prog a30 Go.Proofs.Tryz.f30 = some pf30 := by kernel_rfl
def b31 : IC := .seq (JR [Jo 2 false] [0]) (.seq (.seq (JR [Ji 3 0] [0,3]) (.block 0 (.loop (.seq (.seq (JR [Jc 5 3,Jc 6 0,Jn 7 6,Jb 8 .lss 5 7,Jc 9 8,Jcw 10 9 true 3,Jw 11 9 true (.bin none .leq (.tmp 10) (.con (.int .i64 3))),Jp 12 9 11] [0,3,12]) (.cond (.tmp 12) .skip (.exit 0))) (.seq (.block 1 (.seq (JR [Ji 4 0] [0,3,4]) (.block 2 (.loop (.seq (.seq (JR [Jc 15 4,Jc 16 0,Jc 17 3,Jx 18 1 16 17,Jl 19 18,Jn 20 19,Jb 21 .lss 15 20] [0,3,4,21]) (.cond (.tmp 21) .skip (.exit 2))) (.seq (.block 3 (.seq (JW [(Jc 24 0,false,[0]),(Jc 25 3,false,[3]),(Jx 26 1 24 25,false,[24,25]),(Jl 27 26,false,[26]),(Jc 28 4,false,[4]),(Jx 29 2 27 28,false,[27,28]),(Jf 30 0 29,false,[29]),(Jl 31 30,false,[30]),(Jr 32 74 31,false,[31]),(Ju 33 32,false,[32]),(Jc 34 33,false,[33]),(Jcw 35 34 false 0,false,[0,34]),(Jcw 36 34 false 3,false,[3,34]),(Jw 37 34 false (.indexA 1 (.tmp 35) (.tmp 36)),false,[34,35,36]),(Jlw 38 34 false 37,false,[34,37]),(Jcw 39 34 false 4,false,[4,34]),(Jw 40 34 false (.indexA 2 (.tmp 38) (.tmp 39)),false,[34,38,39]),(Jfw 41 34 false 1 40,false,[34,40]),(Jlw 42 34 false 41,false,[34,41]),(Jw 43 34 false (.callr 75 [.tmp 42]),false,[34,42]),(Jw 44 34 false (.un .not (.tmp 43)),false,[34,43]),(Jq 45 34 44,false,[34,44]),(Jc 46 45,false,[45]),(Jcw 47 46 false 4,false,[4,46]),(Jw 48 46 false (.bin none .gtr (.tmp 47) (.con (.int .i64 0))),false,[46,47]),(Jcw 49 46 false 48,false,[46,48]),(Jcw 50 49 true 0,false,[0,49]),(Jcw 51 49 true 3,false,[3,49]),(Jw 52 49 true (.indexA 1 (.tmp 50) (.tmp 51)),false,[49,50,51]),(Jlw 53 49 true 52,false,[49,52]),(Jcw 54 49 true 4,false,[4,49]),(Jw 55 49 true (.bin none .sub (.tmp 54) (.con (.int .i64 1))),false,[49,54]),(Jw 56 49 true (.indexA 2 (.tmp 53) (.tmp 55)),false,[49,53,55]),(Jfw 57 49 true 0 56,false,[49,56]),(Jlw 58 49 true 57,false,[49,57]),(Jcw 59 49 true 0,false,[0,49]),(Jcw 60 49 true 3,false,[3,49]),(Jw 61 49 true (.indexA 1 (.tmp 59) (.tmp 60)),false,[49,59,60]),(Jlw 62 49 true 61,false,[49,61]),(Jcw 63 49 true 4,false,[4,49]),(Jw 64 49 true (.indexA 2 (.tmp 62) (.tmp 63)),false,[49,62,63]),(Jfw 65 49 true 0 64,false,[49,64]),(Jlw 66 49 true 65,false,[49,65]),(Jw 67 49 true (.bin none .geq (.tmp 58) (.tmp 66)),false,[49,58,66]),(Jw 68 46 false (.pick (.tmp 49) (.tmp 67) (.con (.bool false))),false,[46,49,67]),(Jq 69 46 68,false,[46,68])] [0,3,4,69]) (.cond (.tmp 69) (.seq (JR [Jo 2 false] [2]) .ret) .skip))) (JR [Jc 22 4,Jk 23 .add 22 1,Jt 4 23] [0,3,4]))))))) (JR [Jc 13 3,Jk 14 .add 13 1,Jt 3 14] [0,3])))))) (.seq (JR [Jc 70 0,Jn 71 70,Jk 72 .leq 71 3,Jt 2 72] [2]) .ret))
def pf31 : PFunc := ⟨1, [.ro], g31.un, [.tmp 2], b31⟩
theorem pe31 : prepF Go.Proofs.Tryz.prog a31 Go.Proofs.Tryz.f31 = some pf31 := by kernel_rfl
def b32 : IC := .seq (JR [Jz 2 78] [0]) (.seq (JR [Jz 3 78] [0,3]) (.seq (.seq (JR [Ji 4 0] [0,3,4]) (.block 0 (.loop (.seq (.seq (JR [Jc 6 4,Jc 7 0,Jn 8 7,Jb 9 .lss 6 8] [0,3,4,9]) (.cond (.tmp 9) .skip (.exit 0))) (.seq (.block 1 (.seq (JR [Ji 5 0] [0,3,4,5]) (.block 2 (.loop (.seq (.seq (JR [Jc 12 5,Jc 13 0,Jc 14 4,Jx 15 1 13 14,Jl 16 15,Jn 17 16,Jb 18 .lss 12 17] [0,3,4,5,18]) (.cond (.tmp 18) .skip (.exit 2))) (.seq (.block 3 (JW [(Jc 21 3,false,[3]),(Jc 22 4,false,[4]),(Jc 23 0,false,[0]),(Jc 24 4,false,[4]),(Jx 25 1 23 24,false,[23,24]),(Jl 26 25,false,[25]),(Jc 27 5,false,[5]),(Jx 28 2 26 27,false,[26,27]),(Jf 29 0 28,false,[28]),(Jl 30 29,false,[29]),(Jc 31 0,false,[0]),(Jc 32 4,false,[4]),(Jx 33 1 31 32,false,[31,32]),(Jl 34 33,false,[33]),(Jc 35 5,false,[5]),(Jx 36 2 34 35,false,[34,35]),(Jf 37 1 36,false,[36]),(Jl 38 37,false,[37]),(J 39 (.build true [.d (.sc (.int .i64 0)),.d (.sc (.string (bs []))),.d (.sc (.string (bs []))),.d (.sc (.bool false))] [(0,1,.tmp 22),(1,1,.tmp 30),(2,1,.tmp 38)]),true,[22,30,38,39]),(J 40 (.bslice 78 [.d (.sc (.int .i64 0)),.d (.sc (.string (bs []))),.d (.sc (.string (bs []))),.d (.sc (.bool false))] 1 [(0,.tmp 39)]),true,[39,40]),(J 41 (.app false 78 4 48 (.tmp 21) (.tmp 40)),true,[2,3,21,40,41,42]),(Jt 3 41,true,[2,3,21,41,42])] [0,3,4,5])) (JR [Jc 19 5,Jk 20 .add 19 1,Jt 5 20] [0,3,4,5]))))))) (JR [Jc 10 4,Jk 11 .add 10 1,Jt 4 11] [0,3,4])))))) (.seq (JR [Jc 42 3,Jt 2 42] [2,3]) .ret)))
def pf32 : PFunc := ⟨1, [.ro], g32.un, [.tmp 2], b32⟩
theorem pe32 : prepF Go.Proofs.Tryz.prog a32 Go.Proofs.Tryz.f32 = some pf32 := by kernel_rfl
def b33 : IC := .seq (JR [Jz 6 74,J 7 (.alloc [.d (.sc (.int .i64 0)),.d (.sc (.int .i64 0)),.d (.sc (.int .i64 0)),.d (.sc (.int .i64 0))]),Ji 8 0] [0,1,2,7]) (.seq (JR [Jc 12 2,Jr 13 32 12,J 14 (.build true [.d (.sc (.int .i64 0)),.own 78 []] [(0,1,.con (.int .i64 1)),(1,1,.tmp 13)]),J 9 (.alloc [.d (.sc (.int .i64 0)),.own 78 []]),Js 2 9 14] [0,1,7,9]) (.seq (JR [Jg 15 2 9,Jc 16 0,J 17 (.callr 76 [.tmp 15,.tmp 16,.con (.int .i64 0)]),Jt 10 17] [0,1,7,9,10]) (.seq (.seq (JR [Jf 18 1 9,Jl 19 18,Jn 20 19,Jk 21 .gtr 20 64] [0,1,7,10,21]) (.cond (.tmp 21) (.seq (JR [J 22 (.build true [.d (.sc (.int .i64 0)),.d (.sc (.int .i64 0)),.d (.sc (.int .i64 0)),.d (.sc (.int .i64 0))] []),Jz 6 74,Js 4 7 22,Ji 8 5] [6,7,8,11]) .ret) .skip)) (.seq (JR [Jc 23 1,Jr 24 48 23,Jc 25 10,Jv 26 77 24 25,J 27 (.build true [.d (.sc (.bool false)),.d (.sc (.int .i64 0)),.d (.sc (.string (bs [])))] [(0,1,.con (.bool true))]),J 28 (.bslice 74 [.d (.sc (.bool false)),.d (.sc (.int .i64 0)),.d (.sc (.string (bs [])))] 1 [(0,.tmp 27)]),J 29 (.app false 74 3 32 (.tmp 26) (.tmp 28)),Jt 11 29] [0,1,7,11]) (.seq (JR [Jc 30 11,Jc 31 0,Jc 32 1,Jv 33 47 31 32,J 34 (.build true [.d (.sc (.int .i64 0)),.d (.sc (.string (bs [])))] [(0,1,.con (.int .i64 0)),(1,1,.tmp 33)]),J 35 (.build true [.d (.sc (.bool false)),.d (.sc (.int .i64 0)),.d (.sc (.string (bs [])))] [(1,2,.tmp 34)]),J 36 (.build true [.d (.sc (.bool false)),.d (.sc (.int .i64 0)),.d (.sc (.string (bs [])))] [(0,1,.con (.bool true))]),J 37 (.bslice 74 [.d (.sc (.bool false)),.d (.sc (.int .i64 0)),.d (.sc (.string (bs [])))] 2 [(0,.tmp 35),(1,.tmp 36)]),J 38 (.app false 74 3 32 (.tmp 30) (.tmp 37)),Jt 11 38] [0,1,7,11]) (.seq (JR [Jc 39 11,Jc 40 0,Jc 41 1,J 42 (.build true [.d (.sc (.int .i64 0)),.d (.sc (.int .i64 0)),.d (.sc (.int .i64 0)),.d (.sc (.int .i64 0))] [(0,1,.tmp 40),(1,1,.tmp 41),(2,1,.con (.int .i64 255)),(3,1,.con (.int .i64 1))]),Jt 6 39,Js 4 7 42,Ji 8 0] [6,7,8,11]) .ret))))))
def pf33 : PFunc := ⟨3, [.ro, .ro, .ro], g33.un, [.tmp 6, .cell 7 true 4, .tmp 8], b33⟩
theorem pe33 : prepF Go.Proofs.Tryz.prog a33 Go.Proofs.Tryz.f33 = some pf33 := by kernel_rfl
def b34 : IC := .seq (JR [Jy 3 0,J 6 (.alloc [.own 9 [],.own 72 []]),Ji 7 0] [1,2,3,6]) (.seq (JR [Jg 10 2 3,Jr 11 10 10,Js 2 3 11] [1,2,3,6]) (.seq (.seq (JR [Ji 8 0] [1,2,3,6,8]) (.block 0 (.loop (.seq (.seq (JR [Jc 12 8,Jc 13 2,Jn 14 13,Jb 15 .lss 12 14,Jc 16 15,Jcw 17 16 true 1,Jw 18 16 true (.bin none .lss (.tmp 17) (.con (.int .i64 0))),Jcw 19 16 true 18,Jcw 20 19 false 8,Jcw 21 19 false 1,Jw 22 19 false (.bin none .lss (.tmp 20) (.tmp 21)),Jw 23 16 true (.pick (.tmp 19) (.con (.bool true)) (.tmp 22)),Jp 24 16 23] [1,2,3,6,8,24]) (.cond (.tmp 24) .skip (.exit 0))) (.seq (.block 1 (.seq (.seq (JR [Jc 27 2,Jc 28 8,Jx 29 3 27 28,Jf 30 0 29,Jl 31 30] [1,2,3,6,8,31]) (.cond (.tmp 31) (.seq (JR [Jg 32 2 3,J 33 (.bslice 3 [.d (.sc (.int .i64 0))] 1 [(0,.con (.int .i64 1))]),Jv 34 36 32 33,Js 2 3 34] [1,2,3,6,8]) (.exit 1)) .skip)) (.seq (JR [Jc 35 2,Jc 36 8,Jx 37 3 35 36,Jf 38 1 37,Jg 39 2 38,J 9 (.alloc [.d (.sc (.int .i64 0)),.d (.sc (.string (bs [])))]),Js 2 9 39] [1,2,3,6,8,9]) (.seq (.seq (JR [Jf 40 0 9,Jl 41 40,Jf 42 0 3,Jl 43 42,Jn 44 43,Jk 45 .sub 44 1,Jv 46 45 41 45,Ju 47 46] [1,2,3,6,8,9,47]) (.cond (.tmp 47) (.seq (JR [J 48 (.build true [.own 9 [],.own 72 []] []),Js 2 6 48,Ji 7 3] [6,7]) .ret) .skip)) (.seq (.seq (JR [Jf 49 1 9,Jl 50 49,J 51 (.len true (.tmp 50)),Jk 52 .neq 51 32] [1,2,3,6,8,9,52]) (.cond (.tmp 52) (.seq (JR [J 53 (.build true [.own 9 [],.own 72 []] []),Js 2 6 53,Ji 7 1] [6,7]) .ret) .skip)) (.seq (.seq (JR [Jf 54 1 3,Jl 55 54,Jn 56 55,Jk 57 .geq 56 2048] [1,2,3,6,8,9,57]) (.cond (.tmp 57) (.seq (JR [J 58 (.build true [.own 9 [],.own 72 []] []),Js 2 6 58,Ji 7 2] [6,7]) .ret) .skip)) (JR [Jf 59 1 3,Jl 60 59,Jg 61 2 9,J 62 (.bslice 72 [.d (.sc (.int .i64 0)),.d (.sc (.string (bs [])))] 1 [(0,.tmp 61)]),J 63 (.app false 72 2 24 (.tmp 60) (.tmp 62)),Jf 64 1 3,Js 1 64 63] [1,2,3,6,8]))))))) (JR [Jc 25 8,Jk 26 .add 25 1,Jt 8 26] [1,2,3,6,8])))))) (.seq (JR [Jg 65 2 3,Js 2 6 65,Ji 7 0] [6,7]) .ret)))
def pf34 : PFunc := ⟨3, [.ro, .ro, .ro], g34.un, [.cell 6 true 2, .tmp 7], b34⟩
theorem pe34 : prepF Go.Proofs.Tryz.prog a34 Go.Proofs.Tryz.f34 = some pf34 := by kernel_rfl
def b35 : IC := .seq (JR [Jy 2 0,Jy 3 1,Jz 4 74,J 5 (.alloc [.d (.sc (.int .i64 0)),.d (.sc (.int .i64 0)),.d (.sc (.int .i64 0)),.d (.sc (.int .i64 0))]),Ji 6 0] [2,3,5]) (.seq (JR [Jg 9 2 3,Jf 10 0 2,Jl 11 10,Jf 12 3 2,Jl 13 12,J 14 (.callr 76 [.tmp 9,.tmp 11,.tmp 13]),Jt 7 14] [2,5,7]) (.seq (.seq (JR [Jf 15 3 2,Jl 16 15,Jk 17 .geq 16 1073741823] [2,5,7,17]) (.cond (.tmp 17) (.seq (JR [J 18 (.build true [.d (.sc (.int .i64 0)),.d (.sc (.int .i64 0)),.d (.sc (.int .i64 0)),.d (.sc (.int .i64 0))] []),Jz 4 74,Js 4 5 18,Ji 6 2] [4,5,6,8]) .ret) .skip)) (.seq (.seq (JR [Jf 19 2 2,Jl 20 19,Jc 21 7,Jn 22 21,Jb 23 .add 20 22,Jk 24 .gtr 23 512] [2,5,7,24]) (.cond (.tmp 24) (.seq (JR [J 25 (.build true [.d (.sc (.int .i64 0)),.d (.sc (.int .i64 0)),.d (.sc (.int .i64 0)),.d (.sc (.int .i64 0))] []),Jz 4 74,Js 4 5 25,Ji 6 5] [4,5,6,8]) .ret) .skip)) (.seq (JR [Jf 26 2 2,Jl 27 26,Jc 28 7,Jv 29 77 27 28,Jt 8 29] [2,5,7,8]) (.seq (JR [Jf 30 2 2,Jl 31 30,Jc 32 7,Jn 33 32,Jb 34 .add 31 33,Jf 35 2 2,Js 1 35 34] [2,5,8]) (.seq (JR [Jf 36 3 2,Jl 37 36,Jk 38 .add 37 1,Jf 39 3 2,Js 1 39 38] [2,5,8]) (.seq (JW [(Jc 40 8,false,[8]),(Jg 41 4 2,false,[2]),(Jt 4 40,true,[4,8,40]),(Js 4 5 41,true,[2,5,10,12,15,19,26,30,35,36,39,41]),(Ji 6 0,true,[6])] [4,5,6,8]) .ret)))))))
def pf35 : PFunc := ⟨2, [.ro, .ro], g35.un, [.tmp 4, .cell 5 true 4, .tmp 6], b35⟩
theorem pe35 : prepF Go.Proofs.Tryz.prog a35 Go.Proofs.Tryz.f35 = some pf35 := by kernel_rfl
def b36 : IC := .seq (JR [Jy 2 0,J 4 (.alloc [.own 9 [],.own 72 []])] [1,2,4]) (.seq (JR [Jg 6 2 2,Jr 7 10 6,Js 2 2 7] [1,2,4]) (.seq (.seq (JR [Ji 5 0] [1,2,4,5]) (.block 0 (.loop (.seq (.seq (JR [Jc 8 5,Jf 9 1 2,Jl 10 9,Jn 11 10,Jb 12 .lss 8 11] [1,2,4,5,12]) (.cond (.tmp 12) .skip (.exit 0))) (.seq (.block 1 (.seq (JR [Jc 15 1,Jn 16 15,Jk 17 .gtr 16 0,Jc 18 17,Jcw 19 18 true 1,Jcw 20 18 true 5,Jcw 21 18 true 1,Jw 22 18 true (.len false (.tmp 21)),Jw 23 18 true (.bin none .rem (.tmp 20) (.tmp 22)),Jw 24 18 true (.indexA 1 (.tmp 19) (.tmp 23)),Jlw 25 18 true 24,Jw 26 18 true (.bin none .and (.tmp 25) (.con (.int .i64 1))),Jw 27 18 true (.bin none .eql (.tmp 26) (.con (.int .i64 1))),Jp 28 18 27] [1,2,4,5,28]) (.cond (.tmp 28) (JW [(Jf 29 0 2,false,[2]),(Jl 30 29,false,[2,29]),(Jf 31 1 2,false,[2]),(Jl 32 31,false,[2,31]),(Jc 33 5,false,[5]),(Jx 34 2 32 33,false,[2,32,33]),(Jf 35 0 34,false,[2,34]),(Jl 36 35,false,[2,35]),(Jf 37 1 2,false,[2]),(Jl 38 37,false,[2,37]),(Jc 39 5,false,[5]),(Jx 40 2 38 39,false,[2,38,39]),(Jf 41 1 40,false,[2,40]),(Jl 42 41,false,[2,41]),(Jx 43 1 30 36,false,[2,30,36]),(Js 1 43 42,true,[2,6,9,10,29,30,31,32,34,35,37,38,40,41,42,43,44,45])] [1,2,4,5]) .skip))) (JR [Jc 13 5,Jk 14 .add 13 1,Jt 5 14] [1,2,4,5])))))) (.seq (JR [Jf 44 1 2,⟨none,none,.store 1 (.tmp 44) (.con (.vs false [.own 72 []]))⟩] [2,4]) (.seq (JR [Jg 45 2 2,Js 2 4 45] [4]) .ret))))
def pf36 : PFunc := ⟨2, [.ro, .ro], g36.un, [.cell 4 true 2], b36⟩
theorem pe36 : prepF Go.Proofs.Tryz.prog a36 Go.Proofs.Tryz.f36 = some pf36 := by kernel_rfl
def b37 : IC := .seq (JR [Jz 2 9] [0]) (.seq (JR [Jz 3 9] [0,3]) (.seq (.seq (JR [Ji 4 0] [0,3,4]) (.block 0 (.loop (.seq (.seq (JR [Jc 5 4,Jc 6 0,Jn 7 6,Jb 8 .lss 5 7] [0,3,4,8]) (.cond (.tmp 8) .skip (.exit 0))) (.seq (.block 1 (JR [Jc 11 3,Jc 12 0,Jc 13 4,Jx 14 1 12 13,Jl 15 14,J 16 (.bslice 9 [.d (.sc (.string (bs [])))] 1 [(0,.tmp 15)]),J 17 (.app false 9 1 16 (.tmp 11) (.tmp 16)),Jt 3 17] [0,3,4])) (JR [Jc 9 4,Jk 10 .add 9 1,Jt 4 10] [0,3,4])))))) (.seq (JR [Jc 18 3,Jt 2 18] [2,3]) .ret)))
def pf37 : PFunc := ⟨1, [.ro], g37.un, [.tmp 2], b37⟩
theorem pe37 : prepF Go.Proofs.Tryz.prog a37 Go.Proofs.Tryz.f37 = some pf37 := by kernel_rfl
def b38 : IC := .seq (JR [Jz 2 72] [0]) (.seq (JR [Jz 3 72] [0,3]) (.seq (.seq (JR [Ji 4 0] [0,3,4]) (.block 0 (.loop (.seq (.seq (JR [Jc 5 4,Jc 6 0,Jn 7 6,Jb 8 .lss 5 7] [0,3,4,8]) (.cond (.tmp 8) .skip (.exit 0))) (.seq (.block 1 (JR [Jc 11 3,Jc 12 0,Jc 13 4,Jx 14 2 12 13,Jg 15 2 14,J 16 (.bslice 72 [.d (.sc (.int .i64 0)),.d (.sc (.string (bs [])))] 1 [(0,.tmp 15)]),J 17 (.app false 72 2 24 (.tmp 11) (.tmp 16)),Jt 3 17] [0,3,4])) (JR [Jc 9 4,Jk 10 .add 9 1,Jt 4 10] [0,3,4])))))) (.seq (JR [Jc 18 3,Jt 2 18] [2,3]) .ret)))
def pf38 : PFunc := ⟨1, [.ro], g38.un, [.tmp 2], b38⟩
theorem pe38 : prepF Go.Proofs.Tryz.prog a38 Go.Proofs.Tryz.f38 = some pf38 := by kernel_rfl
def b39 : IC := .seq (JR [Jy 1 0,Jo 2 false] [1]) (.seq (.seq (JR [Jf 3 0 1,Jl 4 3,Jn 5 4,Jk 6 .lss 5 1,Jc 7 6,Jfw 8 7 false 0 1,Jlw 9 7 false 8,Jw 10 7 false (.len false (.tmp 9)),Jw 11 7 false (.bin none .gtr (.tmp 10) (.con (.int .i64 512))),Jq 12 7 11,Jc 13 12,Jfw 14 13 false 1 1,Jlw 15 13 false 14,Jw 16 13 false (.len false (.tmp 15)),Jw 17 13 false (.bin none .gtr (.tmp 16) (.con (.int .i64 2048))),Jq 18 13 17] [1,18]) (.cond (.tmp 18) (.seq (JR [Jo 2 false] [2]) .ret) .skip)) (.seq (JR [Jf 19 0 1,Jl 20 19,J 21 (.callr 78 [.tmp 20,.fn 79]),Ju 22 21,Jc 23 22,Jfw 24 23 true 1 1,Jlw 25 23 true 24,Jw 26 23 true (.mkfn 82 [.tmp 1]),Jw 27 23 true (.callr 81 [.tmp 25,.tmp 26]),Jw 28 23 true (.un .not (.tmp 27)),Jp 29 23 28,Jt 2 29] [2]) .ret))
def pf39 : PFunc := ⟨1, [.ro], g39.un, [.tmp 2], b39⟩
theorem pe39 : prepF Go.Proofs.Tryz.prog a39 Go.Proofs.Tryz.f39 = some pf39 := by kernel_rfl
def b40 : IC := .seq (JR [J 2 (.alloc [.d (.sc (.int .i64 0)),.d (.sc (.int .i64 0)),.d (.sc (.int .i64 0)),.d (.sc (.int .i64 0))]),Jo 3 false] [0,2]) (.seq (.seq (JR [J 7 (.mov .cp (.con (.int .i64 0)))] [0,2,7]) (.block 0 (.loop (.seq (JR [Jk 8 .lss 7 4] [0,2,7,8]) (.seq (.cond (.tmp 8) .skip (.exit 0)) (.seq (.block 1 (.seq (JR [Jc 9 7,Jt 4 9] [0,2,4,7]) (JW [(Jf 10 0 2,false,[2]),(Jl 11 10,false,[2,10]),(J 12 (.bin none .shl (.tmp 11) (.con (.int .u64 8))),false,[11]),(Jc 13 0,false,[0]),(Jc 14 4,false,[4]),(J 15 (.bin none .add (.con (.int .i64 4)) (.tmp 14)),false,[14]),(J 16 (.indexS (.tmp 13) (.tmp 15)),false,[13,15]),(J 17 (.conv .i64 (.tmp 16)),false,[16]),(Jb 18 .or 12 17,false,[12,17]),(Jf 19 0 2,false,[2]),(Js 1 19 18,true,[2,10,18,19,21,25,29,33,41,42,52,56])] [0,2,7]))) (JR [Jk 20 .add 7 1,Jc 7 20] [0,2,7]))))))) (.seq (.seq (JR [Jf 21 0 2,Jl 22 21,Jk 23 .lss 22 1,Jc 24 23,Jfw 25 24 false 0 2,Jlw 26 24 false 25,Jw 27 24 false (.bin none .geq (.tmp 26) (.con (.int .i64 1073741824))),Jq 28 24 27] [0,2,28]) (.cond (.tmp 28) (.seq (JR [Jg 29 4 2,Js 4 2 29,Jo 3 false] [2,3]) .ret) .skip)) (.seq (JR [Jc 31 0,J 32 (.bslice 9 [.d (.sc (.string (bs [])))] 1 [(0,.tmp 31)]),Jf 33 0 2,Jl 34 33,J 35 (.callr 42 [.tmp 32,.con (.int .i64 0),.tmp 34]),Jt 30 35,Je 36 0 30,Je 37 1 30,J 5 (.alloc [.d (.sc (.int .i64 0)),.own 78 []]),Js 2 5 36,Jt 6 37] [2,5,6]) (.seq (JR [Jf 38 0 5,Jl 39 38,Jk 40 .sub 39 1,Jf 41 1 2,Js 1 41 40] [2,5,6]) (.seq (JR [Jg 42 4 2,Jc 43 6,Jk 44 .eql 43 1,Jc 45 44,Jfw 46 45 true 1 5,Jlw 47 45 true 46,Jw 48 45 true (.len false (.tmp 47)),Jw 49 45 true (.bin none .eql (.tmp 48) (.con (.int .i64 0))),Jp 50 45 49,Jc 51 50,Jfw 52 51 true 1 2,Jlw 53 51 true 52,Jw 54 51 true (.bin none .eql (.tmp 53) (.con (.int .i64 0))),Jcw 55 51 true 54,Jfw 56 55 false 1 2,Jlw 57 55 false 56,Jw 58 55 false (.bin none .eql (.tmp 57) (.con (.int .i64 1))),Jw 59 51 true (.pick (.tmp 55) (.con (.bool true)) (.tmp 58)),Jp 60 51 59,Js 4 2 42,Jt 3 60] [2,3]) .ret)))))
def pf40 : PFunc := ⟨1, [.ro], g40.un, [.cell 2 true 4, .tmp 3], b40⟩
theorem pe40 : prepF Go.Proofs.Tryz.prog a40 Go.Proofs.Tryz.f40 = some pf40 := by kernel_rfl
def b41 : IC := .seq (JR [Ji 2 0] [0]) (.seq (.seq (JR [Jc 3 0,Jk 4 .eql 3 0] [4]) (.cond (.tmp 4) (.seq (JR [Ji 2 1] [2]) .ret) .skip)) (.seq (JR [Ji 2 128] [2]) .ret))
def pf41 : PFunc := ⟨1, [.ro], g41.un, [.tmp 2], b41⟩
theorem pe41 : prepF Go.Proofs.Tryz.prog a41 Go.Proofs.Tryz.f41 = some pf41 := by kernel_rfl
def b42 : IC := .seq (JR [J 6 (.alloc [.d (.sc (.int .i64 0)),.own 78 []]),Ji 7 0] [0,1,2,6]) (.seq (JR [J 8 (.mov .tk (.con (.str (bs []))))] [0,1,2,6,8]) (.seq (.seq (JR [Jc 14 0,Jn 15 14,J 16 (.mov .cp (.con (.int .i64 0)))] [0,1,2,6,8,14,15,16]) (.block 0 (.loop (.seq (JR [Jb 17 .lss 16 15] [0,1,2,6,8,14,15,16,17]) (.seq (.cond (.tmp 17) .skip (.exit 0)) (.seq (.block 1 (.seq (JR [Jc 18 16,Jx 19 1 14 16,Jl 20 19,Jt 9 18,Jt 10 20] [0,1,2,6,8,9,10,14,15,16]) (.seq (.seq (JR [Jc 21 10,J 22 (.len true (.tmp 21)),Jk 23 .neq 22 32] [0,1,2,6,8,9,10,14,15,16,23]) (.cond (.tmp 23) (.exit 0) .skip)) (.seq (JR [Jc 24 10,J 25 (.indexS (.tmp 24) (.con (.int .i64 11))),J 26 (.conv .i64 (.tmp 25)),Jt 11 26] [0,1,2,6,8,9,10,11,14,15,16]) (.seq (.seq (JR [Jc 27 11,Jk 28 .gtr 27 20] [0,1,2,6,8,9,10,11,14,15,16,28]) (.cond (.tmp 28) (.exit 0) .skip)) (.seq (JR [Jc 29 8,Jc 30 10,Jc 31 11,J 32 (.bin none .add (.con (.int .i64 12)) (.tmp 31)),J 33 (.slice true 1 (.tmp 30) (some (.con (.int .i64 12))) (some (.tmp 32))),Jb 34 .add 29 33,Jt 8 34] [0,1,2,6,8,9,10,14,15,16]) (.seq (.seq (JR [Jc 35 10,J 36 (.indexS (.tmp 35) (.con (.int .i64 10))),J 37 (.bin none .eql (.tmp 36) (.con (.int .u8 0)))] [0,1,2,6,8,9,14,15,16,37]) (.cond (.tmp 37) (.exit 1) .skip)) (.seq (JR [Jc 39 8,Jr 40 84 39,Jt 38 40,Je 41 0 38,Je 42 1 38,J 12 (.alloc [.d (.sc (.int .i64 0)),.own 78 []]),Js 2 12 41,Jt 13 42] [0,1,2,6,9,12,13]) (.seq (.seq (JW [(Jc 43 13,false,[13]),(Jk 44 .eql 43 0,false,[13,43]),(Jc 45 44,false,[44]),(Jw 46 45 true (.load .cp true 2 (.tmp 12)),false,[12,45]),(Jcw 47 45 true 1,false,[1,45]),(Jcw 48 45 true 2,false,[2,45]),(Jw 49 45 true (.callr 64 [.tmp 46,.tmp 47,.tmp 48]),false,[12,45,46,47,48]),(Jcw 50 45 true 0,false,[0,45]),(Jcw 51 45 true 9,false,[9,45]),(Jw 52 45 true (.bin none .add (.tmp 51) (.con (.int .i64 1))),false,[45,51]),(Jw 53 45 true (.cut 1 (.tmp 50) none (some (.tmp 52))),false,[45,50,52]),(Jw 54 45 true (.callr 85 [.tmp 49,.tmp 53]),false,[45,49,53]),(Jp 55 45 54,false,[45,54])] [6,9,12,55]) (.cond (.tmp 55) (.seq (JR [Jg 56 2 12,Jc 57 9,Jk 58 .add 57 1,Js 2 6 56,Jt 7 58] [6,7]) .ret) .skip)) (.exit 0)))))))))) (JR [Jk 59 .add 16 1,Jc 16 59] [0,1,2,6,8,14,15,16]))))))) (.seq (JR [J 60 (.build true [.d (.sc (.int .i64 0)),.own 78 []] []),Js 2 6 60,Ji 7 0] [6,7]) .ret)))
def pf42 : PFunc := ⟨3, [.ro, .ro, .ro], g42.un, [.cell 6 true 2, .tmp 7], b42⟩
theorem pe42 : prepF Go.Proofs.Tryz.prog a42 Go.Proofs.Tryz.f42 = some pf42 := by kernel_rfl
def b43 : IC := .seq (JR [Jy 2 0,Jz 4 79,Jo 5 false] [1,2]) (.seq (JR [Jc 10 1,J 11 (.mkslice 79 24 [.own 81 []] (.tmp 10) (.tmp 10)),Jt 6 11] [1,2,6]) (.seq (JR [Ji 7 0] [1,2,6,7]) (.seq (.seq (JR [Jf 12 1 2,Jl 13 12,Jn 14 13,J 15 (.mov .cp (.con (.int .i64 0)))] [1,2,6,7,13,14,15]) (.block 0 (.loop (.seq (JR [Jb 16 .lss 15 14] [1,2,6,7,13,14,15,16]) (.seq (.cond (.tmp 16) .skip (.exit 0)) (.seq (.block 1 (.seq (JR [Jx 17 4 13 15,Jg 18 4 17,J 9 (.alloc [.d (.sc (.int .i64 0)),.d (.sc (.string (bs []))),.d (.sc (.string (bs []))),.d (.sc (.bool false))]),Js 4 9 18] [1,2,6,7,9,13,14,15]) (.seq (.seq (JR [Jf 19 0 9,Jl 20 19,Jc 21 1,Jb 22 .geq 20 21,Jc 23 22,Jfw 24 23 false 0 9,Jlw 25 23 false 24,Jcw 26 23 false 7,Jw 27 23 false (.bin none .lss (.tmp 25) (.tmp 26)),Jq 28 23 27,Jc 29 28,Jfw 30 29 false 3 9,Jlw 31 29 false 30,Jq 32 29 31] [1,2,6,9,13,14,15,32]) (.cond (.tmp 32) (.seq (JR [Jz 4 79,Jo 5 false] [4,5,6]) .ret) .skip)) (.seq (JR [Jf 33 0 9,Jl 34 33,Jt 7 34] [1,2,6,7,9,13,14,15]) (JW [(J 35 (.mov .st (.tmp 6)),false,[6]),(Jf 36 0 9,false,[9]),(Jl 37 36,false,[9,36]),(Jc 38 6,false,[6]),(Jf 39 0 9,false,[9]),(Jl 40 39,false,[9,39]),(Jx 41 1 38 40,false,[6,38,40]),(Jl 42 41,false,[6,41]),(Jf 43 1 9,false,[9]),(Jl 44 43,false,[9,43]),(Jf 45 2 9,false,[9]),(Jl 46 45,false,[9,45]),(J 47 (.build true [.d (.sc (.string (bs []))),.d (.sc (.string (bs [])))] [(0,1,.tmp 44),(1,1,.tmp 46)]),true,[44,46,47]),(J 48 (.bslice 81 [.d (.sc (.string (bs []))),.d (.sc (.string (bs [])))] 1 [(0,.tmp 47)]),true,[47,48]),(J 49 (.app false 81 2 32 (.tmp 42) (.tmp 48)),true,[4,6,35,38,41,42,48,49,50,52,57]),(Jx 50 1 35 37,false,[6,35,37]),(Js 1 50 49,true,[4,6,35,38,41,42,49,50,52,57])] [1,2,6,7,13,14,15]))))) (JR [Jk 51 .add 15 1,Jc 15 51] [1,2,6,7,13,14,15]))))))) (.seq (JR [Jc 52 6,Jf 53 0 2,Jl 54 53,Jk 55 .eql 54 1,Jc 56 55,Jcw 57 56 true 6,Jw 58 56 true (.callr 69 [.tmp 57]),Jp 59 56 58,Jt 4 52,Jt 5 59] [4,5,6]) .ret))))
def pf43 : PFunc := ⟨2, [.ro, .ro], g43.un, [.tmp 4, .tmp 5], b43⟩
theorem pe43 : prepF Go.Proofs.Tryz.prog a43 Go.Proofs.Tryz.f43 = some pf43 := by kernel_rfl
def b44 : IC := .seq (JR [Jz 6 70,Ji 7 0] [0,1,2,6,7]) (.seq (.block 0 (.loop (.seq (.seq (JR [Jc 10 2,Jk 11 .leq 10 1073741824] [0,1,2,6,7,11]) (.cond (.tmp 11) .skip (.exit 0))) (.block 1 (.seq (JR [Jc 13 0,Jc 14 7,J 15 (.slice false 1 (.tmp 13) (some (.tmp 14)) none),Jc 16 1,Jc 17 2,J 18 (.callr 42 [.tmp 15,.tmp 16,.tmp 17]),Jt 12 18,Je 19 0 12,Je 20 1 12,J 8 (.alloc [.d (.sc (.int .i64 0)),.own 78 []]),Js 2 8 19,Jt 9 20] [0,1,2,6,7,8,9]) (.seq (.seq (JR [Jc 21 9,Jk 22 .eql 21 0] [0,1,2,6,7,8,9,22]) (.cond (.tmp 22) (.exit 0) .skip)) (JR [Jc 23 6,Jg 24 2 8,J 25 (.bslice 70 [.d (.sc (.int .i64 0)),.own 78 []] 1 [(0,.tmp 24)]),J 26 (.app false 70 2 32 (.tmp 23) (.tmp 25)),Jc 27 7,Jc 28 9,Jb 29 .add 27 28,Jc 30 2,Jk 31 .add 30 1,Jt 6 26,Jt 7 29,Jt 2 31] [0,1,2,6,7]))))))) (.seq (JR [Jc 32 6,Jc 33 7,Jt 6 32,Jt 7 33] [6,7]) .ret))
def pf44 : PFunc := ⟨3, [.ro, .ro, .ro], g44.un, [.tmp 6, .tmp 7], b44⟩
theorem pe44 : prepF Go.Proofs.Tryz.prog a44 Go.Proofs.Tryz.f44 = some pf44 := by kernel_rfl
def b45 : IC := .seq (JR [Jo 4 false] [0,1]) (.seq (JR [Jc 5 0,Jk 6 .geq 5 0,Jc 7 6,Jcw 8 7 true 0,Jcw 9 7 true 1,Jw 10 7 true (.bin none .leq (.tmp 8) (.tmp 9)),Jp 11 7 10,Jt 4 11] [4]) .ret)
def pf45 : PFunc := ⟨2, [.ro, .ro], g45.un, [.tmp 4], b45⟩
theorem pe45 : prepF Go.Proofs.Tryz.prog a45 Go.Proofs.Tryz.f45 = some pf45 := by kernel_rfl
def b47 : IC := .seq (JR [J 4 (.mov .tk (.con (.str (bs []))))] [0,1]) (.seq (JR [Jc 5 1,Jk 6 .add 5 1,J 7 (.build true [.d (.sc (.int .i64 0)),.own 78 []] [(0,1,.tmp 6)]),Jc 8 0,J 9 (.call 76 [.tmp 7,.con (.int .i64 0),.tmp 8]),J 10 (.indexA 1 (.tmp 9) (.con (.int .i64 0))),Jl 11 10,Jt 4 11] [4]) .ret)
def pf47 : PFunc := ⟨2, [.ro, .ro], g47.un, [.tmp 4], b47⟩
theorem pe47 : prepF Go.Proofs.Tryz.prog a47 Go.Proofs.Tryz.f47 = some pf47 := by kernel_rfl
def b48 : IC := .seq (JR [Ji 2 0] [0]) (.seq (.seq (JR [Jc 3 0,Jk 4 .eql 3 1] [4]) (.cond (.tmp 4) (.seq (JR [Ji 2 128] [2]) .ret) .skip)) (.seq (JR [Ji 2 1] [2]) .ret))
def pf48 : PFunc := ⟨1, [.ro], g48.un, [.tmp 2], b48⟩
theorem pe48 : prepF Go.Proofs.Tryz.prog a48 Go.Proofs.Tryz.f48 = some pf48 := by kernel_rfl
def b50 : IC := .seq (JR [Jo 4 false] [0,1]) (.seq (.seq (JR [Jc 6 0,Jn 7 6,Jc 8 1,Jn 9 8,Jb 10 .neq 7 9] [0,1,10]) (.cond (.tmp 10) (.seq (JR [Jo 4 false] [4]) .ret) .skip)) (.seq (.seq (JR [Ji 5 0] [0,1,5]) (.block 0 (.loop (.seq (.seq (JR [Jc 11 5,Jc 12 0,Jn 13 12,Jb 14 .lss 11 13] [0,1,5,14]) (.cond (.tmp 14) .skip (.exit 0))) (.seq (.block 1 (.seq (JW [(Jc 17 0,false,[0]),(Jc 18 5,false,[5]),(Jx 19 4 17 18,false,[17,18]),(Jg 20 4 19,false,[19]),(Jc 21 1,false,[1]),(Jc 22 5,false,[5]),(Jx 23 4 21 22,false,[21,22]),(Jg 24 4 23,false,[23]),(J 25 (.bin (some (true,[.i,.s,.s,.b])) .neq (.tmp 20) (.tmp 24)),false,[20,24])] [0,1,5,25]) (.cond (.tmp 25) (.seq (JR [Jo 4 false] [4]) .ret) .skip))) (JR [Jc 15 5,Jk 16 .add 15 1,Jt 5 16] [0,1,5])))))) (.seq (JR [Jo 4 true] [4]) .ret)))
def pf50 : PFunc := ⟨2, [.ro, .ro], g50.un, [.tmp 4], b50⟩
theorem pe50 : prepF Go.Proofs.Tryz.prog a50 Go.Proofs.Tryz.f50 = some pf50 := by kernel_rfl
def b52 : IC := .seq (JR [Jo 4 false] [0,1]) (.seq (.seq (JR [Jc 6 0,Jn 7 6,Jc 8 1,Jn 9 8,Jb 10 .neq 7 9] [0,1,10]) (.cond (.tmp 10) (.seq (JR [Jo 4 false] [4]) .ret) .skip)) (.seq (.seq (JR [Ji 5 0] [0,1,5]) (.block 0 (.loop (.seq (.seq (JR [Jc 11 5,Jc 12 0,Jn 13 12,Jb 14 .lss 11 13] [0,1,5,14]) (.cond (.tmp 14) .skip (.exit 0))) (.seq (.block 1 (.seq (JW [(Jc 17 0,false,[0]),(Jc 18 5,false,[5]),(Jx 19 2 17 18,false,[17,18]),(Jg 20 2 19,false,[19]),(Jc 21 1,false,[1]),(Jc 22 5,false,[5]),(Jx 23 2 21 22,false,[21,22]),(Jg 24 2 23,false,[23]),(J 25 (.bin (some (true,[.s,.s])) .neq (.tmp 20) (.tmp 24)),false,[20,24])] [0,1,5,25]) (.cond (.tmp 25) (.seq (JR [Jo 4 false] [4]) .ret) .skip))) (JR [Jc 15 5,Jk 16 .add 15 1,Jt 5 16] [0,1,5])))))) (.seq (JR [Jo 4 true] [4]) .ret)))
def pf52 : PFunc := ⟨2, [.ro, .ro], g52.un, [.tmp 4], b52⟩
theorem pe52 : prepF Go.Proofs.Tryz.prog a52 Go.Proofs.Tryz.f52 = some pf52 := by kernel_rfl
def b53 : IC := .seq (JR [Jy 2 0,Jy 3 1,Jo 4 false] [2,3]) (.seq (JR [Jf 5 0 2,Jl 6 5,Jf 7 0 3,Jl 8 7,Jb 9 .eql 6 8,Jc 10 9,Jfw 11 10 true 1 2,Jlw 12 10 true 11,Jfw 13 10 true 1 3,Jlw 14 10 true 13,Jw 15 10 true (.callr 50 [.tmp 12,.tmp 14]),Jp 16 10 15,Jt 4 16] [4]) .ret)
def pf53 : PFunc := ⟨2, [.ro, .ro], g53.un, [.tmp 4], b53⟩
theorem pe53 : prepF Go.Proofs.Tryz.prog a53 Go.Proofs.Tryz.f53 = some pf53 := by kernel_rfl
def b56 : IC := .seq (JR [Jz 2 74,J 3 (.alloc [.d (.sc (.int .i64 0)),.d (.sc (.int .i64 0)),.d (.sc (.int .i64 0)),.d (.sc (.int .i64 0))]),Ji 4 0] [0,3]) (.seq (JR [Jc 5 0,J 6 (.callr 58 [.con (.int .i64 1),.con (.int .i64 0),.tmp 5]),Je 7 0 6,Je 8 1 6,Je 9 2 6,Jt 2 7,Js 4 3 8,Jt 4 9] [2,3,4]) .ret)
def pf56 : PFunc := ⟨1, [.ro], g56.un, [.tmp 2, .cell 3 true 4, .tmp 4], b56⟩
theorem pe56 : prepF Go.Proofs.Tryz.prog a56 Go.Proofs.Tryz.f56 = some pf56 := by kernel_rfl
def b57 : IC := .seq (JR [Jy 1 0,Jo 2 false] [1]) (.seq (JR [Jf 3 0 1,Jl 4 3,Jk 5 .geq 4 1,Jc 6 5,Jfw 7 6 true 0 1,Jlw 8 6 true 7,Jw 9 6 true (.bin none .lss (.tmp 8) (.con (.int .i64 1073741824))),Jp 10 6 9,Jc 11 10,Jfw 12 11 true 1 1,Jlw 13 11 true 12,Jw 14 11 true (.bin none .eql (.tmp 13) (.con (.int .i64 0))),Jcw 15 11 true 14,Jfw 16 15 false 1 1,Jlw 17 15 false 16,Jw 18 15 false (.bin none .eql (.tmp 17) (.con (.int .i64 1))),Jw 19 11 true (.pick (.tmp 15) (.con (.bool true)) (.tmp 18)),Jp 20 11 19,Jc 21 20,Jfw 22 21 true 2 1,Jlw 23 21 true 22,Jw 24 21 true (.bin none .geq (.tmp 23) (.con (.int .i64 255))),Jp 25 21 24,Jc 26 25,Jfw 27 26 true 2 1,Jlw 28 26 true 27,Jw 29 26 true (.bin none .leq (.tmp 28) (.con (.int .i64 512))),Jp 30 26 29,Jc 31 30,Jfw 32 31 true 3 1,Jlw 33 31 true 32,Jw 34 31 true (.bin none .geq (.tmp 33) (.con (.int .i64 1))),Jp 35 31 34,Jc 36 35,Jfw 37 36 true 3 1,Jlw 38 36 true 37,Jw 39 36 true (.bin none .lss (.tmp 38) (.con (.int .i64 1073741824))),Jp 40 36 39,Jt 2 40] [2]) .ret)
def pf57 : PFunc := ⟨1, [.ro], g57.un, [.tmp 2], b57⟩
theorem pe57 : prepF Go.Proofs.Tryz.prog a57 Go.Proofs.Tryz.f57 = some pf57 := by kernel_rfl
def b58 : IC := .seq (JR [Jz 6 74,J 7 (.alloc [.d (.sc (.int .i64 0)),.d (.sc (.int .i64 0)),.d (.sc (.int .i64 0)),.d (.sc (.int .i64 0))]),Ji 8 0] [0,1,2,7]) (.seq (.seq (JR [Jc 12 2,Jr 13 69 12,Ju 14 13] [0,1,2,7,14]) (.cond (.tmp 14) (.seq (JR [J 15 (.build true [.d (.sc (.int .i64 0)),.d (.sc (.int .i64 0)),.d (.sc (.int .i64 0)),.d (.sc (.int .i64 0))] []),Jz 6 74,Js 4 7 15,Ji 8 1] [6,7,8,11]) .ret) .skip)) (.seq (JR [Jc 16 2,Jr 17 87 16,J 9 (.alloc [.d (.sc (.int .i64 0)),.own 78 []]),Js 2 9 17] [0,1,7,9]) (.seq (.seq (JR [Jc 18 0,Jk 19 .geq 18 1073741824] [0,1,7,9,19]) (.cond (.tmp 19) (.seq (JR [J 20 (.build true [.d (.sc (.int .i64 0)),.d (.sc (.int .i64 0)),.d (.sc (.int .i64 0)),.d (.sc (.int .i64 0))] []),Jz 6 74,Js 4 7 20,Ji 8 2] [6,7,8,11]) .ret) .skip)) (.seq (.seq (JR [Jg 21 2 9,Jr 22 63 21,Ju 23 22,Jc 24 23,Jw 25 24 false (.load .cp true 2 (.tmp 9)),Jcw 26 24 false 0,Jw 27 24 false (.call 64 [.tmp 25,.tmp 26,.con (.int .i64 0)]),Jw 28 24 false (.len false (.tmp 27)),Jw 29 24 false (.bin none .gtr (.tmp 28) (.con (.int .i64 127))),Jq 30 24 29] [0,1,7,9,30]) (.cond (.tmp 30) (.seq (JR [J 31 (.build true [.d (.sc (.int .i64 0)),.d (.sc (.int .i64 0)),.d (.sc (.int .i64 0)),.d (.sc (.int .i64 0))] []),Jz 6 74,Js 4 7 31,Ji 8 5] [6,7,8,11]) .ret) .skip)) (.seq (JR [J 32 (.build true [.d (.sc (.bool false)),.d (.sc (.int .i64 0)),.d (.sc (.string (bs [])))] [(0,1,.con (.bool true))]),J 10 (.alloc [.d (.sc (.bool false)),.d (.sc (.int .i64 0)),.d (.sc (.string (bs [])))]),Js 3 10 32] [0,1,7,9,10]) (.seq (JW [(Jc 33 1,false,[1]),(Jr 34 41 33,false,[33]),(Jg 35 2 9,false,[9]),(Jc 36 0,false,[0]),(J 37 (.call 64 [.tmp 35,.tmp 36,.con (.int .i64 0)]),true,[9,21,25,35,36,37]),(J 38 (.call 65 [.con (.vs false [.own 74 []]),.tmp 34,.tmp 37]),true,[34,37,38]),(Jg 39 3 10,false,[10]),(J 40 (.bslice 74 [.d (.sc (.bool false)),.d (.sc (.int .i64 0)),.d (.sc (.string (bs [])))] 1 [(0,.tmp 39)]),true,[10,39,40,49]),(J 41 (.app false 74 3 32 (.tmp 38) (.tmp 40)),true,[38,40,41]),(Jt 11 41,true,[6,11,41,42,52])] [0,1,7,10,11]) (.seq (JW [(Jc 42 11,false,[11]),(Jc 43 1,false,[1]),(Jk 44 .add 43 1,false,[43]),(J 45 (.build true [.d (.sc (.int .i64 0)),.own 78 []] [(0,1,.tmp 44)]),true,[44,45]),(Jc 46 0,false,[0]),(J 47 (.call 64 [.tmp 45,.con (.int .i64 0),.tmp 46]),true,[45,46,47]),(J 48 (.call 65 [.tmp 42,.con (.int .i64 0),.tmp 47]),true,[6,11,42,47,48,52]),(Jg 49 3 10,false,[10]),(J 50 (.bslice 74 [.d (.sc (.bool false)),.d (.sc (.int .i64 0)),.d (.sc (.string (bs [])))] 1 [(0,.tmp 49)]),true,[10,39,49,50]),(J 51 (.app false 74 3 32 (.tmp 48) (.tmp 50)),true,[48,50,51]),(Jt 11 51,true,[6,11,42,51,52])] [0,1,7,11]) (.seq (JR [Jc 52 11,Jc 53 0,Jc 54 1,J 55 (.build true [.d (.sc (.int .i64 0)),.d (.sc (.int .i64 0)),.d (.sc (.int .i64 0)),.d (.sc (.int .i64 0))] [(0,1,.tmp 53),(1,1,.tmp 54),(2,1,.con (.int .i64 255)),(3,1,.con (.int .i64 1))]),Jt 6 52,Js 4 7 55,Ji 8 0] [6,7,8,11]) .ret))))))))
def pf58 : PFunc := ⟨3, [.ro, .ro, .ro], g58.un, [.tmp 6, .cell 7 true 4, .tmp 8], b58⟩
theorem pe58 : prepF Go.Proofs.Tryz.prog a58 Go.Proofs.Tryz.f58 = some pf58 := by kernel_rfl
def b59 : IC := .seq (JR [Jy 1 0,J 2 (.alloc [.own 9 [],.own 72 []])] [1,2]) (.seq (JW [(Jf 3 0 1,false,[1]),(Jl 4 3,false,[1,3]),(Jr 5 88 4,false,[1,4]),(Jf 6 1 1,false,[1]),(Jl 7 6,false,[1,6]),(Jr 8 89 7,false,[1,7]),(J 9 (.build true [.own 9 [],.own 72 []] [(0,1,.tmp 5),(1,1,.tmp 8)]),true,[5,8,9]),(Js 2 2 9,true,[2,9])] [2]) .ret)
def pf59 : PFunc := ⟨1, [.ro], g59.un, [.cell 2 true 2], b59⟩
theorem pe59 : prepF Go.Proofs.Tryz.prog a59 Go.Proofs.Tryz.f59 = some pf59 := by kernel_rfl
def b60 : IC := .seq (JR [Jy 3 1,Ji 4 0] [0,3]) (.seq (.block 0 (.seq (JR [Jf 19 0 3,Jl 20 19,Jt 18 20] [0,3,18]) (.cond (.tmp 18) (.seq (.seq (JR [Jc 21 0,J 22 (.nilc (.tmp 21)),Jf 23 1 22,Jl 24 23,Jn 25 24,J 26 (.mov .cp (.con (.int .i64 0)))] [0,24,25,26]) (.block 1 (.loop (.seq (JR [Jb 27 .lss 26 25] [0,24,25,26,27]) (.seq (.cond (.tmp 27) .skip (.exit 1)) (.seq (.block 2 (.seq (JR [Jx 28 2 24 26,Jg 29 2 28,J 6 (.alloc [.d (.sc (.int .i64 0)),.d (.sc (.string (bs [])))]),Js 2 6 29] [0,6,24,25,26]) (JW [(Jc 30 0,false,[0]),(J 31 (.nilc (.tmp 30)),false,[0,30]),(Jf 32 0 31,false,[0,31]),(Jl 33 32,false,[0,32]),(Jf 34 0 6,false,[6]),(Jl 35 34,false,[6,34]),(Jf 36 1 6,false,[6]),(Jl 37 36,false,[6,36]),(Jx 38 1 33 35,false,[0,33,35]),(Js 1 38 37,true,[0,7,8,9,10,11,16,17,21,22,23,24,28,29,30,31,32,33,37,38,40,41,42,44,45,46,59,60,61,62])] [0,24,25,26]))) (JR [Jk 39 .add 26 1,Jc 26 39] [0,24,25,26]))))))) (JR [Jc 40 0,J 41 (.nilc (.tmp 40)),Jf 42 1 41,⟨none,none,.store 1 (.tmp 42) (.con (.vs false [.own 72 []]))⟩] [0])) (.seq (JW [(Jc 44 0,false,[0]),(J 45 (.nilc (.tmp 44)),false,[0,44]),(Jg 46 2 45,false,[0,45]),(Jf 47 1 3,false,[3]),(Jf 48 0 47,false,[3,47]),(Jl 49 48,false,[3,48]),(Jv 50 83 46 49,false,[0,46,49]),(Ju 51 50,false,[50]),(Jt 43 51,true,[43,51])] [0,3,43]) (.cond (.tmp 43) (.seq (JR [Ji 4 3] [0,4]) .ret) (.seq (JR [Jf 53 1 3,Jf 54 1 53,Jl 55 54,Jr 56 80 55,Ju 57 56,Jt 52 57] [0,3,52]) (.cond (.tmp 52) (.seq (JR [Ji 4 1] [0,4]) .ret) (.seq (JR [Jc 59 0,J 60 (.nilc (.tmp 59)),Jf 61 1 60,Jl 62 61,Jn 63 62,Jk 64 .geq 63 2048,Jt 58 64] [0,3,58]) (.cond (.tmp 58) (.seq (JR [Ji 4 2] [0,4]) .ret) (JW [(J 7 (.mov .st (.tmp 0)),false,[0]),(Jc 8 0,false,[0]),(J 9 (.nilc (.tmp 8)),false,[0,8]),(Jf 10 1 9,false,[0,9]),(Jl 11 10,false,[0,10]),(Jf 12 1 3,false,[3]),(Jg 13 2 12,false,[3,12]),(J 14 (.bslice 72 [.d (.sc (.int .i64 0)),.d (.sc (.string (bs [])))] 1 [(0,.tmp 13)]),true,[3,12,13,14,19,47,48,53,54]),(J 15 (.app false 72 2 24 (.tmp 11) (.tmp 14)),true,[0,7,8,9,10,11,14,15,16,17,21,22,23,24,28,29,30,31,32,33,38,40,41,42,44,45,46,59,60,61,62]),(J 16 (.nilc (.tmp 7)),false,[0,7]),(Jf 17 1 16,false,[0,16]),(Js 1 17 15,true,[0,7,8,9,10,11,15,16,17,21,22,23,24,28,29,30,31,32,33,38,40,41,42,44,45,46,59,60,61,62])] [0])))))))))) (.seq (JR [Ji 4 0] [0,4]) .ret))
def pf60 : PFunc := ⟨2, [.io, .ro], g60.un, [.tmp 4], b60⟩
theorem pe60 : prepF Go.Proofs.Tryz.prog a60 Go.Proofs.Tryz.f60 = some pf60 := by kernel_rfl
def b61 : IC := .seq (JR [Jy 1 0,J 2 (.alloc [.d (.sc (.int .i64 0)),.own 78 []])] [1,2]) (.seq (JR [Jg 4 2 1,J 3 (.alloc [.d (.sc (.int .i64 0)),.own 78 []]),Js 2 3 4] [1,2,3]) (.seq (JR [Jf 5 1 1,Jl 6 5,Jr 7 90 6,Jf 8 1 3,Js 1 8 7] [2,3]) (.seq (JR [Jg 9 2 3,Js 2 2 9] [2]) .ret)))
def pf61 : PFunc := ⟨1, [.ro], g61.un, [.cell 2 true 2], b61⟩
theorem pe61 : prepF Go.Proofs.Tryz.prog a61 Go.Proofs.Tryz.f61 = some pf61 := by kernel_rfl
def b62 : IC := .seq (JR [Jy 1 0,Jo 2 false] [1]) (.seq (.seq (JR [Jf 4 0 1,Jl 5 4,J 6 (.callr 14 [.tmp 5,.con (.int .i64 1),.con (.int .i64 1073741824)]),Ju 7 6,Jc 8 7,Jfw 9 8 false 1 1,Jlw 10 8 false 9,Jw 11 8 false (.len false (.tmp 10)),Jw 12 8 false (.bin none .gtr (.tmp 11) (.con (.int .i64 64))),Jq 13 8 12] [1,13]) (.cond (.tmp 13) (.seq (JR [Jo 2 false] [2]) .ret) .skip)) (.seq (.seq (JR [Ji 3 0] [1,3]) (.block 0 (.loop (.seq (.seq (JR [Jc 14 3,Jf 15 1 1,Jl 16 15,Jn 17 16,Jb 18 .lss 14 17] [1,3,18]) (.cond (.tmp 18) .skip (.exit 0))) (.seq (.block 1 (.seq (JR [Jf 21 1 1,Jl 22 21,Jc 23 3,Jx 24 4 22 23,Jg 25 4 24,Jr 26 91 25,Ju 27 26] [1,3,27]) (.cond (.tmp 27) (.seq (JR [Jo 2 false] [2]) .ret) .skip))) (JR [Jc 19 3,Jk 20 .add 19 1,Jt 3 20] [1,3])))))) (.seq (JR [Jo 2 true] [2]) .ret)))
def pf62 : PFunc := ⟨1, [.ro], g62.un, [.tmp 2], b62⟩
theorem pe62 : prepF Go.Proofs.Tryz.prog a62 Go.Proofs.Tryz.f62 = some pf62 := by kernel_rfl
def b63 : IC := .seq (JR [Jy 1 0,Jo 2 false] [1]) (.seq (JR [Jf 3 0 1,Jl 4 3,Jk 5 .geq 4 1,Jc 6 5,Jfw 7 6 true 0 1,Jlw 8 6 true 7,Jw 9 6 true (.bin none .leq (.tmp 8) (.con (.int .i64 1073741824))),Jp 10 6 9,Jc 11 10,Jfw 12 11 true 1 1,Jlw 13 11 true 12,Jw 14 11 true (.len false (.tmp 13)),Jw 15 11 true (.bin none .leq (.tmp 14) (.con (.int .i64 64))),Jp 16 11 15,Jc 17 16,Jfw 18 17 true 1 1,Jlw 19 17 true 18,Jw 20 17 true (.callr 67 [.tmp 19,.fn 92]),Jw 21 17 true (.un .not (.tmp 20)),Jp 22 17 21,Jt 2 22] [2]) .ret)
def pf63 : PFunc := ⟨1, [.ro], g63.un, [.tmp 2], b63⟩
theorem pe63 : prepF Go.Proofs.Tryz.prog a63 Go.Proofs.Tryz.f63 = some pf63 := by kernel_rfl
def b64 : IC := .seq (JR [Jy 3 0,Jz 6 9] [1,2,3,6]) (.seq (JR [Jg 11 2 3,Jr 12 94 11,Jt 7 12] [1,2,6,7]) (.seq (.seq (JR [Ji 8 0] [1,2,6,7,8]) (.block 0 (.loop (.seq (.seq (JR [Jc 13 7,J 14 (.bin none .neq (.tmp 13) (.con (.str (bs [])))),Jc 15 14,Jcw 16 15 false 8,Jw 17 15 false (.bin none .eql (.tmp 16) (.con (.int .i64 0))),Jq 18 15 17] [1,2,6,7,8,18]) (.cond (.tmp 18) .skip (.exit 0))) (.seq (.block 1 (.seq (JR [Jc 21 7,J 22 (.len true (.tmp 21)),J 23 (.mn (.con (.int .i64 20)) (.tmp 22)),Jt 9 23] [1,2,6,7,8,9]) (.seq (JR [Jc 24 1,J 25 (.call 95 [.con (.vs false [.own 5 []]),.tmp 24]),Jc 26 2,J 27 (.call 95 [.tmp 25,.tmp 26]),Jt 10 27] [1,2,6,7,8,9,10]) (.seq (JR [Jc 28 10,Jc 29 8,J 30 (.bin none .shr (.tmp 29) (.con (.int .u64 8))),J 31 (.conv .u8 (.tmp 30)),Jc 32 8,J 33 (.conv .u8 (.tmp 32)),Jc 34 9,Jc 35 7,J 36 (.len true (.tmp 35)),Jb 37 .eql 34 36,Jr 38 96 37,Jc 39 9,J 40 (.conv .u8 (.tmp 39)),J 41 (.bslice 5 [.d (.sc (.int .u8 0))] 4 [(0,.tmp 31),(1,.tmp 33),(2,.tmp 38),(3,.tmp 40)]),J 42 (.app false 5 1 1 (.tmp 28) (.tmp 41)),Jt 10 42] [1,2,6,7,8,9,10]) (.seq (JR [Jc 43 10,Jc 44 7,Jc 45 9,J 46 (.slice true 1 (.tmp 44) none (some (.tmp 45))),J 47 (.app true 5 1 1 (.tmp 43) (.tmp 46)),Jt 10 47] [1,2,6,7,8,9,10]) (.seq (JW [(Jc 48 6,false,[6]),(Jc 49 10,false,[10]),(J 50 (.b2s (.tmp 49)),false,[10,49]),(Jc 51 9,false,[9]),(J 52 (.bin none .sub (.con (.int .i64 20)) (.tmp 51)),false,[51]),(J 53 (.callr 97 [.con (.str (bs [0])),.tmp 52]),false,[52]),(Jb 54 .add 50 53,false,[50,53]),(J 55 (.bslice 9 [.d (.sc (.string (bs [])))] 1 [(0,.tmp 54)]),true,[54,55]),(J 56 (.app false 9 1 16 (.tmp 48) (.tmp 55)),true,[6,48,55,56,60]),(Jt 6 56,true,[6,48,56,60])] [1,2,6,7,8,9]) (JR [Jc 57 7,Jc 58 9,J 59 (.slice true 1 (.tmp 57) (some (.tmp 58)) none),Jt 7 59] [1,2,6,7,8]))))))) (JR [Jc 19 8,Jk 20 .add 19 1,Jt 8 20] [1,2,6,7,8])))))) (.seq (JR [Jc 60 6,Jt 6 60] [6]) .ret)))
def pf64 : PFunc := ⟨3, [.ro, .ro, .ro], g64.un, [.tmp 6], b64⟩
theorem pe64 : prepF Go.Proofs.Tryz.prog a64 Go.Proofs.Tryz.f64 = some pf64 := by kernel_rfl
def b65 : IC := .seq (JR [Jz 6 74] [0,1,2]) (.seq (.seq (JR [Jc 9 2,Jn 10 9,J 11 (.mov .cp (.con (.int .i64 0)))] [0,1,9,10,11]) (.block 0 (.loop (.seq (JR [Jb 12 .lss 11 10] [0,1,9,10,11,12]) (.seq (.cond (.tmp 12) .skip (.exit 0)) (.seq (.block 1 (.seq (JR [Jc 13 11,Jx 14 1 9 11,Jl 15 14,Jt 7 13,Jt 8 15] [0,1,7,8,9,10,11]) (JR [Jc 16 0,Jc 17 1,Jc 18 7,Jb 19 .add 17 18,Jc 20 8,J 21 (.build true [.d (.sc (.int .i64 0)),.d (.sc (.string (bs [])))] [(0,1,.tmp 19),(1,1,.tmp 20)]),J 22 (.build true [.d (.sc (.bool false)),.d (.sc (.int .i64 0)),.d (.sc (.string (bs [])))] [(1,2,.tmp 21)]),J 23 (.bslice 74 [.d (.sc (.bool false)),.d (.sc (.int .i64 0)),.d (.sc (.string (bs [])))] 1 [(0,.tmp 22)]),J 24 (.app false 74 3 32 (.tmp 16) (.tmp 23)),Jt 0 24] [0,1,9,10,11]))) (JR [Jk 25 .add 11 1,Jc 11 25] [0,1,9,10,11]))))))) (.seq (JR [Jc 26 0,Jt 6 26] [0,6]) .ret))
def pf65 : PFunc := ⟨3, [.own, .ro, .ro], g65.un, [.tmp 6], b65⟩
theorem pe65 : prepF Go.Proofs.Tryz.prog a65 Go.Proofs.Tryz.f65 = some pf65 := by kernel_rfl
def b72 : IC := .seq (JR [Ji 2 0] [0]) (.seq (JR [Jc 5 0,Jn 6 5,Jt 3 6] [0,3]) (.seq (.seq (JR [Ji 4 0] [0,3,4]) (.block 0 (.loop (.seq (.seq (JR [Jc 7 4,Jc 8 0,Jn 9 8,Jb 10 .lss 7 9,Jc 11 10,Jcw 12 11 true 3,Jw 13 11 true (.bin none .lss (.tmp 12) (.con (.int .i64 1048576))),Jp 14 11 13] [0,3,4,14]) (.cond (.tmp 14) .skip (.exit 0))) (.seq (.block 1 (JR [Jc 17 3,Jc 18 0,Jc 19 4,Jx 20 2 18 19,Jf 21 1 20,Jl 22 21,Jr 23 106 22,Jb 24 .add 17 23,Jt 3 24] [0,3,4])) (JR [Jc 15 4,Jk 16 .add 15 1,Jt 4 16] [0,3,4])))))) (.seq (JR [Jc 25 3,Jt 2 25] [2]) .ret)))
def pf72 : PFunc := ⟨1, [.ro], g72.un, [.tmp 2], b72⟩
theorem pe72 : prepF Go.Proofs.Tryz.prog a72 Go.Proofs.Tryz.f72 = some pf72 := by kernel_rfl
def b73 : IC := .seq (JR [Ji 2 0] [0]) (.seq (JR [Jc 5 0,Jn 6 5,Jt 3 6] [0,3]) (.seq (.seq (JR [Ji 4 0] [0,3,4]) (.block 0 (.loop (.seq (.seq (JR [Jc 7 4,Jc 8 0,Jn 9 8,Jb 10 .lss 7 9,Jc 11 10,Jcw 12 11 true 3,Jw 13 11 true (.bin none .lss (.tmp 12) (.con (.int .i64 1048576))),Jp 14 11 13] [0,3,4,14]) (.cond (.tmp 14) .skip (.exit 0))) (.seq (.block 1 (JR [Jc 17 3,Jc 18 0,Jc 19 4,Jx 20 1 18 19,Jl 21 20,J 22 (.len true (.tmp 21)),Jb 23 .add 17 22,Jt 3 23] [0,3,4])) (JR [Jc 15 4,Jk 16 .add 15 1,Jt 4 16] [0,3,4])))))) (.seq (JR [Jc 24 3,Jt 2 24] [2]) .ret)))
def pf73 : PFunc := ⟨1, [.ro], g73.un, [.tmp 2], b73⟩
theorem pe73 : prepF Go.Proofs.Tryz.prog a73 Go.Proofs.Tryz.f73 = some pf73 := by kernel_rfl
def b74 : IC := .seq (JR [Jo 2 false] [0]) (.seq (JR [Jc 3 0,J 4 (.len true (.tmp 3)),J 5 (.callr 14 [.tmp 4,.con (.int .i64 1),.con (.int .i64 12)]),Jt 2 5] [2]) .ret)
def pf74 : PFunc := ⟨1, [.ro], g74.un, [.tmp 2], b74⟩
theorem pe74 : prepF Go.Proofs.Tryz.prog a74 Go.Proofs.Tryz.f74 = some pf74 := by kernel_rfl
def b75 : IC := .seq (JR [Jo 2 false] [0]) (.seq (JR [Jc 3 0,J 4 (.len true (.tmp 3)),Jk 5 .leq 4 20,Jt 2 5] [2]) .ret)
def pf75 : PFunc := ⟨1, [.ro], g75.un, [.tmp 2], b75⟩
theorem pe75 : prepF Go.Proofs.Tryz.prog a75 Go.Proofs.Tryz.f75 = some pf75 := by kernel_rfl
def b76 : IC := .seq (JR [Jy 3 0,Jz 6 9] [1,2,3]) (.seq (JR [Jg 13 2 3,Jr 14 107 13,Jt 7 14] [1,2,7]) (.seq (JR [Jz 8 9] [1,2,7,8]) (.seq (JR [Ji 9 0] [1,2,7,8,9]) (.block 0 (.loop (.seq (.block 1 (.seq (JR [Jc 17 7,J 18 (.len true (.tmp 17)),J 19 (.mn (.con (.int .i64 20)) (.tmp 18)),Jt 10 19] [1,2,7,8,9,10]) (.seq (JR [Ji 11 0] [1,2,7,8,9,10,11]) (.seq (.seq (JR [Jc 20 10,Jc 21 7,J 22 (.len true (.tmp 21)),Jb 23 .eql 20 22] [1,2,7,8,9,10,11,23]) (.cond (.tmp 23) (JR [Ji 11 1] [1,2,7,8,9,10,11]) .skip)) (.seq (JW [(Jc 24 1,false,[1]),(J 25 (.callr 108 [.tmp 24,.con (.int .i64 4)]),false,[24]),(Jc 26 2,false,[2]),(J 27 (.callr 108 [.tmp 26,.con (.int .i64 4)]),false,[26]),(Jb 28 .add 25 27,false,[25,27]),(Jc 29 9,false,[9]),(J 30 (.callr 108 [.tmp 29,.con (.int .i64 2)]),false,[29]),(Jb 31 .add 28 30,false,[28,30]),(Jc 32 11,false,[11]),(J 33 (.callr 108 [.tmp 32,.con (.int .i64 1)]),false,[32]),(Jb 34 .add 31 33,false,[31,33]),(Jc 35 10,false,[10]),(J 36 (.callr 108 [.tmp 35,.con (.int .i64 1)]),false,[35]),(Jb 37 .add 34 36,false,[34,36]),(Jc 38 7,false,[7]),(Jc 39 10,false,[10]),(J 40 (.slice true 1 (.tmp 38) none (some (.tmp 39))),false,[38,39]),(Jb 41 .add 37 40,false,[37,40]),(Jt 12 41,true,[12,41])] [1,2,7,8,9,10,11,12]) (.seq (JR [Jc 42 8,Jc 43 12,Jc 44 12,J 45 (.len true (.tmp 44)),J 46 (.bin none .sub (.con (.int .i64 32)) (.tmp 45)),Jr 47 30 46,Jb 48 .add 43 47,J 49 (.bslice 9 [.d (.sc (.string (bs [])))] 1 [(0,.tmp 48)]),J 50 (.app false 9 1 16 (.tmp 42) (.tmp 49)),Jt 8 50] [1,2,7,8,9,10,11]) (.seq (JR [Jc 51 7,Jc 52 10,J 53 (.slice true 1 (.tmp 51) (some (.tmp 52)) none),Jt 7 53] [1,2,7,8,9,11]) (.seq (JR [Jc 54 11,Jk 55 .eql 54 1] [1,2,7,8,9,55]) (.cond (.tmp 55) (.seq (JR [Jc 56 8,Jt 6 56] [6,8]) .ret) .skip))))))))) (JR [Jc 15 9,Jk 16 .add 15 1,Jt 9 16] [1,2,7,8,9])))))))
def pf76 : PFunc := ⟨3, [.ro, .ro, .ro], g76.un, [.tmp 6], b76⟩
theorem pe76 : prepF Go.Proofs.Tryz.prog a76 Go.Proofs.Tryz.f76 = some pf76 := by kernel_rfl
def b77 : IC := .seq (JR [Jz 4 74] [0,1]) (.seq (JR [Jz 5 74] [0,1,5]) (.seq (.seq (JR [Ji 6 0] [0,1,5,6]) (.block 0 (.loop (.seq (.seq (JR [Jc 7 6,Jc 8 1,Jn 9 8,Jb 10 .lss 7 9] [0,1,5,6,10]) (.cond (.tmp 10) .skip (.exit 0))) (.seq (.block 1 (JR [Jc 13 5,Jc 14 0,Jc 15 6,Jb 16 .add 14 15,Jc 17 1,Jc 18 6,Jx 19 1 17 18,Jl 20 19,J 21 (.build true [.d (.sc (.int .i64 0)),.d (.sc (.string (bs [])))] [(0,1,.tmp 16),(1,1,.tmp 20)]),J 22 (.build true [.d (.sc (.bool false)),.d (.sc (.int .i64 0)),.d (.sc (.string (bs [])))] [(1,2,.tmp 21)]),J 23 (.bslice 74 [.d (.sc (.bool false)),.d (.sc (.int .i64 0)),.d (.sc (.string (bs [])))] 1 [(0,.tmp 22)]),J 24 (.app false 74 3 32 (.tmp 13) (.tmp 23)),Jt 5 24] [0,1,5,6])) (JR [Jc 11 6,Jk 12 .add 11 1,Jt 6 12] [0,1,5,6])))))) (.seq (JR [Jc 25 5,Jt 4 25] [4,5]) .ret)))
def pf77 : PFunc := ⟨2, [.ro, .ro], g77.un, [.tmp 4], b77⟩
theorem pe77 : prepF Go.Proofs.Tryz.prog a77 Go.Proofs.Tryz.f77 = some pf77 := by kernel_rfl
def b78 : IC := .seq (JR [Jo 4 false] [0,1]) (.seq (JR [Jc 5 0,Jc 6 1,Jv 7 109 5 6,Jk 8 .geq 7 0,Jt 4 8] [4]) .ret)
def pf78 : PFunc := ⟨2, [.ro, .ro], g78.un, [.tmp 4], b78⟩
theorem pe78 : prepF Go.Proofs.Tryz.prog a78 Go.Proofs.Tryz.f78 = some pf78 := by kernel_rfl
def b79 : IC := .seq (JR [Jo 2 false] [0]) (.seq (JR [Jc 3 0,Jr 4 80 3,Ju 5 4,Jt 2 5] [2]) .ret)
def pf79 : PFunc := ⟨1, [.ro], g79.un, [.tmp 2], b79⟩
theorem pe79 : prepF Go.Proofs.Tryz.prog a79 Go.Proofs.Tryz.f79 = some pf79 := by kernel_rfl
def b81 : IC := .seq (JR [Jo 4 false] [0,1]) (.seq (JR [Jc 5 0,Jc 6 1,Jv 7 110 5 6,Jk 8 .geq 7 0,Jt 4 8] [4]) .ret)
def pf81 : PFunc := ⟨2, [.ro, .ro], g81.un, [.tmp 4], b81⟩
theorem pe81 : prepF Go.Proofs.Tryz.prog a81 Go.Proofs.Tryz.f81 = some pf81 := by kernel_rfl
def b82 : IC := .seq (JR [Jy 2 0,Jo 3 false] [1,2]) (.seq (JR [Jg 4 2 1,Jf 5 0 2,Jl 6 5,Jv 7 83 4 6,Ju 8 7,Jc 9 8,Jfw 10 9 false 1 2,Jlw 11 9 false 10,Jw 12 9 false (.callr 80 [.tmp 11]),Jw 13 9 false (.un .not (.tmp 12)),Jq 14 9 13,Jt 3 14] [3]) .ret)
def pf82 : PFunc := ⟨2, [.ro, .ro], g82.un, [.tmp 3], b82⟩
theorem pe82 : prepF Go.Proofs.Tryz.prog a82 Go.Proofs.Tryz.f82 = some pf82 := by kernel_rfl
def b84 : IC := .seq (JR [J 2 (.alloc [.d (.sc (.int .i64 0)),.own 78 []]),Ji 3 0] [0,2]) (.seq (JR [Jc 7 0,J 8 (.build true [.d (.sc (.string (bs []))),.d (.sc (.bool false))] [(0,1,.tmp 7)]),Jy 9 8,Jt 4 9] [2,4]) (.seq (JR [Jc 10 4,J 11 (.call 111 [.tmp 10,.con (.int .i64 4)]),J 12 (.build true [.d (.sc (.int .i64 0)),.own 78 []] [(0,1,.tmp 11)]),J 5 (.alloc [.d (.sc (.int .i64 0)),.own 78 []]),Js 2 5 12] [2,4,5]) (.seq (.seq (JR [Jc 13 4,J 14 (.call 111 [.tmp 13,.con (.int .i64 4)]),Jt 6 14] [2,4,5,6]) (.block 0 (.loop (.seq (.seq (JR [Jc 15 6,Jk 16 .gtr 15 0,Jc 17 16,Jcw 18 17 true 4,Jw 19 17 true (.nilc (.tmp 18)),Jfw 20 17 true 1 19,Jlw 21 17 true 20,Jw 22 17 true (.un .not (.tmp 21)),Jp 23 17 22] [2,4,5,6,23]) (.cond (.tmp 23) .skip (.exit 0))) (.seq (.block 1 (JW [(Jf 26 1 5,false,[5]),(Jl 27 26,false,[5,26]),(Jc 28 4,false,[4]),(J 29 (.call 112 [.tmp 28]),true,[4,10,13,18,19,20,28,29,33,34,35,38,39,40]),(J 30 (.bslice 78 [.d (.sc (.int .i64 0)),.d (.sc (.string (bs []))),.d (.sc (.string (bs []))),.d (.sc (.bool false))] 1 [(0,.tmp 29)]),true,[29,30]),(J 31 (.app false 78 4 48 (.tmp 27) (.tmp 30)),true,[5,26,27,30,31,32,45,50]),(Jf 32 1 5,false,[5]),(Js 1 32 31,true,[5,26,27,31,32,45,50])] [2,4,5,6])) (JR [Jc 24 6,Jk 25 .sub 24 1,Jt 6 25] [2,4,5,6])))))) (.seq (.seq (JR [Jc 33 4,J 34 (.nilc (.tmp 33)),Jf 35 1 34,Jl 36 35,Jc 37 36,Jcw 38 37 false 4,Jw 39 37 false (.nilc (.tmp 38)),Jfw 40 37 false 0 39,Jlw 41 37 false 40,Jw 42 37 false (.bin none .neq (.tmp 41) (.con (.str (bs [])))),Jq 43 37 42,Jc 44 43,Jw 45 44 false (.load .cp true 2 (.tmp 5)),Jw 46 44 false (.callr 63 [.tmp 45]),Jw 47 44 false (.un .not (.tmp 46)),Jq 48 44 47] [2,5,48]) (.cond (.tmp 48) (.seq (JR [J 49 (.build true [.d (.sc (.int .i64 0)),.own 78 []] []),Js 2 2 49,Ji 3 10] [2,3]) .ret) .skip)) (.seq (JR [Jg 50 2 5,Js 2 2 50,Ji 3 0] [2,3]) .ret)))))
def pf84 : PFunc := ⟨1, [.ro], g84.un, [.cell 2 true 2, .tmp 3], b84⟩
theorem pe84 : prepF Go.Proofs.Tryz.prog a84 Go.Proofs.Tryz.f84 = some pf84 := by kernel_rfl
def b85 : IC := .seq (JR [Jo 4 false] [0,1]) (.seq (.seq (JR [Jc 6 0,Jn 7 6,Jc 8 1,Jn 9 8,Jb 10 .neq 7 9] [0,1,10]) (.cond (.tmp 10) (.seq (JR [Jo 4 false] [4]) .ret) .skip)) (.seq (.seq (JR [Jc 11 0,Jn 12 11,J 13 (.mov .cp (.con (.int .i64 0)))] [0,1,12,13]) (.block 0 (.loop (.seq (JR [Jb 14 .lss 13 12] [0,1,12,13,14]) (.seq (.cond (.tmp 14) .skip (.exit 0)) (.seq (.block 1 (.seq (JR [Jc 15 13,Jt 5 15] [0,1,5,12,13]) (.seq (JW [(Jc 16 0,false,[0]),(Jc 17 5,false,[5]),(Jx 18 1 16 17,false,[16,17]),(Jl 19 18,false,[18]),(Jc 20 1,false,[1]),(Jc 21 5,false,[5]),(Jx 22 1 20 21,false,[20,21]),(Jl 23 22,false,[22]),(Jb 24 .neq 19 23,false,[19,23])] [0,1,12,13,24]) (.cond (.tmp 24) (.seq (JR [Jo 4 false] [4]) .ret) .skip)))) (JR [Jk 25 .add 13 1,Jc 13 25] [0,1,12,13]))))))) (.seq (JR [Jo 4 true] [4]) .ret)))
def pf85 : PFunc := ⟨2, [.ro, .ro], g85.un, [.tmp 4], b85⟩
theorem pe85 : prepF Go.Proofs.Tryz.prog a85 Go.Proofs.Tryz.f85 = some pf85 := by kernel_rfl
def b69 : IC := .seq (JR [Jo 2 false] [0]) (.seq (JR [Jc 3 0,Jn 4 3,Jk 5 .leq 4 3,Jc 6 5,Jcw 7 6 true 0,Jw 8 6 true (.callr 99 [.tmp 7,.fn 100]),Jw 9 6 true (.un .not (.tmp 8)),Jp 10 6 9,Jt 2 10] [2]) .ret)
def pf69 : PFunc := ⟨1, [.ro], g69.un, [.tmp 2], b69⟩
theorem pe69 : prepF Go.Proofs.Tryz.prog a69 Go.Proofs.Tryz.f69 = some pf69 := by kernel_rfl
def b87 : IC := .seq (JR [J 2 (.alloc [.d (.sc (.int .i64 0)),.own 78 []])] [0,2]) (.seq (JR [J 8 (.build true [.d (.sc (.int .i64 0)),.own 78 []] [(0,1,.con (.int .i64 1))]),J 3 (.alloc [.d (.sc (.int .i64 0)),.own 78 []]),Js 2 3 8] [0,2,3]) (.seq (.seq (JR [Jc 9 0,Jn 10 9,J 11 (.mov .cp (.con (.int .i64 0)))] [2,3,9,10,11]) (.block 0 (.loop (.seq (JR [Jb 12 .lss 11 10] [2,3,9,10,11,12]) (.seq (.cond (.tmp 12) .skip (.exit 0)) (.seq (.block 1 (.seq (JR [Jc 13 11,Jx 14 1 9 11,Jl 15 14,Jt 4 13,Jt 5 15] [2,3,4,5,9,10,11]) (.seq (JR [Jc 16 5,Jn 17 16,J 18 (.mov .cp (.con (.int .i64 0)))] [2,3,4,5,9,10,11,16,17,18]) (.block 2 (.loop (.seq (JR [Jb 19 .lss 18 17] [2,3,4,5,9,10,11,16,17,18,19]) (.seq (.cond (.tmp 19) .skip (.exit 2)) (.seq (.block 3 (.seq (JR [Jx 20 2 16 18,Jg 21 2 20,J 7 (.alloc [.d (.sc (.string (bs []))),.d (.sc (.string (bs [])))]),Js 2 7 21] [2,3,4,5,7,9,10,11,16,17,18]) (JR [Jf 22 1 3,Jl 23 22,Jc 24 4,Jf 25 0 7,Jl 26 25,Jf 27 1 7,Jl 28 27,J 29 (.build true [.d (.sc (.int .i64 0)),.d (.sc (.string (bs []))),.d (.sc (.string (bs []))),.d (.sc (.bool false))] [(0,1,.tmp 24),(1,1,.tmp 26),(2,1,.tmp 28)]),J 30 (.bslice 78 [.d (.sc (.int .i64 0)),.d (.sc (.string (bs []))),.d (.sc (.string (bs []))),.d (.sc (.bool false))] 1 [(0,.tmp 29)]),J 31 (.app false 78 4 48 (.tmp 23) (.tmp 30)),Jf 32 1 3,Js 1 32 31] [2,3,4,5,9,10,11,16,17,18]))) (JR [Jk 33 .add 18 1,Jc 18 33] [2,3,4,5,9,10,11,16,17,18]))))))))) (JR [Jk 34 .add 11 1,Jc 11 34] [2,3,9,10,11]))))))) (.seq (JR [Jg 35 2 3,Js 2 2 35] [2]) .ret)))
def pf87 : PFunc := ⟨1, [.ro], g87.un, [.cell 2 true 2], b87⟩
theorem pe87 : prepF Go.Proofs.Tryz.prog a87 Go.Proofs.Tryz.f87 = some pf87 := by kernel_rfl
def b80 : IC := .seq (JR [Jo 2 false] [0]) (.seq (JR [Jc 3 0,J 4 (.len true (.tmp 3)),Jk 5 .eql 4 32,Jt 2 5] [2]) .ret)
def pf80 : PFunc := ⟨1, [.ro], g80.un, [.tmp 2], b80⟩
theorem pe80 : prepF Go.Proofs.Tryz.prog a80 Go.Proofs.Tryz.f80 = some pf80 := by kernel_rfl
def b83 : IC := .seq (JR [Jy 2 0,Jo 4 false] [1,2]) (.seq (JR [Jc 5 1,Jk 6 .geq 5 0,Jc 7 6,Jcw 8 7 true 1,Jfw 9 7 true 0 2,Jlw 10 7 true 9,Jw 11 7 true (.len false (.tmp 10)),Jw 12 7 true (.bin none .lss (.tmp 8) (.tmp 11)),Jp 13 7 12,Jt 4 13] [4]) .ret)
def pf83 : PFunc := ⟨2, [.ro, .ro], g83.un, [.tmp 4], b83⟩
theorem pe83 : prepF Go.Proofs.Tryz.prog a83 Go.Proofs.Tryz.f83 = some pf83 := by kernel_rfl
def b90 : IC := .seq (JR [Jz 2 78] [0]) (.seq (JR [Jz 3 78] [0,3]) (.seq (.seq (JR [Ji 4 0] [0,3,4]) (.block 0 (.loop (.seq (.seq (JR [Jc 5 4,Jc 6 0,Jn 7 6,Jb 8 .lss 5 7] [0,3,4,8]) (.cond (.tmp 8) .skip (.exit 0))) (.seq (.block 1 (JR [Jc 11 3,Jc 12 0,Jc 13 4,Jx 14 4 12 13,Jg 15 4 14,J 16 (.bslice 78 [.d (.sc (.int .i64 0)),.d (.sc (.string (bs []))),.d (.sc (.string (bs []))),.d (.sc (.bool false))] 1 [(0,.tmp 15)]),J 17 (.app false 78 4 48 (.tmp 11) (.tmp 16)),Jt 3 17] [0,3,4])) (JR [Jc 9 4,Jk 10 .add 9 1,Jt 4 10] [0,3,4])))))) (.seq (JR [Jc 18 3,Jt 2 18] [2,3]) .ret)))
def pf90 : PFunc := ⟨1, [.ro], g90.un, [.tmp 2], b90⟩
theorem pe90 : prepF Go.Proofs.Tryz.prog a90 Go.Proofs.Tryz.f90 = some pf90 := by kernel_rfl
def b91 : IC := .seq (JR [Jy 1 0,Jo 2 false] [1]) (.seq (JR [Jf 3 0 1,Jl 4 3,J 5 (.callr 45 [.tmp 4,.con (.int .i64 2)]),Jt 6 5,Jfw 7 6 true 1 1,Jlw 8 6 true 7,Jw 9 6 true (.callr 74 [.tmp 8]),Jp 10 6 9,Jc 11 10,Jfw 12 11 true 2 1,Jlw 13 11 true 12,Jw 14 11 true (.callr 75 [.tmp 13]),Jp 15 11 14,Jc 16 15,Jfw 17 16 true 3 1,Jlw 18 16 true 17,Jw 19 16 true (.un .not (.tmp 18)),Jcw 20 16 true 19,Jfw 21 20 false 2 1,Jlw 22 20 false 21,Jw 23 20 false (.bin none .eql (.tmp 22) (.con (.str (bs [])))),Jw 24 16 true (.pick (.tmp 20) (.con (.bool true)) (.tmp 23)),Jp 25 16 24,Jt 2 25] [2]) .ret)
def pf91 : PFunc := ⟨1, [.ro], g91.un, [.tmp 2], b91⟩
theorem pe91 : prepF Go.Proofs.Tryz.prog a91 Go.Proofs.Tryz.f91 = some pf91 := by kernel_rfl
def b67 : IC := .seq (JR [Jo 4 false] [0,1]) (.seq (JR [Jc 5 0,Jc 6 1,Jv 7 98 5 6,Jk 8 .geq 7 0,Jt 4 8] [4]) .ret)
def pf67 : PFunc := ⟨2, [.ro, .ro], g67.un, [.tmp 4], b67⟩
theorem pe67 : prepF Go.Proofs.Tryz.prog a67 Go.Proofs.Tryz.f67 = some pf67 := by kernel_rfl
def b92 : IC := .seq (JR [Jy 1 0,Jo 2 false] [1]) (.seq (JR [Jg 3 4 1,Jr 4 93 3,Ju 5 4,Jt 2 5] [2]) .ret)
def pf92 : PFunc := ⟨1, [.ro], g92.un, [.tmp 2], b92⟩
theorem pe92 : prepF Go.Proofs.Tryz.prog a92 Go.Proofs.Tryz.f92 = some pf92 := by kernel_rfl
def b94 : IC := .seq (JR [Jy 1 0,J 2 (.mov .tk (.con (.str (bs []))))] [1]) (.seq (JW [(Jf 6 0 1,false,[1]),(Jl 7 6,false,[1,6]),(J 8 (.call 95 [.con (.vs false [.own 5 []]),.tmp 7]),true,[7,8]),(Jf 9 1 1,false,[1]),(Jl 10 9,false,[1,9]),(Jn 11 10,false,[1,10]),(J 12 (.call 95 [.tmp 8,.tmp 11]),true,[8,11,12]),(Jt 3 12,true,[3,12,20,33,43,48])] [1,3]) (.seq (.seq (JR [Jf 13 1 1,Jl 14 13,Jn 15 14,J 16 (.mov .cp (.con (.int .i64 0)))] [1,3,14,15,16]) (.block 0 (.loop (.seq (JR [Jb 17 .lss 16 15] [1,3,14,15,16,17]) (.seq (.cond (.tmp 17) .skip (.exit 0)) (.seq (.block 1 (.seq (JR [Jx 18 4 14 16,Jg 19 4 18,J 5 (.alloc [.d (.sc (.int .i64 0)),.d (.sc (.string (bs []))),.d (.sc (.string (bs []))),.d (.sc (.bool false))]),Js 4 5 19] [1,3,5,14,15,16]) (.seq (JW [(Jc 20 3,false,[3]),(Jf 21 0 5,false,[5]),(Jl 22 21,false,[5,21]),(J 23 (.conv .u8 (.tmp 22)),false,[22]),(Jf 24 3 5,false,[5]),(Jl 25 24,false,[5,24]),(Jr 26 96 25,false,[25]),(Jf 27 1 5,false,[5]),(Jl 28 27,false,[5,27]),(J 29 (.len true (.tmp 28)),false,[28]),(J 30 (.conv .u8 (.tmp 29)),false,[29]),(J 31 (.bslice 5 [.d (.sc (.int .u8 0))] 3 [(0,.tmp 23),(1,.tmp 26),(2,.tmp 30)]),true,[23,26,30,31]),(J 32 (.app false 5 1 1 (.tmp 20) (.tmp 31)),true,[3,20,31,32,33,43,48]),(Jt 3 32,true,[3,20,32,33,43,48])] [1,3,5,14,15,16]) (.seq (JW [(Jc 33 3,false,[3]),(Jf 34 1 5,false,[5]),(Jl 35 34,false,[5,34]),(J 36 (.app true 5 1 1 (.tmp 33) (.tmp 35)),true,[3,20,33,35,36,43,48]),(Jf 37 2 5,false,[5]),(Jl 38 37,false,[5,37]),(J 39 (.len true (.tmp 38)),false,[38]),(J 40 (.conv .u8 (.tmp 39)),false,[39]),(J 41 (.bslice 5 [.d (.sc (.int .u8 0))] 1 [(0,.tmp 40)]),true,[40,41]),(J 42 (.app false 5 1 1 (.tmp 36) (.tmp 41)),true,[36,41,42]),(Jt 3 42,true,[3,20,33,42,43,48])] [1,3,5,14,15,16]) (JR [Jc 43 3,Jf 44 2 5,Jl 45 44,J 46 (.app true 5 1 1 (.tmp 43) (.tmp 45)),Jt 3 46] [1,3,14,15,16]))))) (JR [Jk 47 .add 16 1,Jc 16 47] [1,3,14,15,16]))))))) (.seq (JR [Jc 48 3,J 49 (.b2s (.tmp 48)),Jt 2 49] [2]) .ret)))
def pf94 : PFunc := ⟨1, [.ro], g94.un, [.tmp 2], b94⟩
theorem pe94 : prepF Go.Proofs.Tryz.prog a94 Go.Proofs.Tryz.f94 = some pf94 := by kernel_rfl
def b95 : IC := .seq (JR [Jz 4 5] [0,1]) (.seq (JR [Jc 5 0,Jc 6 1,J 7 (.bin none .shr (.tmp 6) (.con (.int .u64 24))),J 8 (.conv .u8 (.tmp 7)),Jc 9 1,J 10 (.bin none .shr (.tmp 9) (.con (.int .u64 16))),J 11 (.conv .u8 (.tmp 10)),Jc 12 1,J 13 (.bin none .shr (.tmp 12) (.con (.int .u64 8))),J 14 (.conv .u8 (.tmp 13)),Jc 15 1,J 16 (.conv .u8 (.tmp 15)),J 17 (.bslice 5 [.d (.sc (.int .u8 0))] 4 [(0,.tmp 8),(1,.tmp 11),(2,.tmp 14),(3,.tmp 16)]),J 18 (.app false 5 1 1 (.tmp 5) (.tmp 17)),Jt 4 18] [4]) .ret)
def pf95 : PFunc := ⟨2, [.own, .ro], g95.un, [.tmp 4], b95⟩
theorem pe95 : prepF Go.Proofs.Tryz.prog a95 Go.Proofs.Tryz.f95 = some pf95 := by kernel_rfl
def b96 : IC := .seq (JR [J 2 (.mov .tk (.con (.int .u8 0)))] [0]) (.seq (.seq (JR [Jc 3 0] [3]) (.cond (.tmp 3) (.seq (JR [J 2 (.mov .tk (.con (.int .u8 1)))] [2]) .ret) .skip)) (.seq (JR [J 2 (.mov .tk (.con (.int .u8 0)))] [2]) .ret))
def pf96 : PFunc := ⟨1, [.ro], g96.un, [.tmp 2], b96⟩
theorem pe96 : prepF Go.Proofs.Tryz.prog a96 Go.Proofs.Tryz.f96 = some pf96 := by kernel_rfl
def b106 : IC := .seq (JR [Ji 2 0] [0]) (.seq (JR [Jc 5 0,Jn 6 5,Jt 3 6] [0,3]) (.seq (.seq (JR [Ji 4 0] [0,3,4]) (.block 0 (.loop (.seq (.seq (JR [Jc 7 4,Jc 8 0,Jn 9 8,Jb 10 .lss 7 9,Jc 11 10,Jcw 12 11 true 3,Jw 13 11 true (.bin none .lss (.tmp 12) (.con (.int .i64 1048576))),Jp 14 11 13] [0,3,4,14]) (.cond (.tmp 14) .skip (.exit 0))) (.seq (.block 1 (JW [(Jc 17 3,false,[3]),(Jc 18 0,false,[0]),(Jc 19 4,false,[4]),(Jx 20 4 18 19,false,[18,19]),(Jf 21 1 20,false,[20]),(Jl 22 21,false,[21]),(J 23 (.len true (.tmp 22)),false,[22]),(Jc 24 0,false,[0]),(Jc 25 4,false,[4]),(Jx 26 4 24 25,false,[24,25]),(Jf 27 2 26,false,[26]),(Jl 28 27,false,[27]),(J 29 (.len true (.tmp 28)),false,[28]),(Jb 30 .add 23 29,false,[23,29]),(Jk 31 .quo 30 8,false,[30]),(Jb 32 .add 17 31,false,[17,31]),(Jt 3 32,true,[3,32])] [0,3,4])) (JR [Jc 15 4,Jk 16 .add 15 1,Jt 4 16] [0,3,4])))))) (.seq (JR [Jc 33 3,Jt 2 33] [2]) .ret)))
def pf106 : PFunc := ⟨1, [.ro], g106.un, [.tmp 2], b106⟩
theorem pe106 : prepF Go.Proofs.Tryz.prog a106 Go.Proofs.Tryz.f106 = some pf106 := by kernel_rfl
def b107 : IC := .seq (JR [Jy 1 0,J 2 (.mov .tk (.con (.str (bs []))))] [1]) (.seq (JW [(Jf 7 0 1,false,[1]),(Jl 8 7,false,[1,7]),(J 9 (.callr 108 [.tmp 8,.con (.int .i64 4)]),false,[8]),(Jf 10 1 1,false,[1]),(Jl 11 10,false,[1,10]),(Jn 12 11,false,[1,11]),(J 13 (.callr 108 [.tmp 12,.con (.int .i64 4)]),false,[12]),(Jb 14 .add 9 13,false,[9,13]),(Jt 3 14,true,[3,14])] [1,3]) (.seq (.seq (JR [Ji 4 0] [1,3,4]) (.block 0 (.loop (.seq (.seq (JR [Jc 15 4,Jf 16 1 1,Jl 17 16,Jn 18 17,Jb 19 .lss 15 18] [1,3,4,19]) (.cond (.tmp 19) .skip (.exit 0))) (.seq (.block 1 (.seq (JR [Jf 22 1 1,Jl 23 22,Jc 24 4,Jx 25 4 23 24,Jg 26 4 25,J 5 (.alloc [.d (.sc (.int .i64 0)),.d (.sc (.string (bs []))),.d (.sc (.string (bs []))),.d (.sc (.bool false))]),Js 4 5 26] [1,3,4,5]) (.seq (JR [Ji 6 0] [1,3,4,5,6]) (.seq (.seq (JR [Jf 27 3 5,Jl 28 27] [1,3,4,5,6,28]) (.cond (.tmp 28) (JR [Ji 6 1] [1,3,4,5,6]) .skip)) (JW [(Jc 29 3,false,[3]),(Jf 30 0 5,false,[5]),(Jl 31 30,false,[5,30]),(J 32 (.callr 108 [.tmp 31,.con (.int .i64 1)]),false,[31]),(Jb 33 .add 29 32,false,[29,32]),(Jc 34 6,false,[6]),(J 35 (.callr 108 [.tmp 34,.con (.int .i64 1)]),false,[34]),(Jb 36 .add 33 35,false,[33,35]),(Jf 37 1 5,false,[5]),(Jl 38 37,false,[5,37]),(J 39 (.len true (.tmp 38)),false,[38]),(J 40 (.callr 108 [.tmp 39,.con (.int .i64 1)]),false,[39]),(Jb 41 .add 36 40,false,[36,40]),(Jf 42 1 5,false,[5]),(Jl 43 42,false,[5,42]),(Jb 44 .add 41 43,false,[41,43]),(Jf 45 2 5,false,[5]),(Jl 46 45,false,[5,45]),(J 47 (.len true (.tmp 46)),false,[46]),(J 48 (.callr 108 [.tmp 47,.con (.int .i64 1)]),false,[47]),(Jb 49 .add 44 48,false,[44,48]),(Jf 50 2 5,false,[5]),(Jl 51 50,false,[5,50]),(Jb 52 .add 49 51,false,[49,51]),(Jt 3 52,true,[3,52])] [1,3,4]))))) (JR [Jc 20 4,Jk 21 .add 20 1,Jt 4 21] [1,3,4])))))) (.seq (JR [Jc 53 3,Jt 2 53] [2]) .ret)))
def pf107 : PFunc := ⟨1, [.ro], g107.un, [.tmp 2], b107⟩
theorem pe107 : prepF Go.Proofs.Tryz.prog a107 Go.Proofs.Tryz.f107 = some pf107 := by kernel_rfl
def b108 : IC := .seq (JR [J 4 (.mov .tk (.con (.str (bs []))))] [0,1]) (.seq (JR [Jc 7 1,J 8 (.mkslice 5 1 [.d (.sc (.int .u8 0))] (.tmp 7) (.tmp 7)),Jt 5 8] [0,1,5]) (.seq (.seq (JR [Jc 9 1,Jk 10 .sub 9 1,Jt 6 10] [0,5,6]) (.block 0 (.loop (.seq (.seq (JR [Jc 11 6,Jk 12 .geq 11 0] [0,5,6,12]) (.cond (.tmp 12) .skip (.exit 0))) (.seq (.block 1 (.seq (JR [Jc 15 5,Jc 16 6,Jc 17 0,J 18 (.conv .u8 (.tmp 17)),Jx 19 1 15 16,Js 1 19 18] [0,5,6]) (JR [Jc 20 0,J 21 (.bin none .shr (.tmp 20) (.con (.int .u64 8))),Jt 0 21] [0,5,6]))) (JR [Jc 13 6,Jk 14 .sub 13 1,Jt 6 14] [0,5,6])))))) (.seq (JR [Jc 22 5,J 23 (.b2s (.tmp 22)),Jt 4 23] [4]) .ret)))
def pf108 : PFunc := ⟨2, [.ro, .ro], g108.un, [.tmp 4], b108⟩
theorem pe108 : prepF Go.Proofs.Tryz.prog a108 Go.Proofs.Tryz.f108 = some pf108 := by kernel_rfl
def b109 : IC := .seq (JR [Ji 4 0] [0,1]) (.seq (.seq (JR [Jc 6 0,Jn 7 6,J 8 (.mov .cp (.con (.int .i64 0)))] [0,1,7,8]) (.block 0 (.loop (.seq (JR [Jb 9 .lss 8 7] [0,1,7,8,9]) (.seq (.cond (.tmp 9) .skip (.exit 0)) (.seq (.block 1 (.seq (JR [Jc 10 8,Jt 5 10] [0,1,5,7,8]) (.seq (JR [Jc 11 1,Jc 12 0,Jc 13 5,Jx 14 1 12 13,Jl 15 14,J 16 (.callv (.tmp 11) [.tmp 15])] [0,1,5,7,8,16]) (.cond (.tmp 16) (.seq (JR [Jc 17 5,Jt 4 17] [4]) .ret) .skip)))) (JR [Jk 18 .add 8 1,Jc 8 18] [0,1,7,8]))))))) (.seq (JR [Ji 4 (-1)] [4]) .ret))
def pf109 : PFunc := ⟨2, [.ro, .ro], g109.un, [.tmp 4], b109⟩
theorem pe109 : prepF Go.Proofs.Tryz.prog a109 Go.Proofs.Tryz.f109 = some pf109 := by kernel_rfl
def b110 : IC := .seq (JR [Ji 4 0] [0,1]) (.seq (.seq (JR [Jc 6 0,Jn 7 6,J 8 (.mov .cp (.con (.int .i64 0)))] [0,1,7,8]) (.block 0 (.loop (.seq (JR [Jb 9 .lss 8 7] [0,1,7,8,9]) (.seq (.cond (.tmp 9) .skip (.exit 0)) (.seq (.block 1 (.seq (JR [Jc 10 8,Jt 5 10] [0,1,5,7,8]) (.seq (JR [Jc 11 1,Jc 12 0,Jc 13 5,Jx 14 2 12 13,Jg 15 2 14,J 16 (.callv (.tmp 11) [.tmp 15])] [0,1,5,7,8,16]) (.cond (.tmp 16) (.seq (JR [Jc 17 5,Jt 4 17] [4]) .ret) .skip)))) (JR [Jk 18 .add 8 1,Jc 8 18] [0,1,7,8]))))))) (.seq (JR [Ji 4 (-1)] [4]) .ret))
def pf110 : PFunc := ⟨2, [.ro, .ro], g110.un, [.tmp 4], b110⟩
theorem pe110 : prepF Go.Proofs.Tryz.prog a110 Go.Proofs.Tryz.f110 = some pf110 := by kernel_rfl
def b111 : IC := .seq (JR [Ji 4 0] [0,1]) (.seq (JR [Ji 5 0] [0,1,5]) (.seq (.seq (JR [Jc 8 0,Jc 9 1,J 10 (.call 127 [.tmp 8,.tmp 9]),J 11 (.s2b (.tmp 10)),Jn 12 11,J 13 (.mov .cp (.con (.int .i64 0)))] [0,5,11,12,13]) (.block 0 (.loop (.seq (JR [Jb 14 .lss 13 12] [0,5,11,12,13,14]) (.seq (.cond (.tmp 14) .skip (.exit 0)) (.seq (.block 1 (.seq (JR [Jx 15 1 11 13,Jl 16 15,Jt 7 16] [0,5,7,11,12,13]) (JR [Jc 17 5,J 18 (.bin none .shl (.tmp 17) (.con (.int .u64 8))),Jc 19 7,J 20 (.conv .i64 (.tmp 19)),Jb 21 .or 18 20,Jt 5 21] [0,5,11,12,13]))) (JR [Jk 22 .add 13 1,Jc 13 22] [0,5,11,12,13]))))))) (.seq (JR [Jc 23 5,Jt 4 23] [0,4]) .ret)))
def pf111 : PFunc := ⟨2, [.io, .ro], g111.un, [.tmp 4], b111⟩
theorem pe111 : prepF Go.Proofs.Tryz.prog a111 Go.Proofs.Tryz.f111 = some pf111 := by kernel_rfl
def b112 : IC := .seq (JR [J 2 (.alloc [.d (.sc (.int .i64 0)),.d (.sc (.string (bs []))),.d (.sc (.string (bs []))),.d (.sc (.bool false))])] [0,2]) (.seq (JR [Jc 4 0,J 5 (.call 111 [.tmp 4,.con (.int .i64 1)]),Jf 6 0 2,Js 1 6 5] [0,2]) (.seq (JR [Jc 7 0,J 8 (.call 111 [.tmp 7,.con (.int .i64 1)]),Jt 3 8] [0,2,3]) (.seq (JR [Jc 9 3,Jk 10 .eql 9 1,Jf 11 3 2,Js 1 11 10] [0,2,3]) (.seq (JR [Jc 12 0,Jc 13 0,J 14 (.nilc (.tmp 13)),Jf 15 1 14,Jl 16 15,Jc 17 16,Jcw 18 17 false 3,Jw 19 17 false (.bin none .gtr (.tmp 18) (.con (.int .i64 1))),Jq 20 17 19,J 21 (.nilc (.tmp 12)),Jf 22 1 21,Js 1 22 20] [0,2]) (.seq (JR [Jc 23 0,Jc 24 0,J 25 (.call 111 [.tmp 24,.con (.int .i64 1)]),J 26 (.call 127 [.tmp 23,.tmp 25]),Jf 27 1 2,Js 1 27 26] [0,2]) (.seq (JR [Jc 28 0,Jc 29 0,J 30 (.call 111 [.tmp 29,.con (.int .i64 1)]),J 31 (.call 127 [.tmp 28,.tmp 30]),Jf 32 2 2,Js 1 32 31] [0,2]) (.seq (JR [Jg 33 4 2,Js 4 2 33] [0,2]) .ret)))))))
def pf112 : PFunc := ⟨1, [.io], g112.un, [.cell 2 true 4], b112⟩
theorem pe112 : prepF Go.Proofs.Tryz.prog a112 Go.Proofs.Tryz.f112 = some pf112 := by kernel_rfl
def b99 : IC := .seq (JR [Jo 4 false] [0,1]) (.seq (JR [Jc 5 0,Jc 6 1,Jv 7 122 5 6,Jk 8 .geq 7 0,Jt 4 8] [4]) .ret)
def pf99 : PFunc := ⟨2, [.ro, .ro], g99.un, [.tmp 4], b99⟩
theorem pe99 : prepF Go.Proofs.Tryz.prog a99 Go.Proofs.Tryz.f99 = some pf99 := by kernel_rfl
def b100 : IC := .seq (JR [Jo 2 false] [0]) (.seq (JR [Jc 3 0,Jr 4 101 3,Ju 5 4,Jt 2 5] [2]) .ret)
def pf100 : PFunc := ⟨1, [.ro], g100.un, [.tmp 2], b100⟩
theorem pe100 : prepF Go.Proofs.Tryz.prog a100 Go.Proofs.Tryz.f100 = some pf100 := by kernel_rfl
def b98 : IC := .seq (JR [Ji 4 0] [0,1]) (.seq (.seq (JR [Jc 6 0,Jn 7 6,J 8 (.mov .cp (.con (.int .i64 0)))] [0,1,7,8]) (.block 0 (.loop (.seq (JR [Jb 9 .lss 8 7] [0,1,7,8,9]) (.seq (.cond (.tmp 9) .skip (.exit 0)) (.seq (.block 1 (.seq (JR [Jc 10 8,Jt 5 10] [0,1,5,7,8]) (.seq (JR [Jc 11 1,Jc 12 0,Jc 13 5,Jx 14 4 12 13,Jg 15 4 14,J 16 (.callv (.tmp 11) [.tmp 15])] [0,1,5,7,8,16]) (.cond (.tmp 16) (.seq (JR [Jc 17 5,Jt 4 17] [4]) .ret) .skip)))) (JR [Jk 18 .add 8 1,Jc 8 18] [0,1,7,8]))))))) (.seq (JR [Ji 4 (-1)] [4]) .ret))
def pf98 : PFunc := ⟨2, [.ro, .ro], g98.un, [.tmp 4], b98⟩
theorem pe98 : prepF Go.Proofs.Tryz.prog a98 Go.Proofs.Tryz.f98 = some pf98 := by kernel_rfl
def b93 : IC := .seq (JR [Jy 1 0,Jo 2 false] [1]) (.seq (JR [Jf 3 0 1,Jl 4 3,Jr 5 113 4,Jt 6 5,Jfw 7 6 true 1 1,Jlw 8 6 true 7,Jw 9 6 true (.callr 114 [.tmp 8]),Jp 10 6 9,Jc 11 10,Jfw 12 11 true 2 1,Jlw 13 11 true 12,Jw 14 11 true (.callr 115 [.tmp 13]),Jp 15 11 14,Jc 16 15,Jfw 17 16 true 3 1,Jlw 18 16 true 17,Jw 19 16 true (.un .not (.tmp 18)),Jcw 20 16 true 19,Jfw 21 20 false 2 1,Jlw 22 20 false 21,Jw 23 20 false (.bin none .eql (.tmp 22) (.con (.str (bs [])))),Jw 24 16 true (.pick (.tmp 20) (.con (.bool true)) (.tmp 23)),Jp 25 16 24,Jt 2 25] [2]) .ret)
def pf93 : PFunc := ⟨1, [.ro], g93.un, [.tmp 2], b93⟩
theorem pe93 : prepF Go.Proofs.Tryz.prog a93 Go.Proofs.Tryz.f93 = some pf93 := by kernel_rfl
def b127 : IC := .seq (JR [J 4 (.mov .tk (.con (.str (bs []))))] [0,1]) (.seq (.seq (JR [Jc 6 0,J 7 (.nilc (.tmp 6)),Jf 8 1 7,Jl 9 8,Jc 10 9,Jcw 11 10 false 1,Jcw 12 10 false 0,Jw 13 10 false (.nilc (.tmp 12)),Jfw 14 10 false 0 13,Jlw 15 10 false 14,Jw 16 10 false (.len true (.tmp 15)),Jw 17 10 false (.bin none .gtr (.tmp 11) (.tmp 16)),Jq 18 10 17] [0,1,18]) (.cond (.tmp 18) (.seq (JR [Jc 19 0,J 20 (.nilc (.tmp 19)),Jf 21 1 20,⟨none,none,.store 1 (.tmp 21) (.con (.bool true))⟩] [0]) (.seq (JR [J 4 (.mov .tk (.con (.str (bs []))))] [0,4]) .ret)) .skip)) (.seq (JR [Jc 22 0,J 23 (.nilc (.tmp 22)),Jf 24 0 23,Jl 25 24,Jc 26 1,J 27 (.slice true 1 (.tmp 25) none (some (.tmp 26))),Jt 5 27] [0,1,5]) (.seq (JR [Jc 28 0,Jc 29 0,J 30 (.nilc (.tmp 29)),Jf 31 0 30,Jl 32 31,Jc 33 1,J 34 (.slice true 1 (.tmp 32) (some (.tmp 33)) none),J 35 (.nilc (.tmp 28)),Jf 36 0 35,Js 1 36 34] [0,5]) (.seq (JR [Jc 37 5,Jt 4 37] [0,4]) .ret))))
def pf127 : PFunc := ⟨2, [.io, .ro], g127.un, [.tmp 4], b127⟩
theorem pe127 : prepF Go.Proofs.Tryz.prog a127 Go.Proofs.Tryz.f127 = some pf127 := by kernel_rfl
def b122 : IC := .seq (JR [Ji 4 0] [0,1]) (.seq (.seq (JR [Jc 6 0,Jn 7 6,J 8 (.mov .cp (.con (.int .i64 0)))] [0,1,7,8]) (.block 0 (.loop (.seq (JR [Jb 9 .lss 8 7] [0,1,7,8,9]) (.seq (.cond (.tmp 9) .skip (.exit 0)) (.seq (.block 1 (.seq (JR [Jc 10 8,Jt 5 10] [0,1,5,7,8]) (.seq (JR [Jc 11 1,Jc 12 0,Jc 13 5,Jx 14 1 12 13,Jl 15 14,J 16 (.callv (.tmp 11) [.tmp 15])] [0,1,5,7,8,16]) (.cond (.tmp 16) (.seq (JR [Jc 17 5,Jt 4 17] [4]) .ret) .skip)))) (JR [Jk 18 .add 8 1,Jc 8 18] [0,1,7,8]))))))) (.seq (JR [Ji 4 (-1)] [4]) .ret))
def pf122 : PFunc := ⟨2, [.ro, .ro], g122.un, [.tmp 4], b122⟩
theorem pe122 : prepF Go.Proofs.Tryz.prog a122 Go.Proofs.Tryz.f122 = some pf122 := by kernel_rfl
def b101 : IC := .seq (JR [Jo 2 false] [0]) (.seq (.seq (JR [Jc 5 0,Jn 6 5,J 7 (.mov .cp (.con (.int .i64 0)))] [0,5,6,7]) (.block 0 (.loop (.seq (JR [Jb 8 .lss 7 6] [0,5,6,7,8]) (.seq (.cond (.tmp 8) .skip (.exit 0)) (.seq (.block 1 (.seq (JR [Jc 9 7,Jx 10 2 5 7,Jg 11 2 10,J 4 (.alloc [.d (.sc (.string (bs []))),.d (.sc (.string (bs [])))]),Jt 3 9,Js 2 4 11] [0,3,4,5,6,7]) (.seq (JW [(Jf 12 0 4,false,[4]),(Jl 13 12,false,[4,12]),(Jr 14 114 13,false,[13]),(Ju 15 14,false,[14]),(Jc 16 15,false,[15]),(Jfw 17 16 false 1 4,false,[4,16]),(Jlw 18 16 false 17,false,[4,16,17]),(Jw 19 16 false (.callr 115 [.tmp 18]),false,[16,18]),(Jw 20 16 false (.un .not (.tmp 19)),false,[16,19]),(Jq 21 16 20,false,[16,20]),(Jc 22 21,false,[21]),(Jcw 23 22 false 3,false,[3,22]),(Jw 24 22 false (.bin none .gtr (.tmp 23) (.con (.int .i64 0))),false,[22,23]),(Jcw 25 22 false 24,false,[22,24]),(Jfw 26 25 true 0 4,false,[4,25]),(Jlw 27 25 true 26,false,[4,25,26]),(Jcw 28 25 true 0,false,[0,25]),(Jcw 29 25 true 3,false,[3,25]),(Jw 30 25 true (.bin none .sub (.tmp 29) (.con (.int .i64 1))),false,[25,29]),(Jw 31 25 true (.indexA 2 (.tmp 28) (.tmp 30)),false,[25,28,30]),(Jfw 32 25 true 0 31,false,[25,31]),(Jlw 33 25 true 32,false,[25,32]),(Jw 34 25 true (.bin none .leq (.tmp 27) (.tmp 33)),false,[25,27,33]),(Jw 35 22 false (.pick (.tmp 25) (.tmp 34) (.con (.bool false))),false,[22,25,34]),(Jq 36 22 35,false,[22,35])] [0,5,6,7,36]) (.cond (.tmp 36) (.seq (JR [Jo 2 false] [2]) .ret) .skip)))) (JR [Jk 37 .add 7 1,Jc 7 37] [0,5,6,7]))))))) (.seq (JR [Jo 2 true] [2]) .ret))
def pf101 : PFunc := ⟨1, [.ro], g101.un, [.tmp 2], b101⟩
theorem pe101 : prepF Go.Proofs.Tryz.prog a101 Go.Proofs.Tryz.f101 = some pf101 := by kernel_rfl
def b113 : IC := .seq (JR [Jo 2 false] [0]) (.seq (JR [Jc 3 0,Jk 4 .geq 3 0,Jc 5 4,Jcw 6 5 true 0,Jw 7 5 true (.bin none .lss (.tmp 6) (.con (.int .i64 3))),Jp 8 5 7,Jt 2 8] [2]) .ret)
def pf113 : PFunc := ⟨1, [.ro], g113.un, [.tmp 2], b113⟩
theorem pe113 : prepF Go.Proofs.Tryz.prog a113 Go.Proofs.Tryz.f113 = some pf113 := by kernel_rfl
def b114 : IC := .seq (JR [Jo 2 false] [0]) (.seq (JR [Jc 3 0,J 4 (.bin none .neq (.tmp 3) (.con (.str (bs [])))),Jc 5 4,Jcw 6 5 true 0,Jw 7 5 true (.len true (.tmp 6)),Jw 8 5 true (.bin none .leq (.tmp 7) (.con (.int .i64 12))),Jp 9 5 8,Jt 2 9] [2]) .ret)
def pf114 : PFunc := ⟨1, [.ro], g114.un, [.tmp 2], b114⟩
theorem pe114 : prepF Go.Proofs.Tryz.prog a114 Go.Proofs.Tryz.f114 = some pf114 := by kernel_rfl
def b115 : IC := .seq (JR [Jo 2 false] [0]) (.seq (JR [Jc 3 0,J 4 (.len true (.tmp 3)),Jk 5 .leq 4 20,Jt 2 5] [2]) .ret)
def pf115 : PFunc := ⟨1, [.ro], g115.un, [.tmp 2], b115⟩
theorem pe115 : prepF Go.Proofs.Tryz.prog a115 Go.Proofs.Tryz.f115 = some pf115 := by kernel_rfl
def tab : List (Nat × PFunc) := [(4, pf4), (6, pf6), (7, pf7), (8, pf8), (9, pf9), (10, pf10), (11, pf11), (12, pf12), (14, pf14), (16, pf16), (17, pf17), (18, pf18), (20, pf20), (21, pf21), (22, pf22), (23, pf23), (24, pf24), (25, pf25), (26, pf26), (28, pf28), (29, pf29), (30, pf30), (31, pf31), (32, pf32), (33, pf33), (34, pf34), (35, pf35), (36, pf36), (37, pf37), (38, pf38), (39, pf39), (40, pf40), (41, pf41), (42, pf42), (43, pf43), (44, pf44), (45, pf45), (47, pf47), (48, pf48), (50, pf50), (52, pf52), (53, pf53), (56, pf56), (57, pf57), (58, pf58), (59, pf59), (60, pf60), (61, pf61), (62, pf62), (63, pf63), (64, pf64), (65, pf65), (72, pf72), (73, pf73), (74, pf74), (75, pf75), (76, pf76), (77, pf77), (78, pf78), (79, pf79), (81, pf81), (82, pf82), (84, pf84), (85, pf85), (69, pf69), (87, pf87), (80, pf80), (83, pf83), (90, pf90), (91, pf91), (67, pf67), (92, pf92), (94, pf94), (95, pf95), (96, pf96), (106, pf106), (107, pf107), (108, pf108), (109, pf109), (110, pf110), (111, pf111), (112, pf112), (99, pf99), (100, pf100), (98, pf98), (93, pf93), (127, pf127), (122, pf122), (101, pf101), (113, pf113), (114, pf114), (115, pf115)]
noncomputable def gv : FuncId → Option (List PM × (List T → Option Res)) := fun f => if f = 97 then some repGiven else if f = 88 then some (cloneGiven Tryz.prog 9) else if f = 89 then some (cloneGiven Tryz.prog 72) else none
noncomputable def G : Prog := { fn := fun f => tab.lookup f, given := gv }
theorem Gpm : G.pm 4 = [.ro] ∧ G.pm 6 = [.ro] ∧ G.pm 7 = [.ro] ∧ G.pm 8 = [.ro] ∧ G.pm 9 = [.ro, .ro] ∧ G.pm 10 = [.ro] ∧ G.pm 11 = [.ro, .ro] ∧ G.pm 12 = [.ro, .ro] ∧ G.pm 14 = [.ro, .ro, .ro] ∧ G.pm 16 = [.ro] ∧ G.pm 17 = [.ro, .ro] ∧ G.pm 18 = [.ro, .ro] ∧ G.pm 20 = [] ∧ G.pm 21 = [.ro, .ro] ∧ G.pm 22 = [.ro, .ro, .ro] ∧ G.pm 23 = [.ro, .ro] ∧ G.pm 24 = [.ro] ∧ G.pm 25 = [.ro, .ro] ∧ G.pm 26 = [.ro, .ro] ∧ G.pm 28 = [.ro] ∧ G.pm 29 = [.ro] ∧ G.pm 30 = [.ro] ∧ G.pm 31 = [.ro] ∧ G.pm 32 = [.ro] ∧ G.pm 33 = [.ro, .ro, .ro] ∧ G.pm 34 = [.ro, .ro, .ro] ∧ G.pm 35 = [.ro, .ro] ∧ G.pm 36 = [.ro, .ro] ∧ G.pm 37 = [.ro] ∧ G.pm 38 = [.ro] ∧ G.pm 39 = [.ro] ∧ G.pm 40 = [.ro] ∧ G.pm 41 = [.ro] ∧ G.pm 42 = [.ro, .ro, .ro] ∧ G.pm 43 = [.ro, .ro] ∧ G.pm 44 = [.ro, .ro, .ro] ∧ G.pm 45 = [.ro, .ro] ∧ G.pm 47 = [.ro, .ro] ∧ G.pm 48 = [.ro] ∧ G.pm 50 = [.ro, .ro] ∧ G.pm 52 = [.ro, .ro] ∧ G.pm 53 = [.ro, .ro] ∧ G.pm 56 = [.ro] ∧ G.pm 57 = [.ro] ∧ G.pm 58 = [.ro, .ro, .ro] ∧ G.pm 59 = [.ro] ∧ G.pm 60 = [.io, .ro] ∧ G.pm 61 = [.ro] ∧ G.pm 62 = [.ro] ∧ G.pm 63 = [.ro] ∧ G.pm 64 = [.ro, .ro, .ro] ∧ G.pm 65 = [.own, .ro, .ro] ∧ G.pm 72 = [.ro] ∧ G.pm 73 = [.ro] ∧ G.pm 74 = [.ro] ∧ G.pm 75 = [.ro] ∧ G.pm 76 = [.ro, .ro, .ro] ∧ G.pm 77 = [.ro, .ro] ∧ G.pm 78 = [.ro, .ro] ∧ G.pm 79 = [.ro] ∧ G.pm 81 = [.ro, .ro] ∧ G.pm 82 = [.ro, .ro] ∧ G.pm 84 = [.ro] ∧ G.pm 85 = [.ro, .ro] ∧ G.pm 69 = [.ro] ∧ G.pm 87 = [.ro] ∧ G.pm 80 = [.ro] ∧ G.pm 83 = [.ro, .ro] ∧ G.pm 90 = [.ro] ∧ G.pm 91 = [.ro] ∧ G.pm 67 = [.ro, .ro] ∧ G.pm 92 = [.ro] ∧ G.pm 94 = [.ro] ∧ G.pm 95 = [.own, .ro] ∧ G.pm 96 = [.ro] ∧ G.pm 106 = [.ro] ∧ G.pm 107 = [.ro] ∧ G.pm 108 = [.ro, .ro] ∧ G.pm 109 = [.ro, .ro] ∧ G.pm 110 = [.ro, .ro] ∧ G.pm 111 = [.io, .ro] ∧ G.pm 112 = [.io] ∧ G.pm 99 = [.ro, .ro] ∧ G.pm 100 = [.ro] ∧ G.pm 98 = [.ro, .ro] ∧ G.pm 93 = [.ro] ∧ G.pm 127 = [.io, .ro] ∧ G.pm 122 = [.ro, .ro] ∧ G.pm 101 = [.ro] ∧ G.pm 113 = [.ro] ∧ G.pm 114 = [.ro] ∧ G.pm 115 = [.ro] ∧ G.pm 97 = [.ro, .ro] ∧ G.pm 88 = [.ro] ∧ G.pm 89 = [.ro] := by refine ⟨rfl, rfl, rfl, rfl, rfl, rfl, rfl, rfl, rfl, rfl, rfl, rfl, rfl, rfl, rfl, rfl, rfl, rfl, rfl, rfl, rfl, rfl, rfl, rfl, rfl, rfl, rfl, rfl, rfl, rfl, rfl, rfl, rfl, rfl, rfl, rfl, rfl, rfl, rfl, rfl, rfl, rfl, rfl, rfl, rfl, rfl, rfl, rfl, rfl, rfl, rfl, rfl, rfl, rfl, rfl, rfl, rfl, rfl, rfl, rfl, rfl, rfl, rfl, rfl, rfl, rfl, rfl, rfl, rfl, rfl, rfl, rfl, rfl, rfl, rfl, rfl, rfl, rfl, rfl, rfl, rfl, rfl, rfl, rfl, rfl, rfl, rfl, rfl, rfl, rfl, rfl, rfl, rfl, rfl, rfl⟩
attribute [push_cast] Gpm
theorem soundG : Sound Tryz.prog G :=
  ⟨(sound_tab (P := Tryz.prog) (l := tab) (⟨⟨_, a4, Tryz.func4, pe4⟩, ⟨⟨_, a6, Tryz.func6, pe6⟩, ⟨⟨_, a7, Tryz.func7, pe7⟩, ⟨⟨_, a8, Tryz.func8, pe8⟩, ⟨⟨_, a9, Tryz.func9, pe9⟩, ⟨⟨_, a10, Tryz.func10, pe10⟩, ⟨⟨_, a11, Tryz.func11, pe11⟩, ⟨⟨_, a12, Tryz.func12, pe12⟩, ⟨⟨_, a14, Tryz.func14, pe14⟩, ⟨⟨_, a16, Tryz.func16, pe16⟩, ⟨⟨_, a17, Tryz.func17, pe17⟩, ⟨⟨_, a18, Tryz.func18, pe18⟩, ⟨⟨_, a20, Tryz.func20, pe20⟩, ⟨⟨_, a21, Tryz.func21, pe21⟩, ⟨⟨_, a22, Tryz.func22, pe22⟩, ⟨⟨_, a23, Tryz.func23, pe23⟩, ⟨⟨_, a24, Tryz.func24, pe24⟩, ⟨⟨_, a25, Tryz.func25, pe25⟩, ⟨⟨_, a26, Tryz.func26, pe26⟩, ⟨⟨_, a28, Tryz.func28, pe28⟩, ⟨⟨_, a29, Tryz.func29, pe29⟩, ⟨⟨_, a30, Tryz.func30, pe30⟩, ⟨⟨_, a31, Tryz.func31, pe31⟩, ⟨⟨_, a32, Tryz.func32, pe32⟩, ⟨⟨_, a33, Tryz.func33, pe33⟩, ⟨⟨_, a34, Tryz.func34, pe34⟩, ⟨⟨_, a35, Tryz.func35, pe35⟩, ⟨⟨_, a36, Tryz.func36, pe36⟩, ⟨⟨_, a37, Tryz.func37, pe37⟩, ⟨⟨_, a38, Tryz.func38, pe38⟩, ⟨⟨_, a39, Tryz.func39, pe39⟩, ⟨⟨_, a40, Tryz.func40, pe40⟩, ⟨⟨_, a41, Tryz.func41, pe41⟩, ⟨⟨_, a42, Tryz.func42, pe42⟩, ⟨⟨_, a43, Tryz.func43, pe43⟩, ⟨⟨_, a44, Tryz.func44, pe44⟩, ⟨⟨_, a45, Tryz.func45, pe45⟩, ⟨⟨_, a47, Tryz.func47, pe47⟩, ⟨⟨_, a48, Tryz.func48, pe48⟩, ⟨⟨_, a50, Tryz.func50, pe50⟩, ⟨⟨_, a52, Tryz.func52, pe52⟩, ⟨⟨_, a53, Tryz.func53, pe53⟩, ⟨⟨_, a56, Tryz.func56, pe56⟩, ⟨⟨_, a57, Tryz.func57, pe57⟩, ⟨⟨_, a58, Tryz.func58, pe58⟩, ⟨⟨_, a59, Tryz.func59, pe59⟩, ⟨⟨_, a60, Tryz.func60, pe60⟩, ⟨⟨_, a61, Tryz.func61, pe61⟩, ⟨⟨_, a62, Tryz.func62, pe62⟩, ⟨⟨_, a63, Tryz.func63, pe63⟩, ⟨⟨_, a64, Tryz.func64, pe64⟩, ⟨⟨_, a65, Tryz.func65, pe65⟩, ⟨⟨_, a72, Tryz.func72, pe72⟩, ⟨⟨_, a73, Tryz.func73, pe73⟩, ⟨⟨_, a74, Tryz.func74, pe74⟩, ⟨⟨_, a75, Tryz.func75, pe75⟩, ⟨⟨_, a76, Tryz.func76, pe76⟩, ⟨⟨_, a77, Tryz.func77, pe77⟩, ⟨⟨_, a78, Tryz.func78, pe78⟩, ⟨⟨_, a79, Tryz.func79, pe79⟩, ⟨⟨_, a81, Tryz.func81, pe81⟩, ⟨⟨_, a82, Tryz.func82, pe82⟩, ⟨⟨_, a84, Tryz.func84, pe84⟩, ⟨⟨_, a85, Tryz.func85, pe85⟩, ⟨⟨_, a69, Tryz.func69, pe69⟩, ⟨⟨_, a87, Tryz.func87, pe87⟩, ⟨⟨_, a80, Tryz.func80, pe80⟩, ⟨⟨_, a83, Tryz.func83, pe83⟩, ⟨⟨_, a90, Tryz.func90, pe90⟩, ⟨⟨_, a91, Tryz.func91, pe91⟩, ⟨⟨_, a67, Tryz.func67, pe67⟩, ⟨⟨_, a92, Tryz.func92, pe92⟩, ⟨⟨_, a94, Tryz.func94, pe94⟩, ⟨⟨_, a95, Tryz.func95, pe95⟩, ⟨⟨_, a96, Tryz.func96, pe96⟩, ⟨⟨_, a106, Tryz.func106, pe106⟩, ⟨⟨_, a107, Tryz.func107, pe107⟩, ⟨⟨_, a108, Tryz.func108, pe108⟩, ⟨⟨_, a109, Tryz.func109, pe109⟩, ⟨⟨_, a110, Tryz.func110, pe110⟩, ⟨⟨_, a111, Tryz.func111, pe111⟩, ⟨⟨_, a112, Tryz.func112, pe112⟩, ⟨⟨_, a99, Tryz.func99, pe99⟩, ⟨⟨_, a100, Tryz.func100, pe100⟩, ⟨⟨_, a98, Tryz.func98, pe98⟩, ⟨⟨_, a93, Tryz.func93, pe93⟩, ⟨⟨_, a127, Tryz.func127, pe127⟩, ⟨⟨_, a122, Tryz.func122, pe122⟩, ⟨⟨_, a101, Tryz.func101, pe101⟩, ⟨⟨_, a113, Tryz.func113, pe113⟩, ⟨⟨_, a114, Tryz.func114, pe114⟩, ⟨⟨_, a115, Tryz.func115, pe115⟩, trivial⟩⟩⟩⟩⟩⟩⟩⟩⟩⟩⟩⟩⟩⟩⟩⟩⟩⟩⟩⟩⟩⟩⟩⟩⟩⟩⟩⟩⟩⟩⟩⟩⟩⟩⟩⟩⟩⟩⟩⟩⟩⟩⟩⟩⟩⟩⟩⟩⟩⟩⟩⟩⟩⟩⟩⟩⟩⟩⟩⟩⟩⟩⟩⟩⟩⟩⟩⟩⟩⟩⟩⟩⟩⟩⟩⟩⟩⟩⟩⟩⟩⟩⟩⟩⟩⟩⟩⟩⟩⟩⟩⟩)).fns, fun f g hg args r h => by
    simp only [G, gv] at hg
    by_cases e97 : f = 97
    · subst e97; simp only [if_true] at hg; cases hg; exact rep_ok rfl h
    rw [if_neg e97] at hg
    by_cases e88 : f = 88
    · subst e88; simp only [if_true] at hg; cases hg; exact cloS_ok rfl h
    rw [if_neg e88] at hg
    by_cases e89 : f = 89
    · subst e89; simp only [if_true] at hg; cases hg; exact cloP_ok rfl h
    rw [if_neg e89] at hg
    cases hg⟩
end Go.Mir.Tryz
