/- The law TapeCrashes: where the input's bulk is at most 1048576 the law answers true, and the input reads as it did. Part 3 of its proof. -/
import Derived.Test.YtnijfjppolamlaaMirTc2
import Derived.Shelf.Bits.Mul64
import Derived.Shelf.RegionOpenPlain
import Derived.WalkKit
import Derived.RegionTactic
import Derived.LoopTactic
import Derived.Laws.CopyOwn
import Derived.Laws.CopyRow
import Derived.Laws.MakeOwn
import Derived.Lib.Hide
import Derived.RangeFuncNested
import Derived.RangeFuncBound
import Derived.RangeFuncCalls
import Derived.RangeFuncLeaves
import Derived.RangeFuncBox
import Derived.Shelf.Abstract
import Derived.Shelf.RegionOpen
import Derived.OwnWalkIn
import Derived.TacticsInMore
import Derived.LoopNIn
import Derived.LoopIn
import Derived.Test.YtnijfjppolamlaaProg
import Derived.KernelRfl
/- slices.Repeat of one text: walked. -/
set_option linter.unusedVariables false
set_option linter.unusedSimpArgs false
namespace Go.Mir.Try
open Go Go.Proofs Go.Shelf Go.RowKit Go.Lib

def RepPost (s : ByteArray) (n : Nat) (w : World) (e : Ending) (w' : World) : Prop :=
  ∃ g, w.heap.size ≤ g ∧ e = .returned (.slice (some ⟨g, 0, none⟩) n n) ∧ w'.heap[g]? = some (.cells (Array.replicate n (.string s)) 9 (0, 0)) ∧ Below w.heap.size w w'

theorem info9 : (Try.prog.info? 9).map (fun i => (i.zero, i.size, i.bytes)) = some (some (.string ⟨#[]⟩), 1, 16) := by kernel_rfl
theorem und23 : Try.prog.underlying 23 = some (.slice 9) := by kernel_rfl

/-- The first k cells of a row are one text. -/
def RepRel (s : ByteArray) (n g : Nat) (w0 w : World) (k : Nat) : Prop :=
  k ≤ n ∧ 1 ≤ k ∧ ∃ cur : Array Value, w.heap[g]? = some (.cells cur 9 (0, 0)) ∧ cur.size = n ∧ (∀ j, j < k → cur[j]? = some (.string s)) ∧ Below w0.heap.size w0 w

theorem heap_new (w : World) (o : Obj) : (w.alloc o).heap[w.heap.size]? = some o := by unfold World.alloc; simp

/-- 'copy', as one step of a region that draws. -/
theorem stepCopy {P : Program} {ops : Array Oper} {o : Oper} {a : Act} {w : World} {K : Act → World → Prop} {Q : Exit → Act → World → Prop} {E : Prop}
    (hg : o.guard = none) (d x : Operand) (dT sT : TypeId) (hop : o.op = Op.call { callee := Callee.builtin Builtin.copy, args := #[d, x], argTypes := #[dT, sT] })
    (v u : Value) (hd : a.eval d = v) (hx : a.eval x = u) {v' : Value} {w' : World} (hr : (Builtin.copy_ #[dT, sT] o.type #[v, u]).run P w = .ok v' w') (hK : K (a.put o.dst v') w') :
    if Region.wanted o (yielded ops a.tmps) = true then Oper.wp P o a w K Q else E := by
  have hw : Region.wanted o (yielded ops a.tmps) = true := by simp [Region.wanted, hg]
  rw [if_pos hw]
  unfold Oper.wp
  simp [execOp, hop, resolve, invoke, builtin, hd, hx, hr, Result.andThen]
  exact hK

/-- What a round does. -/
theorem RepRel.round {s : ByteArray} {n g : Nat} {w0 w : World} {k : Nat} (h : RepRel s n g w0 w k) (hk : k < n) (hg : w0.heap.size ≤ g) (cd cs : Nat) :
    ∃ w', (Builtin.copy_ #[23, 23] 3 #[.slice (some ⟨g, k, none⟩) (n - k) cd, .slice (some ⟨g, 0, none⟩) k cs]).run Try.prog w.drew = .ok (.int .i64 (min k (n - k) : Nat)) w' ∧ RepRel s n g w0 w' (k + min k (n - k)) := by
  obtain ⟨h1, h2, cur, h3, h4, h5, h6⟩ := h
  obtain ⟨i9, hi9, hz9, hs9, hb9⟩ := info_parts info9
  have hsz : (Try.prog.info? 9).map (·.size) = some 1 := by rw [hi9]; simp [hs9]
  have hg3 : w.drew.heap[g]? = some (.cells cur 9 (0, 0)) := h3
  have hm : min k (n - k) ≤ n - k := Nat.min_le_right _ _
  have hm2 : min k (n - k) ≤ k := Nat.min_le_left _ _
  have := run_copy_row (P := Try.prog) w.drew 23 23 3 9 g k (n - k) cd ⟨g, 0, none⟩ k cs cur 9 (List.replicate (min k (n - k)) (.string s)) und23 hsz hg3 (by simp only [List.length_replicate]; first | done | rfl) (fun j v hj => by
    obtain ⟨hj1, rfl⟩ := List.getElem?_eq_some_iff.1 hj
    simp at hj1
    have h0 : (⟨g, 0, none⟩ : Addr).add j = ⟨g, 0 + j, none⟩ := by unfold Addr.add; split <;> simp_all
    rw [h0]
    simp only [World.cell?, hg3, Nat.zero_add, List.getElem_replicate]
    simpa using h5 j (by omega)) (by simp; omega) (by intro v hv; obtain rfl := List.eq_of_mem_replicate hv; simp [Value.oneCell'])
  rw [List.length_replicate] at this
  refine ⟨_, this, by omega, by omega, _, setRow_heap _ _ cur _ 9 (0, 0) hg3, by simp; omega, fun j hj => ?_, below_setRow (h6.drew) hg _⟩
  simp only [List.getElem?_toArray]
  rw [List.append_assoc]
  by_cases hjk : j < k
  · rw [List.getElem?_append_left (by simp; omega), List.getElem?_take, if_pos hjk]
    simpa using h5 j hjk
  · rw [List.getElem?_append_right (by simp; omega)]
    simp only [List.length_take, Array.length_toList, h4, Nat.min_eq_left (show k ≤ n by omega)]
    rw [List.getElem?_append_left (by simp; omega), List.getElem?_replicate, if_pos (by omega)]

set_option maxHeartbeats 4000000 in
set_option maxRecDepth 100000 in
theorem slRepeat1 (s : ByteArray) (b o c n : Nat) (w : World) (hn0 : 1 ≤ n) (hn : n ≤ 1000000) (hc : w.cell? ⟨b, o, none⟩ = some (.string s)) :
    Calls Try.prog 63 #[.slice (some ⟨b, o, none⟩) 1 c, .int .i64 n] w (RepPost s n w) := by
  have hMul := Any.bits_Mul { repLays with } 1 n (by omega) (by omega) w
  rw [Nat.div_eq_of_lt (by omega : 1 * n < 18446744073709551616), Nat.mod_eq_of_lt (by omega : 1 * n < 18446744073709551616), Nat.one_mul] at hMul
  obtain ⟨i9, hi9, hz9, hs9, hb9⟩ := info_parts info9
  have hmk : ∀ w : World, (Instr.makeSlice 23 (.int .i64 (n : Int)) (.int .i64 (n : Int))).run Try.prog w = .ok (.slice (some ⟨w.heap.size, 0, none⟩) n n) (w.alloc (.cells (madeCells (Value.string ⟨#[]⟩).cells n) 9)) := fun w => by
    have := run_makeSlice (P := Try.prog) w 23 9 i9 _ und23 hi9 hz9 .i64 .i64 n n (by omega) (by omega) (by rw [hs9]; omega) (by rw [hb9]; omega) (by omega)
    simpa [hs9] using this
  have hsz : (Try.prog.info? 9).map (·.size) = some 1 := by rw [hi9]; simp [hs9]
  clear hz9 hb9 hs9 hi9
  have hw1 : IntKind.u64.wrap (n : Int) = (n : Int) := by rw [IntKind.wrap_u64]; omega
  have hw2 : IntKind.i64.wrap (n : Int) = (n : Int) := by rw [IntKind.wrap_i64]; omega
  have hlt : b < w.heap.size := World.block_lt_of_cell? w _ hc
  obtain ⟨cur0, hcur0⟩ : ∃ c, madeCells (Value.string ⟨#[]⟩).cells n = c := ⟨_, rfl⟩
  have hcs0 : cur0.size = n := by rw [← hcur0]; exact size_madeCells _ _
  rw [hcur0] at hmk
  clear hcur0
  obtain ⟨cur1, hcur1⟩ : ∃ c : Array Value, c = (cur0.toList.take 0 ++ [Value.string s] ++ cur0.toList.drop (0 + [Value.string s].length)).toArray := ⟨_, rfl⟩
  have hcp : (Builtin.copy_ #[23, 23] 3 #[.slice (some ⟨w.heap.size, 0, none⟩) n n, .slice (some ⟨b, o, none⟩) 1 c]).run Try.prog (w.alloc (.cells cur0 9)) = .ok (.int .i64 1) ((w.alloc (.cells cur0 9)).setRow w.heap.size cur1) := by
    rw [hcur1]
    exact run_copy_row (P := Try.prog) (w.alloc (.cells cur0 9)) 23 23 3 9 w.heap.size 0 n n ⟨b, o, none⟩ 1 c cur0 9 [.string s] und23 hsz (by simpa using heap_new _ _) (by simp only [List.length_singleton]; exact (Nat.min_eq_left hn0).symm) (fun j v hj => by
      cases j with
      | zero => simp at hj; subst hj; exact (World.cell?_of_block (a := ⟨b, o, none⟩) (w := w) (Below.heap_alloc w _ b hlt)).trans hc
      | succ j => simp at hj) (by simp; omega) (by simp [Value.oneCell'])
  have hrel : Hid (RepRel s n w.heap.size w ((w.alloc (.cells cur0 9)).setRow w.heap.size cur1) 1) := by
    refine ⟨hn0, Nat.le_refl _, cur1, ?_, ?_, ?_, ?_⟩
    · exact setRow_heap _ _ cur0 _ 9 (0, 0) (heap_new _ _)
    · rw [hcur1]; simp; omega
    · intro j hj
      obtain rfl : j = 0 := by omega
      rw [hcur1]; simp
    · exact below_setRow ((Below.refl _ _).alloc (Nat.le_refl _) _) (Nat.le_refl _) _
  clear hcs0 hcur1
  have hM := Lib.hid hMul
  clear hMul
  have mixed : Try.prog.follows .mixedOrders = true := by kernel_rfl
  go_enter Try.func63, Try.ntmps63
  go_wp2_with (go_at_call 96; refine hM.out.mono ?_; rintro e w' ⟨rfl, rfl⟩)
  go_loopw [8] (fun i wr => ∃ k : Nat, i = .int .i64 k ∧ RepRel s n w'.heap.size w' wr k) (fun i _ => n - (RowKit.intOf i).toNat)
  case atStart =>
    exact ⟨1, rfl, by simpa using hrel.out⟩
  case round =>
    obtain ⟨k, rfl, hr⟩ := hrel
    by_cases hlt2 : k < n
    · obtain ⟨w2, hcp2, hr2⟩ := hr.round hlt2 (Nat.le_refl _) (n - k) n
      have hkn : k ≤ n := by omega
      have hw3 : IntKind.i64.wrap ((k : Int) + (min k (n - k) : Nat)) = ((k + min k (n - k) : Nat) : Int) := by
        have : min k (n - k) ≤ n - k := Nat.min_le_right _ _
        rw [IntKind.wrap_i64]; omega
      have hnk : ¬ n = k := by omega
      go_wp2
      go_region_law_o (refine stepCopy rfl _ _ 23 23 rfl (.slice (some ⟨w'.heap.size, k, none⟩) (n - k) (n - k)) (.slice (some ⟨w'.heap.size, 0, none⟩) k n) (by simp [Act.eval, Act.put, hnk]) (by simp [Act.eval, Act.put]) hcp2 ?_)
      go_roundw
      case rel =>
        (repeat apply Exists.intro)
        refine ⟨⟨k + min k (n - k), rfl, hr2⟩, ?_⟩
        simp [Act.put]
        exact ⟨rfl, rfl, rfl, rfl, rfl, rfl, rfl, rfl, rfl, rfl, rfl, rfl, rfl⟩
      case measure =>
        have h1 := hr.2.1
        have h0 : 0 < min k (n - k) := Nat.lt_min.2 ⟨by omega, by omega⟩
        simp [Act.put, RowKit.intOf]
        rw [show ((k : Int) + ((min k (n - k) : Nat) : Int)).toNat = k + min k (n - k) by omega]
        omega
    · obtain rfl : k = n := by have := hr.1; omega
      go_wp2
      go_ret
      obtain ⟨h1, h2, cur, h3, h4, h5, h6⟩ := hr
      refine ⟨w'.heap.size, Nat.le_refl _, rfl, ?_, h6⟩
      rw [h3]
      have : cur = Array.replicate k (.string s) := by
        apply Array.ext
        · simp [h4]
        · intro i h1 h2
          have := h5 i (by omega)
          rw [Array.getElem?_eq_getElem h1] at this
          simpa using this
      rw [this]

/-- What is known of slices.Repeat of one text. -/
def sreGiven : List PM × (List T → Option Res) := ([.ro, .ro], fun
  | [.vs false [.d (.sl [[.sc (.string s)]])], .vs false [.d (.sc (.int .i64 n))]] =>
    if 1 ≤ n ∧ n ≤ 1000000 then some (.one (.own 9 (List.replicate n.toNat [.d (.sc (.string s))])), []) else none
  | _ => none)

theorem sre_ok {pm : FuncId → List PM} (hpm : pm 63 = [.ro, .ro]) {args : List T} {r : Res} (h : sreGiven.2 args = some r) : CallR Try.prog pm 63 args r := by
  simp only [sreGiven] at h
  split at h
  case h_2 => cases h
  rename_i s n
  split at h
  case isFalse => cases h
  rename_i hc
  obtain ⟨h0, h1⟩ := hc
  cases h
  refine ⟨⟨_, Try.func63, by kernel_rfl, by kernel_rfl⟩, rfl, fun X w us Fa hX hl ha hd hx => ?_⟩
  match us, hl with
  | [u, v], _ =>
    obtain rfl := sc_of (ha 1 _ v rfl rfl)
    have g0 := VS.toOne (ha 0 _ u rfl rfl)
    cases g0 with
    | blk _ hh => simp [Shape] at hh
    | d _ hro =>
      cases hro with
      | @sl _ b o c sz us h0' hz hsz hc hok hl hu hr =>
        have hsz1 : sz = 1 := by have := hsz _ (List.mem_singleton.2 rfl); simpa using this.symm
        subst hsz1
        obtain ⟨u0, rfl⟩ : ∃ u0, us = [u0] := by
          match us, hl with
          | [u0], _ => exact ⟨u0, rfl⟩
        have hu0 := hr 0 _ u0 rfl rfl
        cases hu0
        have hcell := hu 0 _ rfl
        obtain ⟨m, rfl⟩ := Int.eq_ofNat_of_zero_le (show 0 ≤ n by omega)
        refine (slRepeat1 s b o c m w (by omega) (by omega) (by simpa using hcell)).mono fun en w' ⟨g, hg, he, hw, hb⟩ => ?_
        refine ⟨_, he, ⟨hb.os, hb.tape, hb.output, hb.size, fun k hk _ => hb.block k hk⟩, (fun b => b = g), No, ?_, ?_, fun _ h h2 => h2, fun b h => ?_⟩
        · refine VS.ofOne (.blk (fun _ => No) (vs := (List.replicate m [V.d (.sc (.string s))]).flatten) ⟨rfl, rfl, by decide +kernel, fun c hc => ?_, rfl, m, by simp, by simp, by simp only [maxLen]; omega, ?_⟩ hw (fun j v u hv hu => ?_) (fun _ _ _ _ _ _ h => h.elim) (fun _ _ h => h) (fun b => ⟨.inl, fun h => h.elim id fun ⟨_, _, h⟩ => h.elim⟩))
          · obtain rfl := List.eq_of_mem_replicate hc
            show 1 = Try.prog.cellsOf 9
            decide +kernel
          · rw [show Try.prog.cellsOf 9 = 1 by decide +kernel]; simp
          · have hv' : v = .d (.sc (.string s)) := by
              have := List.mem_of_getElem? hv
              simp only [List.mem_flatten, List.mem_replicate] at this
              obtain ⟨l, ⟨_, rfl⟩, hv⟩ := this
              simpa using hv
            subst hv'
            have hu' : u = .string s := by
              obtain ⟨hj, rfl⟩ := Array.getElem?_eq_some_iff.1 hu
              simp
            subst hu'
            exact .d (fun _ h => h) (.sc rfl)
        · rw [hpm]; exact own_none
        · rcases h with rfl | h
          · exact ⟨fun hh => by have := hX _ hh; omega, .inr hg⟩
          · exact h.elim
end Go.Mir.Try

/- slices.Clone laid over this program. -/
set_option linter.unusedVariables false
namespace Go.Mir.Try
open Go Go.Proofs Go.Shelf
def cloRen (f s t : Nat) : Ren := ⟨fun n => if n = 41 then f else n, fun n => if n = 22 then s else if n = 23 then t else n, fun n => n⟩
theorem clo93 : SlLaysE0.n41 Try.prog (cloRen 93 23 9) := by
  constructor
  all_goals first
    | (intros; kernel_rfl)
    | exact ⟨_, by kernel_rfl, by kernel_rfl⟩
    | exact ⟨"slices.Clone[[]string,string]", by decide, by kernel_rfl⟩
theorem clo94 : SlLaysE0.n41 Try.prog (cloRen 94 50 64) := by
  constructor
  all_goals first
    | (intros; kernel_rfl)
    | exact ⟨_, by kernel_rfl, by kernel_rfl⟩
    | exact ⟨"slices.Clone[[]quorum/api.Put,quorum/api.Put]", by decide, by kernel_rfl⟩
def infoOk (P : Program) (t : Nat) : Bool := match P.info? t with
  | some i => match i.zero with
    | some z => z.cells.size == i.size && decide (0 < i.size)
    | none => false
  | none => false
theorem clone_ok' {P : Program} {f s t : Nat} (L : SlLaysE0.n41 P (cloRen f s t)) (hi : infoOk P t = true) (hfn : ∃ fn, P.funcs[f]? = some fn ∧ (fn.name == "runtime.NumGoroutine") = false ∧ fn.body.isNone = false)
    {pm : FuncId → List PM} (hpm : pm f = [.ro]) {args : List T} {r : Res} (h : (cloneGiven P t).2 args = some r) : CallR P pm f args r := by
  unfold infoOk at hi
  split at hi
  · rename_i i hi0
    split at hi
    · rename_i z hz
      simp only [Bool.and_eq_true, beq_iff_eq, decide_eq_true_eq] at hi
      have hi1 : P.info? ((cloRen f s t).t 23) = some i := hi0
      exact clone_ok L hi1 hz hi.1 hi.2 (fun w => by simp [Go.sizeOf, typeInfo, hi1]) hfn hpm h
    · cases hi
  · cases hi
theorem clo93_ok {pm : FuncId → List PM} (hpm : pm 93 = [.ro]) {args : List T} {r : Res} (h : (cloneGiven Try.prog 9).2 args = some r) : CallR Try.prog pm 93 args r :=
  clone_ok' clo93 (by decide +kernel) ⟨_, Try.func93, by kernel_rfl, by kernel_rfl⟩ hpm h
theorem clo94_ok {pm : FuncId → List PM} (hpm : pm 94 = [.ro]) {args : List T} {r : Res} (h : (cloneGiven Try.prog 64).2 args = some r) : CallR Try.prog pm 94 args r :=
  clone_ok' clo94 (by decide +kernel) ⟨_, Try.func94, by kernel_rfl, by kernel_rfl⟩ hpm h
end Go.Mir.Try

/- slices.Backward over a tape's puts, and its caller tape.Read: walked. -/
set_option linter.unusedVariables false
namespace Go.Mir.Try
open Go Go.Proofs Go.Shelf Go.RowKit
attribute [local go_sem] Oper.semAt_some

/-- What has come when k rounds are over. -/
def bupto {α : Type} (f : Nat → α) (k : Nat) : List α := (List.range k).map f
theorem bupto_succ {α : Type} (f : Nat → α) (k : Nat) : bupto f (k + 1) = bupto f k ++ [f k] := by simp [bupto, List.range_succ]
theorem bupto_length {α : Type} (f : Nat → α) (k : Nat) : (bupto f k).length = k := by simp [bupto]

abbrev PutV := Int × ByteArray

set_option maxRecDepth 100000 in
set_option maxHeartbeats 2000000 in
theorem back1_in (F : Fence) (n : Nat) (h95 : F.fn 95) (hro : F.round = none) (hn : 1 ≤ n) (l Bs n₀ b off len cap : Nat) (f : Nat → Int × PutV) (g : Nat → PutV) (hreach : len ≤ 4611686018427387904) (hb : b < n₀) (hBn : Bs < n₀) (J Jx : List (Int × PutV) → World → Prop)
    (hf : ∀ k, k < len → f k = (((len - 1 - k : Nat) : Int), g (len - 1 - k)))
    (hY : ∀ pre x W, J pre W → pre.length < len → YieldAt F (n - 1) Try.prog l #[.int .i64 x.1, .agg #[.int .i64 x.2.1, .string x.2.2]] W fun e W' =>
      (e = .returned (.bool true) ∧ J (pre ++ [x]) W' ∧ Below n₀ W W') ∨ (e = .returned (.bool false) ∧ Jx (pre ++ [x]) W'))
    (W : World) (hBs : W.cell? ⟨Bs, 0, none⟩ = some (.slice (some ⟨b, off, none⟩) len cap))
    (hc : ∀ j, j < len → W.cell? ⟨b, off + j * 2, none⟩ = some (.int .i64 (g j).1) ∧ W.cell? ⟨b, off + j * 2 + 1, none⟩ = some (.string (g j).2)) (h0 : J [] W) :
    CallsIn F n Try.prog 95 #[.func (.yield l) #[] #[], .pointer (some ⟨Bs, 0, none⟩)] W fun e W' => (∃ v, e = .returned v) ∧
      ((∃ ys, ys = bupto f len ∧ J ys W') ∨ (∃ pre, (∃ k, k ≤ len ∧ pre = bupto f k) ∧ Jx pre W')) := by
  refine callsIn_of_wp Try.func95 rfl h95 ?_ hro
  simp only [Try.ntmps95, List.size_toArray, List.length_cons, List.length_nil, Nat.reduceAdd, Nat.reduceSub, Array.replicate_succ, Array.replicate_zero, List.push_toArray, List.append_toArray, List.nil_append, List.cons_append]
  have hw0 : IntKind.i64.wrap ((len : Int) - 1) = (len : Int) - 1 := by rw [IntKind.wrap_i64]; omega
  have hw1 : ∀ k : Nat, k < len → IntKind.i64.wrap (((len - 1 - k : Nat) : Int) - 1) = ((len - 1 - k : Nat) : Int) - 1 := fun k hk => by rw [IntKind.wrap_i64]; omega
  gi_wp2
  gi_loopw [3] (fun i wr => ∃ k : Nat, k ≤ len ∧ i = .int .i64 ((len : Int) - 1 - k) ∧ J (bupto f k) wr ∧ Below n₀ W wr)
    (fun i _ => (RowKit.intOf i + 1).toNat)
  case atStart => exact ⟨0, Nat.zero_le _, by simp, h0, Below.refl _ _⟩
  case round =>
    obtain ⟨k, hk, rfl, hJs, hnx⟩ := hrel
    by_cases hlt : k < len
    · have e1 : (len : Int) - 1 - k = ((len - 1 - k : Nat) : Int) := by omega
      rw [e1]
      have hj : len - 1 - k < len := by omega
      have hcx := hc (len - 1 - k) hj
      have hcx1 : wr.cell? ⟨b, off + (len - 1 - k) * 2, none⟩ = _ := (hnx.cell (p := ⟨b, _, none⟩) hb).trans hcx.1
      have hcx2 : wr.cell? ⟨b, off + (len - 1 - k) * 2 + 1, none⟩ = _ := (hnx.cell (p := ⟨b, _, none⟩) hb).trans hcx.2
      have hBs' : wr.cell? ⟨Bs, 0, none⟩ = some (.slice (some ⟨b, off, none⟩) len cap) := (hnx.cell (p := ⟨Bs, 0, none⟩) hBn).trans hBs
      obtain ⟨fn, tmps, assign, body, hy, hR⟩ := hY _ (f k) wr hJs (by rw [bupto_length]; exact hlt)
      rw [hf k hlt] at hy
      dsimp only at hy
      have hw1 := hw1 k hlt
      clear hc
      obtain ⟨m, hm⟩ : ∃ m, m = len - 1 - k := ⟨_, rfl⟩
      have hml : m < len := by omega
      rw [← hm] at hy hcx1 hcx2 hw1 ⊢
      have hM := Lib.hid hm
      clear hm hcx e1
      gi_wp2
      refine hR.mono ?_
      rintro e W3 (⟨rfl, hJ3, hk3⟩ | ⟨rfl, hJx3⟩)
      · gi_wp2
        go_roundw
        case rel =>
          have hm := hM.out
          exact ⟨k + 1, by omega, by congr 1; omega, by rw [bupto_succ]; exact hJ3, hnx.trans hk3⟩
        case measure => simp [RowKit.intOf]
      · gi_wp2
        refine bodyPost_ret (results_none rfl _ _ _) rfl ?_
        exact ⟨⟨_, rfl⟩, .inr ⟨_, ⟨k + 1, by omega, (bupto_succ _ _).symm⟩, hJx3⟩⟩
    · obtain rfl : k = len := by omega
      have e2 : (k : Int) - 1 - k = -1 := by omega
      rw [e2]
      gi_wp2
      go_end0
      exact ⟨⟨_, rfl⟩, .inl ⟨_, rfl, hJs⟩⟩

set_option maxRecDepth 100000 in
set_option maxHeartbeats 1000000 in
/-- .. of nothing: no round. -/
theorem back1_nil_in (F : Fence) (n : Nat) (h95 : F.fn 95) (hro : F.round = none) (l Bs : Nat) (a : Option Addr) (cap : Nat) (J : List (Int × PutV) → World → Prop) (W : World) (hBs : W.cell? ⟨Bs, 0, none⟩ = some (.slice a 0 cap)) (h0 : J [] W) :
    CallsIn F n Try.prog 95 #[.func (.yield l) #[] #[], .pointer (some ⟨Bs, 0, none⟩)] W fun e W' => (∃ v, e = .returned v) ∧ J [] W' := by
  refine callsIn_of_wp Try.func95 rfl h95 ?_ hro
  simp only [Try.ntmps95, List.size_toArray, List.length_cons, List.length_nil, Nat.reduceAdd, Nat.reduceSub, Array.replicate_succ, Array.replicate_zero, List.push_toArray, List.append_toArray, List.nil_append, List.cons_append]
  gi_wp2
  gi_loopw [3] (fun i wr => i = .int .i64 (-1) ∧ J [] wr) (fun _ _ => 0)
  case atStart => exact ⟨rfl, h0⟩
  case round =>
    obtain ⟨rfl, hJs⟩ := hrel
    gi_wp2
    go_end0
    exact ⟨⟨_, rfl⟩, hJs⟩

set_option maxHeartbeats 1000000 in
theorem back_in (F : Fence) (n : Nat) (h62 : F.fn 62) (hro : F.round = none) (a : Option Addr) (len cap : Nat) (w : World) :
    CallsIn F n Try.prog 62 #[.slice a len cap] w fun e w' => e = .returned (.func (.func 95) #[] #[.pointer (some ⟨w.heap.size, 0, none⟩)]) ∧ w' = w.alloc (.cells #[.slice a len cap] 50) := by
  refine callsIn_of_wp Try.func62 rfl h62 ?_ hro
  simp only [Try.ntmps62, List.size_toArray, List.length_cons, List.length_nil, Nat.reduceAdd, Nat.reduceSub, Array.replicate_succ, Array.replicate_zero, List.push_toArray, List.append_toArray, List.nil_append, List.cons_append]
  gi_wp2
  go_ret
  exact ⟨rfl, rfl⟩

/-- The slice value sv holds puts, in a block below n₀; or there are none. -/
def Puts (n₀ : Nat) (W : World) (sv : Value) (zs : List PutV) : Prop :=
  (zs = [] ∧ ∃ a cap, sv = .slice a 0 cap) ∨ ∃ b off cap, sv = .slice (some ⟨b, off, none⟩) zs.length cap ∧ b < n₀ ∧ ∀ j (h : j < zs.length), W.cell? ⟨b, off + j * 2, none⟩ = some (.int .i64 zs[j].1) ∧ W.cell? ⟨b, off + j * 2 + 1, none⟩ = some (.string zs[j].2)
theorem Puts.below {n₀ : Nat} {A B : World} (h : Below n₀ A B) {sv : Value} {zs : List PutV} : Puts n₀ A sv zs → Puts n₀ B sv zs
  | .inl e => .inl e
  | .inr ⟨b, off, cap, e, hb, hc⟩ => .inr ⟨b, off, cap, e, hb, fun j hj => ⟨(h.cell (p := ⟨b, _, none⟩) hb).trans (hc j hj).1, (h.cell (p := ⟨b, _, none⟩) hb).trans (hc j hj).2⟩⟩

/-- The k-th from behind. -/
def fromB (zs : List PutV) (k : Nat) : Int × PutV := (((zs.length - 1 - k : Nat) : Int), zs[zs.length - 1 - k]?.getD (0, ⟨#[]⟩))

/-- slices.Backward hands back what goes through all, from behind; or the first k of them. -/
theorem back_stops (F : Fence) (n : Nat) (h95 : F.fn 95) (hro : F.round = none) (hn : 1 ≤ n) (Bs n₀ : Nat) (sv : Value) (zs : List PutV) (hreach : zs.length ≤ 4611686018427387904) (w : World) (hBs : Bs < n₀) (hn₀ : n₀ ≤ w.heap.size)
    (hc : w.cell? ⟨Bs, 0, none⟩ = some sv) (hI : Puts n₀ w sv zs) :
    SeqStopsK F n Try.prog 95 #[.pointer (some ⟨Bs, 0, none⟩)] (fun x : Int × PutV => #[Value.int .i64 x.1, .agg #[.int .i64 x.2.1, .string x.2.2]]) (Below n₀) (fun ys => ys = bupto (fromB zs) zs.length)
      (fun pre => ∃ k, k ≤ zs.length ∧ pre = bupto (fromB zs) k) zs.length w := fun l J Jx W hW _ _ hY h0 => by
  have hc' := (hW.cell (p := ⟨Bs, 0, none⟩) (by have : Bs < w.heap.size := by omega
                                                exact this)).trans hc
  rcases hI.below (hW.mono hn₀) with ⟨rfl, a, cap, rfl⟩ | ⟨b, off, cap, rfl, hb, hcs⟩
  · exact (back1_nil_in F n h95 hro l Bs a cap J W hc' h0).mono fun e W' ⟨he, hj⟩ => ⟨he, .inl ⟨_, rfl, hj⟩⟩
  · exact back1_in F n h95 hro hn l Bs n₀ b off zs.length cap (fromB zs) (fun j => zs[j]?.getD (0, ⟨#[]⟩)) hreach hb hBs J Jx (fun k hk => rfl) hY W hc' (fun j hj => by simpa [hj] using hcs j hj) h0
end Go.Mir.Try

/- tape.Read: walked. -/
set_option linter.unusedVariables false
namespace Go.Mir.Try
open Go Go.Proofs Go.Shelf Go.RowKit
attribute [local go_sem] Oper.semAt_some

def ReadPost (s : ByteArray) (e : Int) (w : World) (en : Ending) (w' : World) : Prop := en = .returned (.tuple #[.string s, .int .i64 e]) ∧ Below w.heap.size w w'

theorem bcells {W w1 : World} (hb : Below W.heap.size W w1) : (∀ b o, b < W.heap.size → w1.cell? ⟨b, o, none⟩ = W.cell? ⟨b, o, none⟩) ∧ (∀ b o, b < W.heap.size → w1.frozen? ⟨b, o, none⟩ = W.frozen? ⟨b, o, none⟩) :=
  ⟨fun b o h => hb.cell (p := ⟨b, o, none⟩) h, fun b o h => hb.frozen (p := ⟨b, o, none⟩) h⟩

set_option maxRecDepth 100000 in
set_option maxHeartbeats 2000000 in
theorem read_bad (sv wv : Value) (hs1 : sv.oneCell' = true) (hw1 : wv.oneCell' = true) (i : Int) (w : World)
    (hMay : ∀ W, Below w.heap.size w W → Calls Try.prog 56 #[.agg #[sv, wv]] W fun e W' => e = .returned (.bool false) ∧ Below W.heap.size W W') :
    Calls Try.prog 33 #[.agg #[sv, wv], .int .i64 i] w (ReadPost ⟨#[]⟩ 1 w) := by
  have hM := Lib.hid hMay
  clear hMay
  go_enter Try.func33, Try.ntmps33
  go_wp2_with fail
  have hB4 : Below w.heap.size w ((((w.alloc (Obj.cells #[sv, wv] 52)).alloc (Obj.cells #[Value.int IntKind.i64 i] 3)).alloc (Obj.cells #[Value.string { data := #[] }] 9)).alloc (Obj.cells #[Value.int IntKind.i64 0] 34)) :=
    ((((Below.refl _ _).alloc (Nat.le_refl _) _).alloc (by simp) _).alloc (by simp; omega) _).alloc (by simp; omega) _
  refine (hM.out _ hB4).mono ?_
  rintro e w1 ⟨rfl, hb⟩
  obtain ⟨hc, hf⟩ := bcells hb
  have hsz := hb.size
  simp at hsz
  go_wp2
  exact bodyPost_ret (v := .tuple #[.string ⟨#[]⟩, .int .i64 1]) (by simp [results, Try.f33, go_sem, hc]) rfl ⟨rfl, ((hB4.trans (hb.mono (by simp; omega))).setCell (by simp; omega) _).setCell (by simp; omega) _⟩

set_option maxRecDepth 100000 in
set_option maxHeartbeats 2000000 in
theorem read_none (sv wv : Value) (hs1 : sv.oneCell' = true) (hw1 : wv.oneCell' = true) (i : Int) (w : World)
    (hMay : ∀ W, Below w.heap.size w W → Calls Try.prog 56 #[.agg #[sv, wv]] W fun e W' => e = .returned (.bool true) ∧ Below W.heap.size W W')
    (hTh : ∀ W, Below w.heap.size w W → Calls Try.prog 61 #[.agg #[sv, wv], .int .i64 i] W fun e W' => e = .returned (.bool false) ∧ Below W.heap.size W W') :
    Calls Try.prog 33 #[.agg #[sv, wv], .int .i64 i] w (ReadPost ⟨#[]⟩ 3 w) := by
  have hM := Lib.hid hMay
  have hT := Lib.hid hTh
  clear hMay hTh
  go_enter Try.func33, Try.ntmps33
  go_wp2_with fail
  have hB4 : Below w.heap.size w ((((w.alloc (Obj.cells #[sv, wv] 52)).alloc (Obj.cells #[Value.int IntKind.i64 i] 3)).alloc (Obj.cells #[Value.string { data := #[] }] 9)).alloc (Obj.cells #[Value.int IntKind.i64 0] 34)) :=
    ((((Below.refl _ _).alloc (Nat.le_refl _) _).alloc (by simp) _).alloc (by simp; omega) _).alloc (by simp; omega) _
  refine (hM.out _ hB4).mono ?_
  rintro e w1 ⟨rfl, hb⟩
  obtain ⟨hc, hf⟩ := bcells hb
  have hsz := hb.size
  simp at hsz
  go_wp2_with fail
  have hB5 := hB4.trans (hb.mono (by simp; omega))
  refine (hT.out _ hB5).mono ?_
  rintro e w2 ⟨rfl, hb2⟩
  obtain ⟨hc2, hf2⟩ := bcells hb2
  have hsz2 := hb2.size
  have hc2' : ∀ k, k < 4 → ∀ o, w2.cell? ⟨w.heap.size + k, o, none⟩ = w1.cell? ⟨w.heap.size + k, o, none⟩ := fun k hk o => hc2 _ _ (by omega)
  have hf2' : ∀ k, k < 4 → ∀ o, w2.frozen? ⟨w.heap.size + k, o, none⟩ = w1.frozen? ⟨w.heap.size + k, o, none⟩ := fun k hk o => hf2 _ _ (by omega)
  have g2 := hc2' 2 (by omega)
  have g3 := hc2' 3 (by omega)
  have f2 := hf2' 2 (by omega)
  have f3 := hf2' 3 (by omega)
  have e2 : w.heap.size + 2 = w.heap.size + 1 + 1 := rfl
  have e3 : w.heap.size + 3 = w.heap.size + 1 + 1 + 1 := rfl
  rw [e2] at g2 f2
  rw [e3] at g3 f3
  clear hc2' hf2' hc2 hf2 e2 e3
  go_wp2
  exact bodyPost_ret (v := .tuple #[.string ⟨#[]⟩, .int .i64 3]) (by simp [results, Try.f33, go_sem, hc, g2, g3]) rfl ⟨rfl, ((hB5.trans (hb2.mono hB5.size)).setCell (by simp; omega) _).setCell (by simp; omega) _⟩

theorem Puts.up {n m : Nat} {W : World} {sv : Value} {zs : List PutV} (hm : n ≤ m) : Puts n W sv zs → Puts m W sv zs
  | .inl e => .inl e
  | .inr ⟨b, off, cap, e, hb, hc⟩ => .inr ⟨b, off, cap, e, by omega, hc⟩
theorem cell_alloc_l' {W : World} {a : Addr} {v : Value} {o : Obj} (h : W.cell? a = some v) : (W.alloc o).cell? a = W.cell? a :=
  World.cell?_of_block (w := W) (Below.heap_alloc W o _ (World.block_lt_of_cell? W _ h))
/-- A block of cells stays. -/
theorem cells_own {X Y : World} {row : Option Nat} {B : Nat} {cs : Array Value} {t : Nat} {fz : Nat × Nat} (h : X.heap[B]? = some (.cells cs t fz)) (hg : X.grownBy Y row) (hr : ∀ r, row = some r → ∃ o : Obj, X.heap[r]? = some o ∧ o.isCells = false) : Y.heap[B]? = some (.cells cs t fz) := by
  refine (hg.block B (Array.getElem?_eq_some_iff.1 h).1 (fun e => ?_)).trans h
  obtain ⟨o, ho, hc⟩ := hr B e.symm
  rw [h] at ho; cases ho; cases hc

/-- What a tape's sector is: the text put last, or what is there. -/
def seeW (s : ByteArray) (i : Int) : List PutV → ByteArray
  | [] => s
  | p :: r => seeW (if p.1 = i then p.2 else s) i r

theorem seeW_append (i : Int) : ∀ (a b : List PutV) (s : ByteArray), seeW s i (a ++ b) = seeW (seeW s i a) i b
  | [], _, _ => rfl
  | p :: a, b, s => by simp only [List.cons_append, seeW]; exact seeW_append i a b _
theorem seeW_none {i : Int} : ∀ {a : List PutV} {s : ByteArray}, (∀ x ∈ a, x.1 ≠ i) → seeW s i a = s
  | [], _, _ => rfl
  | p :: a, s, h => by
    simp only [seeW, if_neg (h p (by simp))]
    exact seeW_none fun x hx => h x (by simp [hx])
theorem seeW_hit {s : ByteArray} {zs : List PutV} {i : Int} {k : Nat} (hk : k < zs.length) (h : ∀ j, j < k → (fromB zs j).2.1 ≠ i) (h2 : (fromB zs k).2.1 = i) : seeW s i zs = (fromB zs k).2.2 := by
  have hm : zs.length - 1 - k < zs.length := by omega
  have e : zs = zs.take (zs.length - 1 - k) ++ zs[zs.length - 1 - k] :: zs.drop (zs.length - 1 - k + 1) := by
    rw [List.getElem_cons_drop, List.take_append_drop]
  have h3 : (fromB zs k).2 = zs[zs.length - 1 - k] := by simp [fromB, hm]
  rw [h3] at h2 ⊢
  conv => lhs; rw [e]
  rw [seeW_append]
  simp only [seeW, if_pos h2]
  refine seeW_none fun x hx => ?_
  obtain ⟨j, hj, rfl⟩ := List.getElem_of_mem hx
  rw [List.length_drop] at hj
  have := h (k - 1 - j) (by omega)
  have e2 : zs.length - 1 - (k - 1 - j) = zs.length - 1 - k + 1 + j := by omega
  simp only [fromB, e2] at this
  rw [List.getElem?_eq_getElem (by omega)] at this
  simpa using this

set_option maxRecDepth 100000 in
set_option maxHeartbeats 4000000 in
theorem read_see (sb so sl sc : Nat) (wa : Option Addr) (wc : Nat) (wv : Value) (i : Nat) (hi : i < sl) (s0 : ByteArray) (zs : List PutV) (hreach : zs.length ≤ 4611686018427387904) (w : World)
    (hs0 : w.cell? ⟨sb, so + i, none⟩ = some (.string s0)) (hwv : wv = .slice wa zs.length wc) (hI : Puts w.heap.size w wv zs)
    (hMay : ∀ W, Below w.heap.size w W → Calls Try.prog 56 #[.agg #[.slice (some ⟨sb, so, none⟩) sl sc, wv]] W fun e W' => e = .returned (.bool true) ∧ Below W.heap.size W W')
    (hTh : ∀ W, Below w.heap.size w W → Calls Try.prog 61 #[.agg #[.slice (some ⟨sb, so, none⟩) sl sc, wv], .int .i64 i] W fun e W' => e = .returned (.bool true) ∧ Below W.heap.size W W') :
    Calls Try.prog 33 #[.agg #[.slice (some ⟨sb, so, none⟩) sl sc, wv], .int .i64 i] w (ReadPost (seeW s0 i zs) 0 w) := by
  have hM := Lib.hid hMay
  have hT := Lib.hid hTh
  clear hMay hTh
  refine (callsIn_wide (n := 4)).1 ?_
  refine callsIn_of_wp_marks Try.func33 rfl trivial ?_ rfl
  simp only [Try.ntmps33, List.size_toArray, List.length_cons, List.length_nil, Nat.reduceAdd, Nat.reduceSub, Array.replicate_succ, Array.replicate_zero, List.push_toArray, List.append_toArray, List.nil_append, List.cons_append]
  subst hwv
  gi_wp2_with fail
  have hB4 : Below w.heap.size w ((((w.alloc (Obj.cells #[.slice (some ⟨sb, so, none⟩) sl sc, .slice wa zs.length wc] 52)).alloc (Obj.cells #[Value.int IntKind.i64 i] 3)).alloc (Obj.cells #[Value.string { data := #[] }] 9)).alloc (Obj.cells #[Value.int IntKind.i64 0] 34)) :=
    ((((Below.refl _ _).alloc (Nat.le_refl _) _).alloc (by simp) _).alloc (by simp; omega) _).alloc (by simp; omega) _
  refine ⟨trivial, (callsIn_wide.2 (hM.out _ hB4)).mono ?_⟩
  rintro e w1 ⟨rfl, hb⟩
  have b1 := (((Boxed.new (w.alloc (Obj.cells #[.slice (some ⟨sb, so, none⟩) sl sc, .slice wa zs.length wc] 52)) 3 (Value.int IntKind.i64 i)).alloc (Obj.cells #[Value.string { data := #[] }] 9)).alloc (Obj.cells #[Value.int IntKind.i64 0] 34))
  have b2 := ((Boxed.new ((w.alloc (Obj.cells #[.slice (some ⟨sb, so, none⟩) sl sc, .slice wa zs.length wc] 52)).alloc (Obj.cells #[Value.int IntKind.i64 i] 3)) 9 (Value.string { data := #[] })).alloc (Obj.cells #[Value.int IntKind.i64 0] 34))
  have b3 := Boxed.new (((w.alloc (Obj.cells #[.slice (some ⟨sb, so, none⟩) sl sc, .slice wa zs.length wc] 52)).alloc (Obj.cells #[Value.int IntKind.i64 i] 3)).alloc (Obj.cells #[Value.string { data := #[] }] 9)) 34 (Value.int IntKind.i64 0)
  have b0 : ((((w.alloc (Obj.cells #[.slice (some ⟨sb, so, none⟩) sl sc, .slice wa zs.length wc] 52)).alloc (Obj.cells #[Value.int IntKind.i64 i] 3)).alloc (Obj.cells #[Value.string { data := #[] }] 9)).alloc (Obj.cells #[Value.int IntKind.i64 0] 34)).heap[w.heap.size]? = some (.cells #[.slice (some ⟨sb, so, none⟩) sl sc, .slice wa zs.length wc] 52 (0, 0)) := by
    rw [Below.heap_alloc _ _ _ (by simp; omega), Below.heap_alloc _ _ _ (by simp; omega), Below.heap_alloc _ _ _ (by simp)]
    exact heap_new _ _
  simp only [World.size_alloc] at b1 b2 b3
  have hsz4 : ((((w.alloc (Obj.cells #[.slice (some ⟨sb, so, none⟩) sl sc, .slice wa zs.length wc] 52)).alloc (Obj.cells #[Value.int IntKind.i64 i] 3)).alloc (Obj.cells #[Value.string { data := #[] }] 9)).alloc (Obj.cells #[Value.int IntKind.i64 0] 34)).heap.size = w.heap.size + 4 := by simp
  generalize ((((w.alloc (Obj.cells #[.slice (some ⟨sb, so, none⟩) sl sc, .slice wa zs.length wc] 52)).alloc (Obj.cells #[Value.int IntKind.i64 i] 3)).alloc (Obj.cells #[Value.string { data := #[] }] 9)).alloc (Obj.cells #[Value.int IntKind.i64 0] 34)) = W4 at *
  have hB5 := hB4.trans (hb.mono (by omega))
  have hsz5 := hb.size
  have c1 : Boxed w1 _ _ _ := (hb.block _ (by omega)).trans b1
  have c2 : Boxed w1 _ _ _ := (hb.block _ (by omega)).trans b2
  have c3 : Boxed w1 _ _ _ := (hb.block _ (by omega)).trans b3
  have c0 := (hb.block _ (by omega)).trans b0
  have k1 := c1.cell
  have k0 : w1.cell? ⟨w.heap.size, 0, none⟩ = some (.slice (some ⟨sb, so, none⟩) sl sc) := by simp [World.cell?, c0]
  have k0' : w1.cell? ⟨w.heap.size, 1, none⟩ = some (.slice wa zs.length wc) := by simp [World.cell?, c0]
  clear b0 b1 b2 b3
  gi_wp2_with fail
  refine ⟨trivial, (callsIn_wide.2 (hT.out _ hB5)).mono ?_⟩
  rintro e w2 ⟨rfl, hb2⟩
  have hB6 := hB5.trans (hb2.mono hB5.size)
  have hsz6 := hb2.size
  replace c1 : Boxed w2 _ _ _ := (hb2.block _ (by omega)).trans c1
  replace c2 : Boxed w2 _ _ _ := (hb2.block _ (by omega)).trans c2
  replace c3 : Boxed w2 _ _ _ := (hb2.block _ (by omega)).trans c3
  replace c0 := (hb2.block _ (by omega)).trans c0
  clear k0 k0' k1
  have k1 := c1.cell
  have k0 : w2.cell? ⟨w.heap.size, 0, none⟩ = some (.slice (some ⟨sb, so, none⟩) sl sc) := by simp [World.cell?, c0]
  have k0' : w2.cell? ⟨w.heap.size, 1, none⟩ = some (.slice wa zs.length wc) := by simp [World.cell?, c0]
  gi_wp2_with fail
  have bN := Boxed.new w2 50 (.slice wa zs.length wc)
  refine ⟨trivial, (back_in Fence.wide 3 trivial rfl _ _ _ _).mono ?_⟩
  rintro e w' ⟨rfl, rfl⟩
  have hB7 : Below w.heap.size w (w2.alloc (.cells #[.slice wa zs.length wc] 50)) := hB6.alloc hB6.size _
  replace c0 := (Below.heap_alloc w2 (.cells #[.slice wa zs.length wc] 50) _ (by omega)).trans c0
  replace c1 := c1.alloc (.cells #[.slice wa zs.length wc] 50)
  replace c2 := c2.alloc (.cells #[.slice wa zs.length wc] 50)
  replace c3 := c3.alloc (.cells #[.slice wa zs.length wc] 50)
  have hsz7 : (w2.alloc (.cells #[.slice wa zs.length wc] 50)).heap.size = w2.heap.size + 1 := by simp
  obtain ⟨B, hB⟩ : ∃ B, B = w2.heap.size := ⟨_, rfl⟩
  rw [← hB] at bN hsz7 ⊢
  have hBw : w.heap.size + 4 ≤ B := by omega
  generalize w2.alloc (.cells #[.slice wa zs.length wc] 50) = W0 at *
  clear hB hB6 hsz6 k0 k0' k1 hb2 hb hB5 hB4 hsz4 hsz5
  have HI := Lib.hid (hI.below hB7)
  have hs7 := (hB7.cell (p := ⟨sb, so + i, none⟩) (World.block_lt_of_cell? w _ hs0)).trans hs0
  have hsb := World.block_lt_of_cell? w _ hs0
  simp only at hsb
  gi_wp2
  refine wpIn_rangeFunc_ownH (F := Fence.wide) rfl (by omega) (gf := 95) (lb := #[.pointer (some ⟨B, 0, none⟩)]) rfl trivial (enters_of Try.func95 (by kernel_rfl) rfl)
    (back_stops Fence.wide 3 trivial rfl (by omega) B W0.heap.size _ zs hreach W0 (by omega) (Nat.le_refl _) bN.cell (HI.out.up hB7.size)) belowK_t (belowK_b (Nat.le_refl _)) (Below.refl _ _) (fun _ => rfl)
    (fun pre W => ((∀ x ∈ pre, x.2.1 ≠ (i : Int)) ∧ W.cell? ⟨w.heap.size, 0, none⟩ = some (.slice (some ⟨sb, so, none⟩) sl sc) ∧ Boxed W (w.heap.size + 1) 3 (.int .i64 i) ∧ Boxed W (w.heap.size + 1 + 1) 9 (.string ⟨#[]⟩) ∧ Boxed W (w.heap.size + 1 + 1 + 1) 34 (.int .i64 0)) ∧ (Below w.heap.size w W ∧ Below W0.heap.size W0 W))
    (fun c pre W => (c = .ret ∧ ∃ ini last, pre = ini ++ [last] ∧ (∀ x ∈ ini, x.2.1 ≠ (i : Int)) ∧ last.2.1 = (i : Int) ∧ W.cell? ⟨w.heap.size + 1 + 1, 0, none⟩ = some (.string last.2.2) ∧ W.cell? ⟨w.heap.size + 1 + 1 + 1, 0, none⟩ = some (.int .i64 0)) ∧ Below w.heap.size w W)
    (OwnFrom.and (Own.from (fun s X Y row hs hg hr => ⟨hs.1, cell_kept hs.2.1 hg hr, boxed_own _ _ (fun _ => _) s X Y row hs.2.2.1 hg hr, boxed_own _ _ (fun _ => _) s X Y row hs.2.2.2.1 hg hr, boxed_own _ _ (fun _ => _) s X Y row hs.2.2.2.2 hg hr⟩) _) (OwnFrom.and (ownFrom_below (Nat.le_refl _) (by omega)) (ownFrom_below (Nat.le_refl _) (Nat.le_refl _))))
    (fun c => OwnFrom.and (Own.from (fun s X Y row hs hg hr => by obtain ⟨hc, ini, last, e1, e2, e3, e4, e5⟩ := hs; exact ⟨hc, ini, last, e1, e2, e3, cell_kept e4 hg hr, cell_kept e5 hg hr⟩) _) (ownFrom_below (Nat.le_refl _) (by omega)))
    ⟨⟨by simp, by simp [World.cell?, c0], c1, c2, c3⟩, hB7, Below.refl _ _⟩
    (fun x a' W => ∃ Bx, B < Bx ∧ W.heap[Bx]? = some (.cells #[.int .i64 x.2.1, .string x.2.2] 64 (0, 0)) ∧ a' = { tmps := #[.agg #[.slice (some ⟨sb, so, none⟩) sl sc, .slice wa zs.length wc], .int .i64 i, .pointer (some ⟨w.heap.size, 0, none⟩), .pointer (some ⟨w.heap.size + 1, 0, none⟩), .pointer (some ⟨w.heap.size + 1 + 1, 0, none⟩), .pointer (some ⟨w.heap.size + 1 + 1 + 1, 0, none⟩), undef, .pointer (some ⟨Bx, 0, none⟩), .bool false, .agg #[.slice (some ⟨sb, so, none⟩) sl sc, .slice wa zs.length wc], .bool true, .bool false, .bool false, .agg #[.slice (some ⟨sb, so, none⟩) sl sc, .slice wa zs.length wc], .int .i64 i, .bool true, .bool false, .pointer (some ⟨w.heap.size, 1, none⟩), .slice wa zs.length wc, .func (.func 95) #[] #[.pointer (some ⟨B, 0, none⟩)], .int .i64 x.1, .agg #[.int .i64 x.2.1, .string x.2.2], undef, undef, undef, undef, undef, undef, undef, undef, undef, undef, undef], defers := [] })
    (fun x a' _ X Y row hs hg hr => by
      obtain ⟨Bx, h1, h2, h3⟩ := hs
      exact ⟨Bx, h1, cells_own h2 hg (fun r e => (hr r e).2), h3⟩)
    ?assign ?body ?done ?stop
  case assign =>
    rintro l pre x W K hIW hK
    gi_wp2
    obtain ⟨⟨i1, i2, i3, i4, i5⟩, i6, i7⟩ := hIW
    have hsW := i7.size
    exact hK _ _ ((KeepsOthers.alloc _ _).from _) ((Below.refl _ W).alloc hsW _) ⟨⟨i1, by rw [cell_alloc_l' i2]; exact i2, i3.alloc _, i4.alloc _, i5.alloc _⟩, i6.alloc i6.size _, i7.alloc hsW _⟩ ⟨W.heap.size, by omega, heap_new _ _, rfl⟩
  case body =>
    rintro l pre x a' W hl ⟨r, hr⟩ ⟨⟨i1, i2, i3, i4, i5⟩, i6, i7⟩ ⟨Bx, hBx, bX, rfl⟩ hlt
    have k3 := i3.cell
    have k4 := i4.cell
    have k5 := i5.cell
    have f4 := i4.frozen
    have f5 := i5.frozen
    have x0 : W.cell? ⟨Bx, 0, none⟩ = some (.int .i64 x.2.1) := by simp [World.cell?, bX]
    have x1 : W.cell? ⟨Bx, 1, none⟩ = some (.string x.2.2) := by simp [World.cell?, bX]
    gi_wp2
    · have hx : x.2.1 = (i : Int) := by have : (x.2.1 == (i : Int)) = true := by assumption
                                        simpa using this
      refine ⟨((KeepsOthers.setCell _ _ _).trans (KeepsOthers.setCell _ _ _)).from _, ⟨rfl, pre, x, rfl, i1, hx, ?_, ?_⟩, (i6.setCell (p := ⟨w.heap.size + 1 + 1, 0, none⟩) (by simp; omega) _).setCell (p := ⟨w.heap.size + 1 + 1 + 1, 0, none⟩) (by simp; omega) _⟩
      · exact ((i4.set _).other (by omega) _).cell
      · exact ((i5.other (by omega) _).set _).cell
    · have hx : x.2.1 ≠ (i : Int) := by have : (x.2.1 == (i : Int)) = false := by assumption
                                        simpa using this
      exact ⟨KeepsFrom.refl _ _, Below.refl _ _, ⟨fun p hp' => (List.mem_append.1 hp').elim (i1 p) (fun e => by simp at e; subst e; exact hx), i2, i3, i4, i5⟩, i6, i7⟩
  case done =>
    rintro D ys W hD rfl ⟨⟨i1, i2, i3, i4, i5⟩, i6, i7⟩ hK
    have k3 := i3.cell
    have k4 := i4.cell
    have k5 := i5.cell
    have f4 := i4.frozen
    have f5 := i5.frozen
    have s7 := (i6.cell (p := ⟨sb, so + i, none⟩) hsb).trans hs0
    gi_wp2
    have hK' := (((KeepsOthers.setCell W ⟨w.heap.size + 1 + 1, 0, none⟩ (.string s0)).trans (KeepsOthers.setCell _ ⟨w.heap.size + 1 + 1 + 1, 0, none⟩ (.int .i64 0)))).same D _ hK rfl
    refine ⟨by simp, .inl ⟨_, _, rfl, run_takeDeferred hK', ?_⟩⟩
    have g4 := cell_kept (((i4.set (.string s0)).other (show w.heap.size + 1 + 1 ≠ w.heap.size + 1 + 1 + 1 by omega) (.int .i64 0)).cell) (grownBy_putObj' _ D (.deferred none)) (fun r e => by cases e; exact ⟨_, hK', rfl⟩)
    have g5 := cell_kept (((i5.other (show w.heap.size + 1 + 1 + 1 ≠ w.heap.size + 1 + 1 by omega) (.string s0)).set (.int .i64 0)).cell) (grownBy_putObj' _ D (.deferred none)) (fun r e => by cases e; exact ⟨_, hK', rfl⟩)
    have hv : seeW s0 (i : Int) zs = s0 := seeW_none fun x hx => by
      obtain ⟨j, hj, rfl⟩ := List.getElem_of_mem hx
      have := i1 (fromB zs (zs.length - 1 - j)) (by simp only [bupto, List.mem_map, List.mem_range]; exact ⟨_, by omega, rfl⟩)
      have e2 : zs.length - 1 - (zs.length - 1 - j) = j := by omega
      simp only [fromB, e2] at this
      rw [List.getElem?_eq_getElem hj] at this
      simpa using this
    refine ⟨.tuple #[.string (seeW s0 i zs), .int .i64 0], ?_, rfl, ((i6.setCell (p := ⟨w.heap.size + 1 + 1, 0, none⟩) (by simp; omega) _).setCell (p := ⟨w.heap.size + 1 + 1 + 1, 0, none⟩) (by simp; omega) _).trans (belowK_b (w := w) (Nat.le_refl _) _ D _ _ (by omega) hK' rfl rfl)⟩
    rw [hv]
    simp [results, Try.f33, go_sem, g4, g5]
  case stop =>
    rintro D c pre W hD ⟨k, hk, rfl⟩ ⟨⟨rfl, ini, last, e1, e2, e3, e4, e5⟩, hB⟩ hK
    gi_wp2
    refine ⟨by simp, .inl ⟨_, _, rfl, run_takeDeferred hK, ?_⟩⟩
    have g4 := cell_kept e4 (grownBy_putObj' _ D (.deferred none)) (fun r e => by cases e; exact ⟨_, hK, rfl⟩)
    have g5 := cell_kept e5 (grownBy_putObj' _ D (.deferred none)) (fun r e => by cases e; exact ⟨_, hK, rfl⟩)
    obtain ⟨k', rfl⟩ : ∃ k', k = k' + 1 := by
      cases k with
      | zero => simp [bupto] at e1
      | succ k' => exact ⟨k', rfl⟩
    rw [bupto_succ] at e1
    obtain ⟨rfl, e6⟩ := List.append_inj' e1 rfl
    obtain rfl : fromB zs k' = last := by simpa using e6
    have hv := seeW_hit (s := s0) (zs := zs) (i := (i : Int)) (k := k') (by omega) (fun j hj => e2 _ (by simp only [bupto, List.mem_map, List.mem_range]; exact ⟨j, hj, rfl⟩)) e3
    refine ⟨.tuple #[.string (seeW s0 i zs), .int .i64 0], ?_, rfl, hB.trans (belowK_b (w := w) (Nat.le_refl _) W D _ _ (by omega) hK rfl rfl)⟩
    rw [hv]
    simp [results, Try.f33, go_sem, g4, g5]
end Go.Mir.Try

-- 56 61 88 89 91 92 107 90 108
set_option maxRecDepth 100000
namespace Go.Mir.Try.Z
open Go.Proofs
def g56 : VG := [(1, [3, 4, 8, 9, 14, 15, 19, 20, 24, 25, 26]), (3, [4]), (8, [9]), (14, [15]), (19, [20]), (24, [25])]
def a56 : FAnn := { pm := [.ro], rt := g56.un, regs := [(0, { keep := some [1] }), (1, { keep := some [1, 18] }), (2, { keep := some [2] }), (3, { md := [(2, .cp), (8, .cp)], keep := some [2] })] }
def g61 : VG := [(2, [9, 10]), (9, [10])]
def a61 : FAnn := { pm := [.ro, .ro], rt := g61.un, regs := [(0, { keep := some [1, 2] }), (1, { keep := some [4] })] }
def g88 : VG := [(0, [5]), (1, [6])]
def a88 : FAnn := { pm := [.ro, .ro], rt := g88.un, regs := [(0, { keep := some [0, 1] }), (1, { md := [(2, .cp)], keep := some [4] })] }
def g89 : VG := []
def a89 : FAnn := { pm := [.ro], rt := g89.un, regs := [(0, { keep := some [0] }), (1, { md := [(1, .cp)], keep := some [2] })] }
def g91 : VG := [(0, [5]), (1, [6])]
def a91 : FAnn := { pm := [.ro, .ro], rt := g91.un, regs := [(0, { keep := some [0, 1] }), (1, { md := [(2, .cp)], keep := some [4] })] }
def g92 : VG := [(1, [4]), (2, [5, 10])]
def a92 : FAnn := { pm := [.ro, .ro], rt := g92.un, regs := [(0, { keep := some [1, 2] }), (1, { md := [(3, .cp), (8, .cp)], keep := some [3] })] }
def g107 : VG := [(0, [6, 12, 14]), (1, [11]), (12, [14])]
def a107 : FAnn := { pm := [.ro, .ro], rt := g107.un, regs := [(0, { keep := some [0, 1] }), (1, { keep := some [0, 1, 7, 8] }), (2, { keep := some [0, 1, 7, 8, 9] }), (3, { keep := some [0, 1, 5, 7, 8] }), (4, { keep := some [0, 1, 5, 7, 8, 16] }), (5, { keep := some [4] }), (6, { keep := some [0, 1, 7, 8] }), (7, { keep := some [4] })] }
def g90 : VG := []
def a90 : FAnn := { pm := [.ro], rt := g90.un, regs := [(0, { keep := some [0] }), (1, { keep := some [2] })] }
def g108 : VG := [(0, [6, 12, 14, 15]), (1, [11]), (12, [14, 15]), (14, [15])]
def a108 : FAnn := { pm := [.ro, .ro], rt := g108.un, regs := [(0, { keep := some [0, 1] }), (1, { keep := some [0, 1, 7, 8] }), (2, { keep := some [0, 1, 7, 8, 9] }), (3, { keep := some [0, 1, 5, 7, 8] }), (4, { keep := some [0, 1, 5, 7, 8, 16] }), (5, { keep := some [4] }), (6, { keep := some [0, 1, 7, 8] }), (7, { keep := some [4] })] }

def b56 : IC := .seq (.reg [⟨some 1, none, .box (.tmp 0)⟩, ⟨some 2, none, .mov .tk (.con (.bool false))⟩] (some [1])) (.seq (.seq (.reg [⟨some 3, none, .fieldA 0 (.tmp 1)⟩, ⟨some 4, none, .load .cp false 1 (.tmp 3)⟩, ⟨some 5, none, .len false (.tmp 4)⟩, ⟨some 6, none, .bin none .lss (.tmp 5) (.con (.int .i64 1))⟩, ⟨some 7, none, .mov .cp (.tmp 6)⟩, ⟨some 8, some (7, false), .fieldA 0 (.tmp 1)⟩, ⟨some 9, some (7, false), .load .cp false 1 (.tmp 8)⟩, ⟨some 10, some (7, false), .len false (.tmp 9)⟩, ⟨some 11, some (7, false), .bin none .gtr (.tmp 10) (.con (.int .i64 512))⟩, ⟨some 12, none, .pick (.tmp 7) (.con (.bool true)) (.tmp 11)⟩, ⟨some 13, none, .mov .cp (.tmp 12)⟩, ⟨some 14, some (13, false), .fieldA 1 (.tmp 1)⟩, ⟨some 15, some (13, false), .load .cp false 1 (.tmp 14)⟩, ⟨some 16, some (13, false), .len false (.tmp 15)⟩, ⟨some 17, some (13, false), .bin none .gtr (.tmp 16) (.con (.int .i64 2048))⟩, ⟨some 18, none, .pick (.tmp 13) (.con (.bool true)) (.tmp 17)⟩] (some [1, 18])) (.cond (.tmp 18) (.seq (.reg [⟨some 2, none, .mov .tk (.con (.bool false))⟩] (some [2])) .ret) .skip)) (.seq (.reg [⟨some 19, none, .fieldA 0 (.tmp 1)⟩, ⟨some 20, none, .load .cp false 1 (.tmp 19)⟩, ⟨some 21, none, .callr 88 [.tmp 20, .fn 89]⟩, ⟨some 22, none, .un .not (.tmp 21)⟩, ⟨some 23, none, .mov .cp (.tmp 22)⟩, ⟨some 24, some (23, true), .fieldA 1 (.tmp 1)⟩, ⟨some 25, some (23, true), .load .cp false 1 (.tmp 24)⟩, ⟨some 26, some (23, true), .mkfn 92 [.tmp 1]⟩, ⟨some 27, some (23, true), .callr 91 [.tmp 25, .tmp 26]⟩, ⟨some 28, some (23, true), .un .not (.tmp 27)⟩, ⟨some 29, none, .pick (.tmp 23) (.tmp 28) (.con (.bool false))⟩, ⟨some 2, none, .mov .tk (.tmp 29)⟩] (some [2])) .ret))
def pf56 : PFunc := ⟨1, [.ro], g56.un, [.tmp 2], b56⟩
theorem pe56 : prepF Go.Proofs.Try.prog a56 Go.Proofs.Try.f56 = some pf56 := by kernel_rfl
def b61 : IC := .seq (.reg [⟨some 2, none, .box (.tmp 0)⟩, ⟨some 4, none, .mov .tk (.con (.bool false))⟩] (some [1, 2])) (.seq (.reg [⟨some 5, none, .mov .cp (.tmp 1)⟩, ⟨some 6, none, .bin none .geq (.tmp 5) (.con (.int .i64 0))⟩, ⟨some 7, none, .mov .cp (.tmp 6)⟩, ⟨some 8, some (7, true), .mov .cp (.tmp 1)⟩, ⟨some 9, some (7, true), .fieldA 0 (.tmp 2)⟩, ⟨some 10, some (7, true), .load .cp false 1 (.tmp 9)⟩, ⟨some 11, some (7, true), .len false (.tmp 10)⟩, ⟨some 12, some (7, true), .bin none .lss (.tmp 8) (.tmp 11)⟩, ⟨some 13, none, .pick (.tmp 7) (.tmp 12) (.con (.bool false))⟩, ⟨some 4, none, .mov .tk (.tmp 13)⟩] (some [4])) .ret)
def pf61 : PFunc := ⟨2, [.ro, .ro], g61.un, [.tmp 4], b61⟩
theorem pe61 : prepF Go.Proofs.Try.prog a61 Go.Proofs.Try.f61 = some pf61 := by kernel_rfl
def b88 : IC := .seq (.reg [⟨some 4, none, .mov .tk (.con (.bool false))⟩] (some [0, 1])) (.seq (.reg [⟨some 5, none, .mov .cp (.tmp 0)⟩, ⟨some 6, none, .mov .cp (.tmp 1)⟩, ⟨some 7, none, .callr 107 [.tmp 5, .tmp 6]⟩, ⟨some 8, none, .bin none .geq (.tmp 7) (.con (.int .i64 0))⟩, ⟨some 4, none, .mov .tk (.tmp 8)⟩] (some [4])) .ret)
def pf88 : PFunc := ⟨2, [.ro, .ro], g88.un, [.tmp 4], b88⟩
theorem pe88 : prepF Go.Proofs.Try.prog a88 Go.Proofs.Try.f88 = some pf88 := by kernel_rfl
def b89 : IC := .seq (.reg [⟨some 2, none, .mov .tk (.con (.bool false))⟩] (some [0])) (.seq (.reg [⟨some 3, none, .mov .cp (.tmp 0)⟩, ⟨some 4, none, .callr 90 [.tmp 3]⟩, ⟨some 5, none, .un .not (.tmp 4)⟩, ⟨some 2, none, .mov .tk (.tmp 5)⟩] (some [2])) .ret)
def pf89 : PFunc := ⟨1, [.ro], g89.un, [.tmp 2], b89⟩
theorem pe89 : prepF Go.Proofs.Try.prog a89 Go.Proofs.Try.f89 = some pf89 := by kernel_rfl
def b91 : IC := .seq (.reg [⟨some 4, none, .mov .tk (.con (.bool false))⟩] (some [0, 1])) (.seq (.reg [⟨some 5, none, .mov .cp (.tmp 0)⟩, ⟨some 6, none, .mov .cp (.tmp 1)⟩, ⟨some 7, none, .callr 108 [.tmp 5, .tmp 6]⟩, ⟨some 8, none, .bin none .geq (.tmp 7) (.con (.int .i64 0))⟩, ⟨some 4, none, .mov .tk (.tmp 8)⟩] (some [4])) .ret)
def pf91 : PFunc := ⟨2, [.ro, .ro], g91.un, [.tmp 4], b91⟩
theorem pe91 : prepF Go.Proofs.Try.prog a91 Go.Proofs.Try.f91 = some pf91 := by kernel_rfl
def b92 : IC := .seq (.reg [⟨some 2, none, .box (.tmp 0)⟩, ⟨some 3, none, .mov .tk (.con (.bool false))⟩] (some [1, 2])) (.seq (.reg [⟨some 4, none, .load .cp true 2 (.tmp 1)⟩, ⟨some 5, none, .fieldA 0 (.tmp 2)⟩, ⟨some 6, none, .load .cp false 1 (.tmp 5)⟩, ⟨some 7, none, .callr 61 [.tmp 4, .tmp 6]⟩, ⟨some 8, none, .un .not (.tmp 7)⟩, ⟨some 9, none, .mov .cp (.tmp 8)⟩, ⟨some 10, some (9, false), .fieldA 1 (.tmp 2)⟩, ⟨some 11, some (9, false), .load .cp false 1 (.tmp 10)⟩, ⟨some 12, some (9, false), .callr 90 [.tmp 11]⟩, ⟨some 13, some (9, false), .un .not (.tmp 12)⟩, ⟨some 14, none, .pick (.tmp 9) (.con (.bool true)) (.tmp 13)⟩, ⟨some 3, none, .mov .tk (.tmp 14)⟩] (some [3])) .ret)
def pf92 : PFunc := ⟨2, [.ro, .ro], g92.un, [.tmp 3], b92⟩
theorem pe92 : prepF Go.Proofs.Try.prog a92 Go.Proofs.Try.f92 = some pf92 := by kernel_rfl
def b107 : IC := .seq (.reg [⟨some 4, none, .mov .tk (.con (.int .i64 0))⟩] (some [0, 1])) (.seq (.seq (.reg [⟨some 6, none, .mov .cp (.tmp 0)⟩, ⟨some 7, none, .len false (.tmp 6)⟩, ⟨some 8, none, .mov .cp (.con (.int .i64 0))⟩] (some [0, 1, 7, 8])) (.block 0 (.loop (.seq (.reg [⟨some 9, none, .bin none .lss (.tmp 8) (.tmp 7)⟩] (some [0, 1, 7, 8, 9])) (.seq (.cond (.tmp 9) .skip (.exit 0)) (.seq (.block 1 (.seq (.reg [⟨some 10, none, .mov .cp (.tmp 8)⟩, ⟨some 5, none, .mov .tk (.tmp 10)⟩] (some [0, 1, 5, 7, 8])) (.seq (.reg [⟨some 11, none, .mov .cp (.tmp 1)⟩, ⟨some 12, none, .mov .cp (.tmp 0)⟩, ⟨some 13, none, .mov .cp (.tmp 5)⟩, ⟨some 14, none, .indexA 1 (.tmp 12) (.tmp 13)⟩, ⟨some 15, none, .load .cp false 1 (.tmp 14)⟩, ⟨some 16, none, .callv (.tmp 11) [.tmp 15]⟩] (some [0, 1, 5, 7, 8, 16])) (.cond (.tmp 16) (.seq (.reg [⟨some 17, none, .mov .cp (.tmp 5)⟩, ⟨some 4, none, .mov .tk (.tmp 17)⟩] (some [4])) .ret) .skip)))) (.reg [⟨some 18, none, .bin none .add (.tmp 8) (.con (.int .i64 1))⟩, ⟨some 8, none, .mov .cp (.tmp 18)⟩] (some [0, 1, 7, 8])))))))) (.seq (.reg [⟨some 4, none, .mov .tk (.con (.int .i64 (-1)))⟩] (some [4])) .ret))
def pf107 : PFunc := ⟨2, [.ro, .ro], g107.un, [.tmp 4], b107⟩
theorem pe107 : prepF Go.Proofs.Try.prog a107 Go.Proofs.Try.f107 = some pf107 := by kernel_rfl
def b90 : IC := .seq (.reg [⟨some 2, none, .mov .tk (.con (.bool false))⟩] (some [0])) (.seq (.reg [⟨some 3, none, .mov .cp (.tmp 0)⟩, ⟨some 4, none, .len true (.tmp 3)⟩, ⟨some 5, none, .bin none .eql (.tmp 4) (.con (.int .i64 32))⟩, ⟨some 2, none, .mov .tk (.tmp 5)⟩] (some [2])) .ret)
def pf90 : PFunc := ⟨1, [.ro], g90.un, [.tmp 2], b90⟩
theorem pe90 : prepF Go.Proofs.Try.prog a90 Go.Proofs.Try.f90 = some pf90 := by kernel_rfl
def b108 : IC := .seq (.reg [⟨some 4, none, .mov .tk (.con (.int .i64 0))⟩] (some [0, 1])) (.seq (.seq (.reg [⟨some 6, none, .mov .cp (.tmp 0)⟩, ⟨some 7, none, .len false (.tmp 6)⟩, ⟨some 8, none, .mov .cp (.con (.int .i64 0))⟩] (some [0, 1, 7, 8])) (.block 0 (.loop (.seq (.reg [⟨some 9, none, .bin none .lss (.tmp 8) (.tmp 7)⟩] (some [0, 1, 7, 8, 9])) (.seq (.cond (.tmp 9) .skip (.exit 0)) (.seq (.block 1 (.seq (.reg [⟨some 10, none, .mov .cp (.tmp 8)⟩, ⟨some 5, none, .mov .tk (.tmp 10)⟩] (some [0, 1, 5, 7, 8])) (.seq (.reg [⟨some 11, none, .mov .cp (.tmp 1)⟩, ⟨some 12, none, .mov .cp (.tmp 0)⟩, ⟨some 13, none, .mov .cp (.tmp 5)⟩, ⟨some 14, none, .indexA 2 (.tmp 12) (.tmp 13)⟩, ⟨some 15, none, .load .cp true 2 (.tmp 14)⟩, ⟨some 16, none, .callv (.tmp 11) [.tmp 15]⟩] (some [0, 1, 5, 7, 8, 16])) (.cond (.tmp 16) (.seq (.reg [⟨some 17, none, .mov .cp (.tmp 5)⟩, ⟨some 4, none, .mov .tk (.tmp 17)⟩] (some [4])) .ret) .skip)))) (.reg [⟨some 18, none, .bin none .add (.tmp 8) (.con (.int .i64 1))⟩, ⟨some 8, none, .mov .cp (.tmp 18)⟩] (some [0, 1, 7, 8])))))))) (.seq (.reg [⟨some 4, none, .mov .tk (.con (.int .i64 (-1)))⟩] (some [4])) .ret))
def pf108 : PFunc := ⟨2, [.ro, .ro], g108.un, [.tmp 4], b108⟩
theorem pe108 : prepF Go.Proofs.Try.prog a108 Go.Proofs.Try.f108 = some pf108 := by kernel_rfl
def tab : List (Nat × PFunc) := [(56, pf56), (61, pf61), (88, pf88), (89, pf89), (91, pf91), (92, pf92), (107, pf107), (90, pf90), (108, pf108)]
def gv : FuncId → Option (List PM × (List T → Option Res)) := fun f => none
def G : Prog := { fn := fun f => tab.lookup f, given := gv }
theorem Gpm : G.pm 56 = [.ro] ∧ G.pm 61 = [.ro, .ro] ∧ G.pm 88 = [.ro, .ro] ∧ G.pm 89 = [.ro] ∧ G.pm 91 = [.ro, .ro] ∧ G.pm 92 = [.ro, .ro] ∧ G.pm 107 = [.ro, .ro] ∧ G.pm 90 = [.ro] ∧ G.pm 108 = [.ro, .ro] := by refine ⟨rfl, rfl, rfl, rfl, rfl, rfl, rfl, rfl, rfl⟩
attribute [push_cast] Gpm
theorem soundG : Sound Try.prog G :=
  ⟨(sound_tab (P := Try.prog) (l := tab) (⟨⟨_, a56, Try.func56, pe56⟩, ⟨⟨_, a61, Try.func61, pe61⟩, ⟨⟨_, a88, Try.func88, pe88⟩, ⟨⟨_, a89, Try.func89, pe89⟩, ⟨⟨_, a91, Try.func91, pe91⟩, ⟨⟨_, a92, Try.func92, pe92⟩, ⟨⟨_, a107, Try.func107, pe107⟩, ⟨⟨_, a90, Try.func90, pe90⟩, ⟨⟨_, a108, Try.func108, pe108⟩, trivial⟩⟩⟩⟩⟩⟩⟩⟩⟩)).fns, fun f g hg args r h => by
    simp only [G, gv] at hg
    cases hg⟩

end Go.Mir.Try.Z

/- Walks: may a tape be? -/
set_option linter.unusedVariables false
set_option linter.unusedSimpArgs false
set_option maxRecDepth 100000
namespace Go.Mir.Try.Z
open Go.Proofs Go.Mir.Q

theorem f107 {l : List (List UInt8)} {f : FuncId} {caps : List T} {p : (List UInt8) → Bool} (hl : l.length ≤ 1000000000) (hpm : G.pm f = [.ro] ∨ G.pm f = [.ro, .ro] ∨ G.pm f = [.ro, .ro, .ro] ∨ G.pm f = [.ro, .ro, .ro, .ro]) (hcap : capsData caps = true) (hf : ∀ w ∈ l, Fun G f (.str (bs w) :: caps) (.bool (p w), [])) :
    Fun G 107 [.one (.d (.sl (l.map eS))), .fn f caps] (.int .i64 (idx p l), []) := by
  refine Fun.of_run (g := g107) (pf := pf107) rfl rfl rfl rfl ?_
  have hcap2 := capsRo_data (caps := caps) hcap
  have hcap3 := rootsL_data (caps := caps) hcap
  simp (maxSteps := 1000000) (disch := first | assumption | ((try simp only [LEN, LEN2]); omega)) only [push_cast, Int.reduceToNat, Int.reduceEq, Int.reduceNe, Int.reduceLT, Int.reduceLE, Int.reduceAdd, Int.reduceSub, Int.reduceMul, Int.reduceNeg, Nat.reduceEqDiff, Nat.reduceBEq, Nat.reduceBNe, Nat.reduceAdd, Nat.reduceLeDiff, Nat.reduceLT, Nat.reduceMul, ↓reduceIte, reduceCtorEq, g107, pf107, b107, hcap2, hcap3, List.all_nil]
  refine run_loop' (fun i : Nat => [(0, T.one (.d (.sl (l.map eS)))), (1, T.fn f caps), (7, T.int .i64 l.length), (8, T.int .i64 i)]) (fun i => i ≤ l.length ∧ ∀ x ∈ l.take i, p x = false) (fun i => l.length - i) 0 rfl ⟨Nat.zero_le _, by simp⟩ (fun i hi => ?_)
  obtain ⟨hi, ht⟩ := hi
  simp (maxSteps := 1000000) (disch := first | assumption | ((try simp only [LEN, LEN2]); omega)) only [push_cast, Int.reduceToNat, Int.reduceEq, Int.reduceNe, Int.reduceLT, Int.reduceLE, Int.reduceAdd, Int.reduceSub, Int.reduceMul, Int.reduceNeg, Nat.reduceEqDiff, Nat.reduceBEq, Nat.reduceBNe, Nat.reduceAdd, Nat.reduceLeDiff, Nat.reduceLT, Nat.reduceMul, ↓reduceIte, reduceCtorEq, g107, pf107, b107, hcap2, hcap3, List.all_nil]
  refine If.dec (fun h => ?_) (fun h => ?_)
  · replace h : i < l.length := by omega
    have h2 := hf l[i] (List.getElem_mem h)
    skip
    by_cases hp : p l[i] = true
    · rcases hpm with hpm | hpm | hpm | hpm <;> simp (maxSteps := 1000000) (disch := first | assumption | ((try simp only [LEN, LEN2]); omega)) only [push_cast, Int.reduceToNat, Int.reduceEq, Int.reduceNe, Int.reduceLT, Int.reduceLE, Int.reduceAdd, Int.reduceSub, Int.reduceMul, Int.reduceNeg, Nat.reduceEqDiff, Nat.reduceBEq, Nat.reduceBNe, Nat.reduceAdd, Nat.reduceLeDiff, Nat.reduceLT, Nat.reduceMul, ↓reduceIte, reduceCtorEq, g107, pf107, b107, hcap2, hcap3, List.all_nil, hpm, eS, callT_eq h2, hp] <;> rw [idx_some h ht hp]
    · rw [Bool.not_eq_true] at hp
      rcases hpm with hpm | hpm | hpm | hpm <;> simp (maxSteps := 1000000) (disch := first | assumption | ((try simp only [LEN, LEN2]); omega)) only [push_cast, Int.reduceToNat, Int.reduceEq, Int.reduceNe, Int.reduceLT, Int.reduceLE, Int.reduceAdd, Int.reduceSub, Int.reduceMul, Int.reduceNeg, Nat.reduceEqDiff, Nat.reduceBEq, Nat.reduceBNe, Nat.reduceAdd, Nat.reduceLeDiff, Nat.reduceLT, Nat.reduceMul, ↓reduceIte, reduceCtorEq, g107, pf107, b107, hcap2, hcap3, List.all_nil, hpm, eS, callT_eq h2, hp]
      all_goals
        refine ⟨i + 1, rfl, ⟨by omega, fun x hx => ?_⟩, by omega⟩
        rw [List.take_succ_eq_append_getElem h, List.mem_append, List.mem_singleton] at hx
        rcases hx with hx | rfl
        · exact ht x hx
        · exact hp
  · obtain rfl : i = l.length := by omega
    simp (maxSteps := 1000000) (disch := first | assumption | ((try simp only [LEN, LEN2]); omega)) only [push_cast, Int.reduceToNat, Int.reduceEq, Int.reduceNe, Int.reduceLT, Int.reduceLE, Int.reduceAdd, Int.reduceSub, Int.reduceMul, Int.reduceNeg, Nat.reduceEqDiff, Nat.reduceBEq, Nat.reduceBNe, Nat.reduceAdd, Nat.reduceLeDiff, Nat.reduceLT, Nat.reduceMul, ↓reduceIte, reduceCtorEq, g107, pf107, b107, hcap2, hcap3, List.all_nil]
    rw [idx_none (fun x hx => ht x (by rw [List.take_length]; exact hx))]
theorem f88 {l : List (List UInt8)} {f : FuncId} {caps : List T} {p : (List UInt8) → Bool} (hl : l.length ≤ 1000000000) (hpm : G.pm f = [.ro] ∨ G.pm f = [.ro, .ro] ∨ G.pm f = [.ro, .ro, .ro] ∨ G.pm f = [.ro, .ro, .ro, .ro]) (hcap : capsData caps = true) (hf : ∀ w ∈ l, Fun G f (.str (bs w) :: caps) (.bool (p w), [])) :
    Fun G 88 [.one (.d (.sl (l.map eS))), .fn f caps] (.bool (l.any p), []) := by
  refine Fun.of_run (g := g88) (pf := pf88) rfl rfl rfl rfl ?_
  have hcap2 := capsRo_data (caps := caps) hcap
  have hcap3 := rootsL_data (caps := caps) hcap
  simp (maxSteps := 1000000) (disch := first | assumption | ((try simp only [LEN, LEN2]); omega)) only [push_cast, Int.reduceToNat, Int.reduceEq, Int.reduceNe, Int.reduceLT, Int.reduceLE, Int.reduceAdd, Int.reduceSub, Int.reduceMul, Int.reduceNeg, Nat.reduceEqDiff, Nat.reduceBEq, Nat.reduceBNe, Nat.reduceAdd, Nat.reduceLeDiff, Nat.reduceLT, Nat.reduceMul, ↓reduceIte, reduceCtorEq, g88, pf88, b88, hcap2, hcap3, List.all_nil, callC_eq (f107 hl hpm hcap hf)]
  rw [← idx_nonneg]
theorem f108 {l : List (Put)} {f : FuncId} {caps : List T} {p : (Put) → Bool} (hl : l.length ≤ 1000000000) (hpm : G.pm f = [.ro] ∨ G.pm f = [.ro, .ro] ∨ G.pm f = [.ro, .ro, .ro] ∨ G.pm f = [.ro, .ro, .ro, .ro]) (hcap : capsData caps = true) (hf : ∀ w ∈ l, Fun G f (.vs true (oP w) :: caps) (.bool (p w), [])) :
    Fun G 108 [.one (.d (.sl (l.map eP))), .fn f caps] (.int .i64 (idx p l), []) := by
  refine Fun.of_run (g := g108) (pf := pf108) rfl rfl rfl rfl ?_
  have hcap2 := capsRo_data (caps := caps) hcap
  have hcap3 := rootsL_data (caps := caps) hcap
  simp (maxSteps := 1000000) (disch := first | assumption | ((try simp only [LEN, LEN2]); omega)) only [push_cast, Int.reduceToNat, Int.reduceEq, Int.reduceNe, Int.reduceLT, Int.reduceLE, Int.reduceAdd, Int.reduceSub, Int.reduceMul, Int.reduceNeg, Nat.reduceEqDiff, Nat.reduceBEq, Nat.reduceBNe, Nat.reduceAdd, Nat.reduceLeDiff, Nat.reduceLT, Nat.reduceMul, ↓reduceIte, reduceCtorEq, g108, pf108, b108, hcap2, hcap3, List.all_nil]
  refine run_loop' (fun i : Nat => [(0, T.one (.d (.sl (l.map eP)))), (1, T.fn f caps), (7, T.int .i64 l.length), (8, T.int .i64 i)]) (fun i => i ≤ l.length ∧ ∀ x ∈ l.take i, p x = false) (fun i => l.length - i) 0 rfl ⟨Nat.zero_le _, by simp⟩ (fun i hi => ?_)
  obtain ⟨hi, ht⟩ := hi
  simp (maxSteps := 1000000) (disch := first | assumption | ((try simp only [LEN, LEN2]); omega)) only [push_cast, Int.reduceToNat, Int.reduceEq, Int.reduceNe, Int.reduceLT, Int.reduceLE, Int.reduceAdd, Int.reduceSub, Int.reduceMul, Int.reduceNeg, Nat.reduceEqDiff, Nat.reduceBEq, Nat.reduceBNe, Nat.reduceAdd, Nat.reduceLeDiff, Nat.reduceLT, Nat.reduceMul, ↓reduceIte, reduceCtorEq, g108, pf108, b108, hcap2, hcap3, List.all_nil]
  refine If.dec (fun h => ?_) (fun h => ?_)
  · replace h : i < l.length := by omega
    have h2 := hf l[i] (List.getElem_mem h)
    try simp only [oP] at h2
    by_cases hp : p l[i] = true
    · rcases hpm with hpm | hpm | hpm | hpm <;> simp (maxSteps := 1000000) (disch := first | assumption | ((try simp only [LEN, LEN2]); omega)) only [push_cast, Int.reduceToNat, Int.reduceEq, Int.reduceNe, Int.reduceLT, Int.reduceLE, Int.reduceAdd, Int.reduceSub, Int.reduceMul, Int.reduceNeg, Nat.reduceEqDiff, Nat.reduceBEq, Nat.reduceBNe, Nat.reduceAdd, Nat.reduceLeDiff, Nat.reduceLT, Nat.reduceMul, ↓reduceIte, reduceCtorEq, g108, pf108, b108, hcap2, hcap3, List.all_nil, hpm, eP, callT_eq h2, hp] <;> rw [idx_some h ht hp]
    · rw [Bool.not_eq_true] at hp
      rcases hpm with hpm | hpm | hpm | hpm <;> simp (maxSteps := 1000000) (disch := first | assumption | ((try simp only [LEN, LEN2]); omega)) only [push_cast, Int.reduceToNat, Int.reduceEq, Int.reduceNe, Int.reduceLT, Int.reduceLE, Int.reduceAdd, Int.reduceSub, Int.reduceMul, Int.reduceNeg, Nat.reduceEqDiff, Nat.reduceBEq, Nat.reduceBNe, Nat.reduceAdd, Nat.reduceLeDiff, Nat.reduceLT, Nat.reduceMul, ↓reduceIte, reduceCtorEq, g108, pf108, b108, hcap2, hcap3, List.all_nil, hpm, eP, callT_eq h2, hp]
      all_goals
        refine ⟨i + 1, rfl, ⟨by omega, fun x hx => ?_⟩, by omega⟩
        rw [List.take_succ_eq_append_getElem h, List.mem_append, List.mem_singleton] at hx
        rcases hx with hx | rfl
        · exact ht x hx
        · exact hp
  · obtain rfl : i = l.length := by omega
    simp (maxSteps := 1000000) (disch := first | assumption | ((try simp only [LEN, LEN2]); omega)) only [push_cast, Int.reduceToNat, Int.reduceEq, Int.reduceNe, Int.reduceLT, Int.reduceLE, Int.reduceAdd, Int.reduceSub, Int.reduceMul, Int.reduceNeg, Nat.reduceEqDiff, Nat.reduceBEq, Nat.reduceBNe, Nat.reduceAdd, Nat.reduceLeDiff, Nat.reduceLT, Nat.reduceMul, ↓reduceIte, reduceCtorEq, g108, pf108, b108, hcap2, hcap3, List.all_nil]
    rw [idx_none (fun x hx => ht x (by rw [List.take_length]; exact hx))]
theorem f91 {l : List (Put)} {f : FuncId} {caps : List T} {p : (Put) → Bool} (hl : l.length ≤ 1000000000) (hpm : G.pm f = [.ro] ∨ G.pm f = [.ro, .ro] ∨ G.pm f = [.ro, .ro, .ro] ∨ G.pm f = [.ro, .ro, .ro, .ro]) (hcap : capsData caps = true) (hf : ∀ w ∈ l, Fun G f (.vs true (oP w) :: caps) (.bool (p w), [])) :
    Fun G 91 [.one (.d (.sl (l.map eP))), .fn f caps] (.bool (l.any p), []) := by
  refine Fun.of_run (g := g91) (pf := pf91) rfl rfl rfl rfl ?_
  have hcap2 := capsRo_data (caps := caps) hcap
  have hcap3 := rootsL_data (caps := caps) hcap
  simp (maxSteps := 1000000) (disch := first | assumption | ((try simp only [LEN, LEN2]); omega)) only [push_cast, Int.reduceToNat, Int.reduceEq, Int.reduceNe, Int.reduceLT, Int.reduceLE, Int.reduceAdd, Int.reduceSub, Int.reduceMul, Int.reduceNeg, Nat.reduceEqDiff, Nat.reduceBEq, Nat.reduceBNe, Nat.reduceAdd, Nat.reduceLeDiff, Nat.reduceLT, Nat.reduceMul, ↓reduceIte, reduceCtorEq, g91, pf91, b91, hcap2, hcap3, List.all_nil, callC_eq (f108 hl hpm hcap hf)]
  rw [← idx_nonneg]

set_option maxHeartbeats 2000000 in
theorem f90 {s : List UInt8}  : Fun G 90 [.str (bs s)] (.bool (decide (s.length = 32)), []) := by
  refine Fun.of_run (g := g90) (pf := pf90) rfl rfl rfl rfl ?_
  simp (maxSteps := 1000000) (disch := first | assumption | ((try simp only [LEN, LEN2]); omega)) only [push_cast, Int.reduceToNat, Int.reduceEq, Int.reduceNe, Int.reduceLT, Int.reduceLE, Int.reduceAdd, Int.reduceSub, Int.reduceMul, Int.reduceNeg, Nat.reduceEqDiff, Nat.reduceBEq, Nat.reduceBNe, Nat.reduceAdd, Nat.reduceLeDiff, Nat.reduceLT, Nat.reduceMul, ↓reduceIte, reduceCtorEq, g90, pf90, b90]
  exact boolRes (by omega)
theorem f90c {s : List UInt8}  {g : VG} {F : Fn} {lk : Bool} {e : Env} {dst : Option Nat} {ops : List Ins} {keep : Option (List Nat)} {K : List Fr} : CallC G g F 90 [.str (bs s)] lk e dst ops keep K = ThenL G g F (if lk && !(T.noSl (.bool (decide (s.length = 32)))) then none else e.put g.un dst (.bool (decide (s.length = 32)))) ops keep K := callC_eq (f90 )
attribute [push_cast] f90c
set_option maxHeartbeats 2000000 in
theorem f89 {s : List UInt8}  : Fun G 89 [.str (bs s)] (.bool (!decide (s.length = 32)), []) := by
  refine Fun.of_run (g := g89) (pf := pf89) rfl rfl rfl rfl ?_
  simp (maxSteps := 1000000) (disch := first | assumption | ((try simp only [LEN, LEN2]); omega)) only [push_cast, Int.reduceToNat, Int.reduceEq, Int.reduceNe, Int.reduceLT, Int.reduceLE, Int.reduceAdd, Int.reduceSub, Int.reduceMul, Int.reduceNeg, Nat.reduceEqDiff, Nat.reduceBEq, Nat.reduceBNe, Nat.reduceAdd, Nat.reduceLeDiff, Nat.reduceLT, Nat.reduceMul, ↓reduceIte, reduceCtorEq, g89, pf89, b89]
theorem f89c {s : List UInt8}  {g : VG} {F : Fn} {lk : Bool} {e : Env} {dst : Option Nat} {ops : List Ins} {keep : Option (List Nat)} {K : List Fr} : CallC G g F 89 [.str (bs s)] lk e dst ops keep K = ThenL G g F (if lk && !(T.noSl (.bool (!decide (s.length = 32)))) then none else e.put g.un dst (.bool (!decide (s.length = 32)))) ops keep K := callC_eq (f89 )
attribute [push_cast] f89c

set_option maxHeartbeats 2000000 in
theorem f61 {S : List (List UInt8)} {W : List Put} {i : Int} (h : S.length ≤ 1000000000) : Fun G 61 [.vs true (cT S W), .int .i64 i] (.bool (decide (0 ≤ i ∧ i < S.length)), []) := by
  refine Fun.of_run (g := g61) (pf := pf61) rfl rfl rfl rfl ?_
  by_cases h1 : 0 ≤ i
  · simp (maxSteps := 1000000) (disch := first | assumption | ((try simp only [LEN, LEN2]); omega)) only [push_cast, Int.reduceToNat, Int.reduceEq, Int.reduceNe, Int.reduceLT, Int.reduceLE, Int.reduceAdd, Int.reduceSub, Int.reduceMul, Int.reduceNeg, Nat.reduceEqDiff, Nat.reduceBEq, Nat.reduceBNe, Nat.reduceAdd, Nat.reduceLeDiff, Nat.reduceLT, Nat.reduceMul, ↓reduceIte, reduceCtorEq, g61, pf61, b61, h1]
  · simp (maxSteps := 1000000) (disch := first | assumption | ((try simp only [LEN, LEN2]); omega)) only [push_cast, Int.reduceToNat, Int.reduceEq, Int.reduceNe, Int.reduceLT, Int.reduceLE, Int.reduceAdd, Int.reduceSub, Int.reduceMul, Int.reduceNeg, Nat.reduceEqDiff, Nat.reduceBEq, Nat.reduceBNe, Nat.reduceAdd, Nat.reduceLeDiff, Nat.reduceLT, Nat.reduceMul, ↓reduceIte, reduceCtorEq, g61, pf61, b61, h1]
theorem f61c {S : List (List UInt8)} {W : List Put} {i : Int} (h : S.length ≤ 1000000000) {g : VG} {F : Fn} {lk : Bool} {e : Env} {dst : Option Nat} {ops : List Ins} {keep : Option (List Nat)} {K : List Fr} : CallC G g F 61 [.vs true (cT S W), .int .i64 i] lk e dst ops keep K = ThenL G g F (if lk && !(T.noSl (.bool (decide (0 ≤ i ∧ i < S.length)))) then none else e.put g.un dst (.bool (decide (0 ≤ i ∧ i < S.length)))) ops keep K := callC_eq (f61 h)
attribute [push_cast] f61c

set_option maxHeartbeats 2000000 in
theorem f92 {S : List (List UInt8)} {W : List Put} {p : Put} (h : S.length ≤ 1000000000) : Fun G 92 [.vs true (oP p), .adr [.sl (S.map eS), .sl (W.map eP)]] (.bool (!(decide (0 ≤ p.At ∧ p.At < S.length ∧ p.Text.length = 32))), []) := by
  refine Fun.of_run (g := g92) (pf := pf92) rfl rfl rfl rfl ?_
  by_cases h1 : 0 ≤ p.At ∧ p.At < S.length
  · simp (maxSteps := 1000000) (disch := first | assumption | ((try simp only [LEN, LEN2]); omega)) only [push_cast, Int.reduceToNat, Int.reduceEq, Int.reduceNe, Int.reduceLT, Int.reduceLE, Int.reduceAdd, Int.reduceSub, Int.reduceMul, Int.reduceNeg, Nat.reduceEqDiff, Nat.reduceBEq, Nat.reduceBNe, Nat.reduceAdd, Nat.reduceLeDiff, Nat.reduceLT, Nat.reduceMul, ↓reduceIte, reduceCtorEq, g92, pf92, b92, oP, h1]
  · simp (maxSteps := 1000000) (disch := first | assumption | ((try simp only [LEN, LEN2]); omega)) only [push_cast, Int.reduceToNat, Int.reduceEq, Int.reduceNe, Int.reduceLT, Int.reduceLE, Int.reduceAdd, Int.reduceSub, Int.reduceMul, Int.reduceNeg, Nat.reduceEqDiff, Nat.reduceBEq, Nat.reduceBNe, Nat.reduceAdd, Nat.reduceLeDiff, Nat.reduceLT, Nat.reduceMul, ↓reduceIte, reduceCtorEq, g92, pf92, b92, oP, h1]
    have : ¬ (0 ≤ p.At ∧ p.At < S.length ∧ p.Text.length = 32) := fun h => h1 ⟨h.1, h.2.1⟩
    simp [this]
theorem f92c {S : List (List UInt8)} {W : List Put} {p : Put} (h : S.length ≤ 1000000000) {g : VG} {F : Fn} {lk : Bool} {e : Env} {dst : Option Nat} {ops : List Ins} {keep : Option (List Nat)} {K : List Fr} : CallC G g F 92 [.vs true (oP p), .adr [.sl (S.map eS), .sl (W.map eP)]] lk e dst ops keep K = ThenL G g F (if lk && !(T.noSl (.bool (!(decide (0 ≤ p.At ∧ p.At < S.length ∧ p.Text.length = 32))))) then none else e.put g.un dst (.bool (!(decide (0 ≤ p.At ∧ p.At < S.length ∧ p.Text.length = 32))))) ops keep K := callC_eq (f92 h)
attribute [push_cast] f92c

set_option maxHeartbeats 2000000 in
theorem f56 {S : List (List UInt8)} {W : List Put} (hS : S.length ≤ 1000000000) (hW : W.length ≤ 1000000000) : Fun G 56 [.vs true (cT S W)] (.bool (okT S W), []) := by
  refine Fun.of_run (g := g56) (pf := pf56) rfl rfl rfl rfl ?_
  have h1 := f88 (l := S) (f := 89) (caps := []) (p := fun s => !decide (s.length = 32)) hS (.inl rfl) rfl (fun w _ => f89)
  have h2 := f91 (l := W) (f := 92) (caps := [.adr [.sl (S.map eS), .sl (W.map eP)]]) (p := fun p => !(decide (0 ≤ p.At ∧ p.At < S.length ∧ p.Text.length = 32))) hW (.inr (.inl rfl)) rfl (fun w _ => f92 hS)
  by_cases h3 : (S.length : Int) < 1
  · simp (maxSteps := 1000000) (disch := first | assumption | ((try simp only [LEN, LEN2]); omega)) only [push_cast, Int.reduceToNat, Int.reduceEq, Int.reduceNe, Int.reduceLT, Int.reduceLE, Int.reduceAdd, Int.reduceSub, Int.reduceMul, Int.reduceNeg, Nat.reduceEqDiff, Nat.reduceBEq, Nat.reduceBNe, Nat.reduceAdd, Nat.reduceLeDiff, Nat.reduceLT, Nat.reduceMul, ↓reduceIte, reduceCtorEq, g56, pf56, b56, h3]
    simp [okT]; omega
  by_cases h4 : (512 : Int) < S.length
  · simp (maxSteps := 1000000) (disch := first | assumption | ((try simp only [LEN, LEN2]); omega)) only [push_cast, Int.reduceToNat, Int.reduceEq, Int.reduceNe, Int.reduceLT, Int.reduceLE, Int.reduceAdd, Int.reduceSub, Int.reduceMul, Int.reduceNeg, Nat.reduceEqDiff, Nat.reduceBEq, Nat.reduceBNe, Nat.reduceAdd, Nat.reduceLeDiff, Nat.reduceLT, Nat.reduceMul, ↓reduceIte, reduceCtorEq, g56, pf56, b56, h3, h4]
    simp [okT]; omega
  by_cases h5 : (2048 : Int) < W.length
  · simp (maxSteps := 1000000) (disch := first | assumption | ((try simp only [LEN, LEN2]); omega)) only [push_cast, Int.reduceToNat, Int.reduceEq, Int.reduceNe, Int.reduceLT, Int.reduceLE, Int.reduceAdd, Int.reduceSub, Int.reduceMul, Int.reduceNeg, Nat.reduceEqDiff, Nat.reduceBEq, Nat.reduceBNe, Nat.reduceAdd, Nat.reduceLeDiff, Nat.reduceLT, Nat.reduceMul, ↓reduceIte, reduceCtorEq, g56, pf56, b56, h3, h4, h5]
    simp [okT]; omega
  have e1 : okT S W = (S.all (fun s => decide (s.length = 32)) && W.all (okP S.length)) := by
    simp only [okT]
    rw [show decide (1 ≤ S.length ∧ S.length ≤ 512 ∧ W.length ≤ 2048) = true by simp; omega, Bool.true_and]
  have e2 : (S.any fun s => !decide (s.length = 32)) = !(S.all fun s => decide (s.length = 32)) := by rw [List.not_all_eq_any_not]
  have e3 : (W.any fun p => !decide (0 ≤ p.At ∧ p.At < S.length ∧ p.Text.length = 32)) = !(W.all (okP S.length)) := by rw [List.not_all_eq_any_not]; rfl
  rw [e2] at h1
  rw [e3] at h2
  rw [e1]
  cases h6 : S.all (fun s => decide (s.length = 32))
  · simp only [h6, Bool.not_false] at h1
    simp (maxSteps := 1000000) (disch := first | assumption | ((try simp only [LEN, LEN2]); omega)) only [push_cast, Int.reduceToNat, Int.reduceEq, Int.reduceNe, Int.reduceLT, Int.reduceLE, Int.reduceAdd, Int.reduceSub, Int.reduceMul, Int.reduceNeg, Nat.reduceEqDiff, Nat.reduceBEq, Nat.reduceBNe, Nat.reduceAdd, Nat.reduceLeDiff, Nat.reduceLT, Nat.reduceMul, ↓reduceIte, reduceCtorEq, g56, pf56, b56, h3, h4, h5, callC_eq h1]
  · simp only [h6, Bool.not_true] at h1
    simp (maxSteps := 1000000) (disch := first | assumption | ((try simp only [LEN, LEN2]); omega)) only [push_cast, Int.reduceToNat, Int.reduceEq, Int.reduceNe, Int.reduceLT, Int.reduceLE, Int.reduceAdd, Int.reduceSub, Int.reduceMul, Int.reduceNeg, Nat.reduceEqDiff, Nat.reduceBEq, Nat.reduceBNe, Nat.reduceAdd, Nat.reduceLeDiff, Nat.reduceLT, Nat.reduceMul, ↓reduceIte, reduceCtorEq, g56, pf56, b56, h3, h4, h5, callC_eq h1, callC_eq h2]
    rw [Bool.not_not]
theorem f56c {S : List (List UInt8)} {W : List Put} (hS : S.length ≤ 1000000000) (hW : W.length ≤ 1000000000) {g : VG} {F : Fn} {lk : Bool} {e : Env} {dst : Option Nat} {ops : List Ins} {keep : Option (List Nat)} {K : List Fr} : CallC G g F 56 [.vs true (cT S W)] lk e dst ops keep K = ThenL G g F (if lk && !(T.noSl (.bool (okT S W))) then none else e.put g.un dst (.bool (okT S W))) ops keep K := callC_eq (f56 hS hW)
attribute [push_cast] f56c
end Go.Mir.Try.Z

/- tape.Read, for the mirror. -/
set_option linter.unusedVariables false
namespace Go.Mir
/-- A call that is handed data alone. -/
theorem CallR.data {P : Program} {pm : FuncId → List PM} {f : FuncId} {args : List T} {r : Res} (h : CallR P pm f args r) {us : List Value} {w : World} (hl : args.length = us.length)
    (ha : ∀ (j : Nat) (t : T) (u : Value), args[j]? = some t → us[j]? = some u → TRe P w (fun _ => True) t u No) :
    Calls P f us.toArray w fun en w' => ∃ v, en = .returned v ∧ RowKit.Below w.heap.size w w' ∧ ∃ ok Fr, TRe P w' ok r.1 v Fr := by
  refine (h.2.2 No w us (fun _ => No) (fun _ h => h.elim) hl (fun j t u ht hu => ?_) (fun _ _ _ _ _ _ h => h.elim) (fun _ _ _ h => h.elim)).mono fun en w' ⟨v, he, hg, Fr, Fo, h1, _⟩ => ⟨v, he, ⟨hg.os, hg.tape, hg.output, hg.size, fun k hk => hg.block k hk (fun ⟨_, _, h⟩ => h)⟩, _, Fr, h1⟩
  exact (ha j t u ht hu).change (fun _ h => h.elim) (fun b _ _ => ⟨⟨fun h => h, fun _ _ h => h⟩, rfl⟩) (fun r k p ad _ _ ⟨a, cs, v, u, h, _⟩ => by simp [Env.get] at h) (fun r k p x _ _ ⟨a, cs, v, u, h, _⟩ => by simp [Env.get] at h)
theorem TRe.below {P : Program} {w W : World} {ok : Nat → Prop} {t : T} {u : Value} (h : TRe P w ok t u No) (hb : RowKit.Below w.heap.size w W) : TRe P W ok t u No :=
  h.change (fun _ h => h.elim) (fun b hok hl => ⟨hok, hb.block b hl⟩) (fun r k p ad _ _ ⟨a, cs, v, u, h, _⟩ => by simp [Env.get] at h) (fun r k p x _ _ ⟨a, cs, v, u, h, _⟩ => by simp [Env.get] at h)
theorem TRe.anyok {P : Program} {w : World} {ok ok' : Nat → Prop} {t : T} {u : Value} (h : TRe P w ok t u No) (hk : ∀ b, ok b → ok' b) : TRe P w ok' t u No :=
  h.change (fun _ h => h.elim) (fun b hok hl => ⟨hk b hok, rfl⟩) (fun r k p ad _ _ ⟨a, cs, v, u, h, _⟩ => by simp [Env.get] at h) (fun r k p x _ _ ⟨a, cs, v, u, h, _⟩ => by simp [Env.get] at h)
theorem VS.no {P : Program} {w : World} {ok : Nat → Prop} {a : Bool} {cs : List V} {x : Value} {F : Nat → Prop} (h : VS P w ok a cs x F) (hd : cs.all V.isD = true) : VS P w ok a cs x No := by
  obtain ⟨h1, hl, Fs, g1, g2, g3⟩ := h
  refine ⟨h1, OwnL.ofData hl fun j v u hv hu => ?_⟩
  have h3 := List.all_eq_true.1 hd v (List.mem_of_getElem? hv)
  have := g1 j v u hv hu
  cases v with
  | d x =>
    cases this with
    | d _ hr => exact .d (fun _ h => h) hr
    | blk _ hh => simp [Shape] at hh
  | _ => simp [V.isD] at h3
theorem Own.dRO {P : Program} {w : World} {ok : Nat → Prop} {x : D} {u : Value} {F : Nat → Prop} (h : Own P w ok (.d x) u F) : RO w ok x u := by
  cases h with
  | d _ hr => exact hr
  | blk _ hh => simp [Shape] at hh
/-- Two plain results. -/
theorem tup2_sc {P : Program} {w : World} {ok : Nat → Prop} {a b : Value} (ha : plain a = true) (hb : plain b = true) : TRe P w ok (.tup [(false, [.d (.sc a)]), (false, [.d (.sc b)])]) (.tuple #[a, b]) No :=
  ⟨[a, b], rfl, rfl, fun _ => No, fun j c x hc hx => by
    match j with
    | 0 => simp at hc hx; subst hc; subst hx; exact VS.ofOne (.d (fun _ h => h) (.sc ha))
    | 1 => simp at hc hx; subst hc; subst hx; exact VS.ofOne (.d (fun _ h => h) (.sc hb))
    | j + 2 => simp at hc, fun _ _ _ _ _ _ h => h.elim, fun b => ⟨fun h => h.elim, fun ⟨_, _, h⟩ => h⟩⟩
end Go.Mir
namespace Go.Mir.Q
open Go.Mir
theorem eS_inj {a b : List (List UInt8)} (h : a.map eS = b.map eS) : a = b :=
  (List.map_inj_right (f := eS) fun x y h => by simpa [eS, bs_inj] using h).1 h
theorem eP_inj {a b : List Put} (h : a.map eP = b.map eP) : a = b :=
  (List.map_inj_right (f := eP) fun x y h => by
    obtain ⟨x1, x2⟩ := x; obtain ⟨y1, y2⟩ := y
    simpa [eP, bs_inj] using h).1 h
/-- What a tape's sector is. -/
def see (s : List UInt8) (i : Int) : List Put → List UInt8
  | [] => s
  | p :: r => see (if p.At = i then p.Text else s) i r
end Go.Mir.Q
namespace Go.Mir.Try
open Go Go.Proofs Go.Shelf Go.RowKit Go.Mir.Q

abbrev res2 (s : List UInt8) (e : Int) : Res := (.tup [(false, [.d (.sc (.string (bs s)))]), (false, [.d (.sc (.int .i64 e))])], [])
/-- What tape.Read tells. -/
def readR (S : List (List UInt8)) (W : List Put) (i : Int) : Res :=
  if okT S W then if 0 ≤ i then match S[i.toNat]? with | some s => res2 (see s i W) 0 | none => res2 [] 3 else res2 [] 3 else res2 [] 1
open Classical in
noncomputable def rdGiven : List PM × (List T → Option Res) := ([.ro, .ro], fun args =>
  if h : ∃ x : List (List UInt8) × List Put × Int, args = [.vs true (cT x.1 x.2.1), .int .i64 x.2.2] ∧ x.1.length ≤ 1000000000 ∧ x.2.1.length ≤ 1000000000 then some (readR h.choose.1 h.choose.2.1 h.choose.2.2) else none)
theorem rdGiven_eq {S : List (List UInt8)} {W : List Put} {i : Int} (hS : S.length ≤ 1000000000) (hW : W.length ≤ 1000000000) : rdGiven.2 [.vs true (cT S W), .int .i64 i] = some (readR S W i) := by
  have h : ∃ x : List (List UInt8) × List Put × Int, [T.vs true (cT S W), .int .i64 i] = [.vs true (cT x.1 x.2.1), .int .i64 x.2.2] ∧ x.1.length ≤ 1000000000 ∧ x.2.1.length ≤ 1000000000 := ⟨⟨S, W, i⟩, rfl, hS, hW⟩
  simp only [rdGiven]
  rw [dif_pos h]
  have h2 := h.choose_spec.1
  generalize h.choose = y at h2 ⊢
  obtain ⟨S', W', i'⟩ := y
  simp only [List.cons.injEq, T.vs.injEq, V.d.injEq, D.sl.injEq, D.sc.injEq, Value.int.injEq, true_and, and_true] at h2
  obtain ⟨⟨h3, h4⟩, h5⟩ := h2
  rw [eS_inj h3, eP_inj h4, h5]

theorem seeW_see {i : Int} : ∀ (W : List Put) (s : List UInt8), seeW (bs s) i (W.map fun p => (p.At, bs p.Text)) = bs (see s i W)
  | [], _ => rfl
  | p :: W, s => by
    simp only [List.map_cons, seeW, see]
    split <;> exact seeW_see W _

theorem rd_ok {pm : FuncId → List PM} (hpm : pm 33 = [.ro, .ro]) {args : List T} {r : Res} (h : rdGiven.2 args = some r) : CallR Try.prog pm 33 args r := by
  simp only [rdGiven] at h
  split at h
  case isFalse => cases h
  rename_i hx
  obtain ⟨⟨S, W, i⟩, rfl, hS, hW⟩ := hx
  have h' := rdGiven_eq (i := i) hS hW
  have : r = readR S W i := by
    have h2 : rdGiven.2 [.vs true (cT S W), .int .i64 i] = some r := by
      simp only [rdGiven]
      rw [dif_pos ⟨(S, W, i), rfl, hS, hW⟩]; exact h
    rw [h'] at h2; exact (Option.some.inj h2).symm
  subst this
  clear h h'
  have hfn : ∃ fn, Try.prog.funcs[33]? = some fn ∧ (fn.name == "runtime.NumGoroutine") = false ∧ fn.body.isNone = false := ⟨_, Try.func33, by kernel_rfl, by kernel_rfl⟩
  have hval : (readR S W i).1.isVal = true := by
    unfold readR
    split
    · split
      · split <;> rfl
      · rfl
    · rfl
  refine ⟨hfn, hval, fun X w us Fa hX hl ha hd hx => ?_⟩
  match us, hl with
  | [u, v], _ =>
    obtain rfl := sc_of (ha 1 _ v rfl rfl)
    have g0 : TRe Try.prog w (fun _ => True) (.vs true (cT S W)) u No := (VS.no (ha 0 _ u rfl rfl) rfl).frame (fun _ h => h.elim) (fun b _ _ => ⟨trivial, rfl⟩)
    obtain ⟨arr, rfl⟩ := g0.1 rfl
    obtain ⟨sv, wv, rfl⟩ : ∃ sv wv, arr = #[sv, wv] := by
      have hlen := g0.2.1
      obtain ⟨l⟩ := arr
      match l, hlen with
      | [a, b], _ => exact ⟨a, b, rfl⟩
    have g0' := g0
    obtain ⟨_, _, Fs, g1, _, _⟩ := g0
    have hs := (g1 0 _ sv rfl rfl).dRO
    have hw := (g1 1 _ wv rfl rfl).dRO
    have hMay : ∀ W0, Below w.heap.size w W0 → Calls Try.prog 56 #[.agg #[sv, wv]] W0 fun e W' => e = .returned (.bool (okT S W)) ∧ Below W0.heap.size W0 W' := fun W0 hb => by
      obtain ⟨k, hk⟩ := Z.f56 (S := S) (W := W) hS hW
      refine ((call_ok Z.soundG hk).data (us := [.agg #[sv, wv]]) rfl (fun j t x ht hx => ?_)).mono fun en w' ⟨v, he, hbl, ok, Fr, htr⟩ => ⟨?_, hbl⟩
      · match j with
        | 0 => simp at ht hx; subst ht; subst hx; exact TRe.below g0' hb
        | j + 1 => simp at ht
      · rw [he, sc_of htr]
    have hTh : ∀ W0, Below w.heap.size w W0 → Calls Try.prog 61 #[.agg #[sv, wv], .int .i64 i] W0 fun e W' => e = .returned (.bool (decide (0 ≤ i ∧ i < S.length))) ∧ Below W0.heap.size W0 W' := fun W0 hb => by
      obtain ⟨k, hk⟩ := Z.f61 (S := S) (W := W) (i := i) hS
      refine ((call_ok Z.soundG hk).data (us := [.agg #[sv, wv], .int .i64 i]) rfl (fun j t x ht hx => ?_)).mono fun en w' ⟨v, he, hbl, ok, Fr, htr⟩ => ⟨?_, hbl⟩
      · match j with
        | 0 => simp at ht hx; subst ht; subst hx; exact TRe.below g0' hb
        | 1 => simp at ht hx; subst ht; subst hx; exact of_sc rfl
        | j + 2 => simp at ht
      · rw [he, sc_of htr]
    have fin : ∀ (s : List UInt8) (n : Int), readR S W i = res2 s n → Calls Try.prog 33 #[.agg #[sv, wv], .int .i64 i] w (ReadPost (bs s) n w) → Calls Try.prog 33 [Value.agg #[sv, wv], .int .i64 i].toArray w fun en w' => ∃ v, en = .returned v ∧ Grow (fun b => ∃ j, j < 2 ∧ Fa j b) w w' ∧ ∃ Fr Fo : Nat → Prop,
        TRe Try.prog w' (fun b => ¬ X b ∧ ¬ Fr b ∧ ¬ Fo b) (readR S W i).1 v Fr ∧ OwnL Try.prog w' (fun b => ¬ X b ∧ ¬ Fr b ∧ ¬ Fo b) (readR S W i).2 (ioVals (pm 33) [Value.agg #[sv, wv], .int .i64 i]) Fo ∧ (∀ b, Fr b → ¬ Fo b) ∧
        ∀ b, Fr b ∨ Fo b → ¬ X b ∧ ((∃ j, j < 2 ∧ Fa j b) ∨ w.heap.size ≤ b) := fun s n hr hc => by
      refine hc.mono fun en w' ⟨he, hb⟩ => ⟨_, he, ⟨hb.os, hb.tape, hb.output, hb.size, fun k hk _ => hb.block k hk⟩, No, No, ?_, ?_, fun _ h _ => h, fun b h => by rcases h with h | h <;> exact h.elim⟩
      · rw [hr]; exact tup2_sc rfl rfl
      · rw [hr, hpm]; exact own_none
    by_cases hok : okT S W = true
    · by_cases hth : 0 ≤ i ∧ i < S.length
      · obtain ⟨n, rfl⟩ := Int.eq_ofNat_of_zero_le hth.1
        have hn : n < S.length := by omega
        have hr : readR S W n = res2 (see S[n] n W) 0 := by simp [readR, hok, hn]
        have hs' := hs
        obtain ⟨A, sc, hsv, us, hownl, hr0⟩ := RO.elems (P := Try.prog) hs
        rcases hr0 with h0 | ⟨sb, so, sz, hz, rfl, hsz, hokb, hl, hc, hu, hro⟩
        · rw [List.map_eq_nil_iff] at h0; subst h0; simp at hn
        · subst hsv
          have hsz1 : sz = 1 := by
            have := hsz (eS S[n]) (List.mem_map_of_mem (List.getElem_mem hn))
            simpa [eS] using this.symm
          subst hsz1
          have hus : n < us.length := by rw [hl, List.length_map]; omega
          have hcell := hu n us[n] (List.getElem?_eq_getElem hus)
          have hfl : (S.map eS).flatten[n]? = some (.sc (.string (bs S[n]))) := by
            have := flat_get (sz := 1) hsz (i := n) (j := 0) (c := eS S[n]) (v := .sc (.string (bs S[n]))) (by simp [hn]) (by simp [eS])
            simpa using this
          have hval := hro n _ us[n] hfl (List.getElem?_eq_getElem hus)
          have hv : us[n] = .string (bs S[n]) := by
            generalize us[n] = x at hval
            cases hval; rfl
          refine fin _ _ hr ?_
          have hzs : Puts w.heap.size w wv (W.map fun p => (p.At, bs p.Text)) ∧ ∃ wa wc, wv = .slice wa (W.map fun p => (p.At, bs p.Text)).length wc := by
            obtain ⟨A2, wc, hwv, us2, hown2, hr2⟩ := RO.elems (P := Try.prog) hw
            have hl2 : (W.map fun p => (p.At, bs p.Text)).length = (W.map eP).length := by simp
            refine ⟨?_, A2, wc, by rw [hl2]; exact hwv⟩
            by_cases hW0 : W = []
            · subst hW0
              exact .inl ⟨rfl, A2, wc, by simpa using hwv⟩
            · rcases hr2 with h0 | ⟨b, o, sz2, hz2, rfl, hsz2, hokb2, hl3, hc2, hu2, hro2⟩
              · rw [List.map_eq_nil_iff] at h0; exact absurd h0 hW0
              · have hsz3 : sz2 = 2 := by
                  obtain ⟨p, r, rfl⟩ := List.exists_cons_of_ne_nil hW0
                  have := hsz2 (eP p) (by simp)
                  simpa [eP] using this.symm
                subst hsz3
                refine .inr ⟨b, o, wc, by rw [hl2]; exact hwv, ?_, fun j hj => ?_⟩
                · have h1 : 0 < us2.length := by rw [hl3, List.length_map]; have := List.length_pos_iff.2 hW0; omega
                  exact World.block_lt_of_cell? w _ (hu2 0 _ (List.getElem?_eq_getElem h1))
                · simp only [List.length_map] at hj
                  have hus : ∀ k, k < 2 → j * 2 + k < us2.length := fun k hk => by rw [hl3, List.length_map]; omega
                  have hfl : ∀ k d, (eP W[j])[k]? = some d → (W.map eP).flatten[j * 2 + k]? = some d := fun k d hk => flat_get (sz := 2) hsz2 (i := j) (c := eP W[j]) (by simp [hj]) hk
                  have v0 := hro2 _ _ us2[j * 2 + 0] (hfl 0 _ rfl) (List.getElem?_eq_getElem (hus 0 (by omega)))
                  have v1 := hro2 _ _ us2[j * 2 + 1] (hfl 1 _ rfl) (List.getElem?_eq_getElem (hus 1 (by omega)))
                  have c0 := hu2 _ us2[j * 2 + 0] (List.getElem?_eq_getElem (hus 0 (by omega)))
                  have c1 := hu2 _ us2[j * 2 + 1] (List.getElem?_eq_getElem (hus 1 (by omega)))
                  have e0 : us2[j * 2 + 0] = .int .i64 W[j].At := by
                    generalize us2[j * 2 + 0] = x at v0
                    cases v0; rfl
                  have e1 : us2[j * 2 + 1] = .string (bs W[j].Text) := by
                    generalize us2[j * 2 + 1] = x at v1
                    cases v1; rfl
                  rw [e0] at c0
                  rw [e1] at c1
                  simp only [List.getElem_map]
                  exact ⟨by simpa using c0, by simpa [Nat.add_assoc] using c1⟩
          obtain ⟨hP, wa, wc, hwv⟩ := hzs
          rw [← seeW_see]
          have hlen : (S.map eS).length = S.length := by simp
          rw [hok] at hMay
          rw [show decide (0 ≤ (n : Int) ∧ (n : Int) < S.length) = true by simpa using hth] at hTh
          exact read_see sb so (S.map eS).length sc wa wc wv n (by omega) (bs S[n]) _ (by rw [List.length_map]; exact Nat.le_trans hW (by omega)) w (by rw [← hv]; exact hcell) hwv hP hMay hTh
      · have hr : readR S W i = res2 [] 3 := by
          unfold readR
          rw [if_pos hok]
          split
          · rename_i h0
            split
            · rename_i s hs
              have := (List.getElem?_eq_some_iff.1 hs).1
              omega
            · rfl
          · rfl
        rw [hok] at hMay
        rw [show decide (0 ≤ i ∧ i < S.length) = false by simpa using hth] at hTh
        exact fin _ _ hr (read_none sv wv hs.one hw.one i w hMay hTh)
    · rw [Bool.not_eq_true] at hok
      have hr : readR S W i = res2 [] 1 := by simp [readR, hok]
      rw [hok] at hMay
      exact fin _ _ hr (read_bad sv wv hs.one hw.one i w hMay)
end Go.Mir.Try

-- 4 5 6 7 17 25 26 27 28 29 30 31 32 34 35 36 37 38 39 54 55 56 57 58 59 60 12 65 66 67 68 69 70 71 72 73 74 75 88 89 91 92 61 90 107 108
set_option maxRecDepth 100000
namespace Go.Mir.Try
open Go.Proofs
def g4 : VG := [(1, [22, 24, 29, 30, 42, 43, 45, 46, 47, 58, 59, 61, 62, 63, 65, 66, 127, 128, 130, 131, 132]), (5, [57, 87, 115, 120, 152, 153, 175]), (7, [75, 79, 80, 85]), (8, [71]), (9, [97, 102, 103, 109, 110, 126, 159, 165, 181, 201, 202, 204]), (10, [93]), (11, [150, 151]), (12, [136]), (13, [158]), (14, [140]), (15, [164]), (16, [145]), (19, [186]), (21, [190])]
def a4 : FAnn := { pm := [.ro], rt := g4.un, regs := [(0, { keep := some [1] }), (1, { md := [(1, .cp)], keep := some [1, 23] }), (2, { keep := some [2] }), (3, { md := [(2, .cp)], keep := some [1, 3] }), (4, { keep := some [1, 3, 4] }), (5, { keep := some [1, 3, 4, 36] }), (7, { md := [(1, .cp)], keep := some [1, 3, 4, 5] }), (8, { keep := some [1, 3, 4, 5, 6] }), (9, { keep := some [1, 3, 4, 5, 6, 53] }), (11, { md := [(11, .cp), (12, .tk)], keep := some [1, 3, 4, 5, 6, 7, 8], dr := [(false, [5]), (false, [1]), (false, [1, 58]), (false, [4]), (false, [1, 59, 60]), (false, [1, 61]), (false, [1, 62]), (false, [6]), (false, [1, 63, 64]), (false, [1, 65]), (true, [1, 22, 24, 29, 30, 42, 43, 45, 46, 47, 58, 59, 61, 62, 63, 65, 66, 67, 127, 128, 130, 131, 132]), (false, [5, 57, 67]), (true, [56, 68]), (true, [56, 69]), (true, [56, 70]), (false, []), (true, [7, 69, 75, 79, 80, 85]), (true, [8, 70, 71])], cl := [[], [], [1], [], [1, 2, 3], [1, 2, 3, 4], [1, 2, 3, 4, 5], [], [1, 2, 3, 4, 5, 6, 7], [1, 2, 3, 4, 5, 6, 7, 8], [1, 2, 3, 4, 5, 6, 7, 8, 9], [0, 1, 2, 3, 4, 5, 6, 7, 8, 9, 10], [0, 1, 2, 3, 4, 5, 6, 7, 8, 9, 10, 11], [0, 1, 2, 3, 4, 5, 6, 7, 8, 9, 10, 11, 12], [0, 1, 2, 3, 4, 5, 6, 7, 8, 9, 10, 11, 12], [], [0, 1, 2, 3, 4, 5, 6, 7, 8, 9, 10, 11, 12, 13, 15], [0, 1, 2, 3, 4, 5, 6, 7, 8, 9, 10, 11, 12, 13, 14, 15, 16]] }), (12, { md := [(1, .cp), (5, .cp)], keep := some [1, 3, 4, 5, 6, 7, 84] }), (13, { keep := some [1, 3, 4, 5, 6] }), (10, { keep := some [1, 3, 4, 5, 6] }), (14, { md := [(3, .cp), (4, .tk)], keep := some [1, 3, 4, 5, 9, 10] }), (15, { md := [(1, .cp), (5, .cp)], keep := some [1, 3, 4, 5, 9, 113] }), (16, { keep := some [2] }), (17, { md := [(1, .cp), (2, .tk)], keep := some [1, 3, 4, 5, 9, 11, 12] }), (18, { md := [(2, .cp), (3, .tk)], keep := some [1, 3, 4, 5, 9, 11, 12, 13, 14] }), (19, { md := [(7, .cp), (8, .tk)], keep := some [1, 3, 4, 5, 9, 11, 12, 13, 14, 15, 16], dr := [(false, [9]), (false, [1]), (false, [1, 127]), (false, [4]), (false, [1, 128, 129]), (false, [1, 130]), (false, [1, 131]), (false, [1, 9, 126, 132]), (true, [125, 133]), (true, [125, 134]), (true, [125, 135]), (false, []), (true, [15, 134, 164]), (true, [16, 135, 145])], cl := [[], [], [1], [], [1, 2, 3], [1, 2, 3, 4], [1, 2, 3, 4, 5], [0, 1, 2, 3, 4, 5, 6], [0, 1, 2, 3, 4, 5, 6, 7], [0, 1, 2, 3, 4, 5, 6, 7, 8], [0, 1, 2, 3, 4, 5, 6, 7, 8], [], [0, 1, 2, 3, 4, 5, 6, 7, 8, 9, 11], [0, 1, 2, 3, 4, 5, 6, 7, 8, 9, 10, 11, 12]] }), (20, { md := [(1, .cp), (5, .cp), (10, .cp), (18, .cp), (24, .cp), (30, .cp)], keep := some [1, 3, 4, 5, 9, 168] }), (21, { keep := some [2] }), (22, { keep := some [1, 3, 4, 5, 9, 17] }), (23, { keep := some [1, 3, 4, 5, 9, 17, 171] }), (25, { md := [(2, .cp), (3, .tk)], keep := some [1, 3, 4, 5, 9, 17, 18, 19] }), (26, { md := [(2, .cp), (3, .tk)], keep := some [1, 3, 4, 5, 9, 17, 18, 19, 20, 21] }), (27, { md := [(1, .cp), (5, .cp)], keep := some [1, 3, 4, 5, 9, 17, 207] }), (28, { keep := some [2] }), (24, { keep := some [1, 3, 4, 5, 9, 17] }), (6, { keep := some [1, 3, 4] }), (29, { md := [(0, .cp)], keep := some [2] })] }
def g5 : VG := [(1, [13, 16, 21, 24, 37, 38, 39, 55, 56, 67, 68, 70, 71]), (3, [32]), (4, [27]), (6, [33]), (7, [49, 51, 52]), (9, [66]), (11, [77])]
def a5 : FAnn := { pm := [.ro], rt := g5.un, regs := [(0, { keep := some [1] }), (1, { md := [(1, .cp)], keep := some [1, 14] }), (2, { keep := some [2] }), (3, { md := [(2, .cp), (3, .tk)], keep := some [1, 3, 4] }), (4, { keep := some [1, 3, 4, 5] }), (5, { keep := some [1, 3, 4, 5, 6] }), (6, { md := [(2, .cp)], keep := some [1, 3, 4, 5, 6, 23] }), (7, { md := [(2, .cp)], keep := some [1, 3, 4, 5, 6] }), (8, { md := [(1, .cp), (7, .cp)], keep := some [1, 36] }), (9, { keep := some [2] }), (10, { md := [(4, .cp), (6, .cp)], keep := some [1, 7], dr := [(false, [1]), (false, [1, 37]), (false, [1]), (false, [1, 39]), (false, [40]), (false, [41]), (false, [42]), (true, [1, 13, 16, 21, 24, 37, 38, 39, 43, 44, 55, 56, 67, 68, 70, 71]), (true, [7, 44, 49, 51, 52])], cl := [[], [0], [], [2], [2, 3], [2, 3, 4], [2, 3, 4, 5], [0, 1, 2, 3, 4, 5, 6], [0, 1, 2, 3, 4, 5, 6, 7]] }), (11, { keep := some [1, 7, 8] }), (12, { keep := some [1, 7, 8, 46] }), (14, { md := [(4, .cp)], keep := some [1, 7, 8, 9] }), (15, { keep := some [1, 7, 8, 9, 10] }), (16, { keep := some [1, 7, 8, 9, 10, 62] }), (18, { md := [(0, .fz), (6, .cp), (7, .tk)], keep := some [1, 7, 8, 9, 10, 11, 12], dr := [(true, [9, 66]), (false, [1]), (false, [1, 67]), (false, [10]), (false, [1, 68, 69]), (false, [1, 70]), (false, [1, 9, 66, 71]), (true, [65, 72]), (true, [65, 73]), (true, [65, 74]), (false, []), (true, [11, 73, 77]), (true, [12, 74])], cl := [[], [], [1], [], [1, 2, 3], [1, 2, 3, 4], [0, 1, 2, 3, 4, 5], [0, 1, 2, 3, 4, 5, 6], [0, 1, 2, 3, 4, 5, 6, 7], [0, 1, 2, 3, 4, 5, 6, 7], [], [0, 1, 2, 3, 4, 5, 6, 7, 8, 10], [0, 1, 2, 3, 4, 5, 6, 7, 8, 9, 10, 11]] }), (19, { keep := some [1, 7, 8, 9, 10, 11, 76] }), (20, { keep := some [2] }), (21, { keep := some [1, 7, 8, 9, 10] }), (17, { keep := some [1, 7, 8, 9, 10] }), (13, { keep := some [1, 7, 8] }), (22, { md := [(0, .cp)], keep := some [2] })] }
def g6 : VG := [(1, [3])]
def a6 : FAnn := { pm := [.ro], rt := g6.un, regs := [(0, { keep := some [1] }), (1, { md := [(2, .cp)], keep := some [2] })] }
def g7 : VG := [(1, [3])]
def a7 : FAnn := { pm := [.ro], rt := g7.un, regs := [(0, { keep := some [1] }), (1, { md := [(2, .cp)], keep := some [2] })] }
def g17 : VG := []
def a17 : FAnn := { pm := [.ro, .ro], rt := g17.un, regs := [(0, { keep := some [0, 1] }), (1, { keep := some [4] })] }
def g25 : VG := [(1, [6, 7, 9, 10, 14, 15, 25, 26, 28, 29, 30, 33, 34, 36, 37, 38, 42, 43, 45, 46, 47, 57, 58, 60, 61, 62, 64, 65, 66])]
def a25 : FAnn := { pm := [.ro], rt := g25.un, regs := [(0, { keep := some [1] }), (1, { md := [(2, .cp)], keep := some [1, 3], dr := [(false, [1]), (false, [1, 6]), (false, [1, 7]), (false, [1]), (false, [1, 9]), (false, [1, 10]), (false, [8, 11]), (true, [3, 12])], cl := [[], [0], [0, 1], [], [3], [3, 4], [0, 1, 2, 3, 4, 5], [0, 1, 2, 3, 4, 5, 6]] }), (2, { keep := some [1, 3, 4] }), (3, { keep := some [1, 3, 4, 21] }), (5, { keep := some [1, 3, 4], dr := [(false, [3]), (false, [1]), (false, [1, 25]), (false, [4]), (false, [1, 26, 27]), (false, [1, 28]), (false, [1, 29]), (false, [1, 30]), (false, [24, 31]), (false, [1]), (false, [1, 33]), (false, [4]), (false, [1, 34, 35]), (false, [1, 36]), (false, [1, 37]), (false, [1, 38]), (false, [32, 39]), (true, [3, 40])], cl := [[], [], [1], [], [1, 2, 3], [1, 2, 3, 4], [1, 2, 3, 4, 5], [1, 2, 3, 4, 5, 6], [0, 1, 2, 3, 4, 5, 6, 7], [], [9], [], [9, 10, 11], [9, 10, 11, 12], [9, 10, 11, 12, 13], [9, 10, 11, 12, 13, 14], [0, 1, 2, 3, 4, 5, 6, 7, 8, 9, 10, 11, 12, 13, 14, 15], [0, 1, 2, 3, 4, 5, 6, 7, 8, 9, 10, 11, 12, 13, 14, 15, 16]] }), (6, { keep := some [1, 3, 4, 5] }), (7, { keep := some [1, 3, 4, 5, 53] }), (9, { keep := some [1, 3, 4, 5] }), (8, { keep := some [1, 3, 4, 5] }), (4, { keep := some [1, 3, 4] }), (10, { keep := some [2] })] }
def g26 : VG := [(3, [10, 11, 15, 16])]
def a26 : FAnn := { pm := [.ro], rt := g26.un, regs := [(0, { keep := some [0, 2] }), (1, { keep := some [0, 2, 3] }), (2, { keep := some [0, 2, 3, 4] }), (3, { keep := some [0, 2, 3, 4, 7] }), (5, { md := [(2, .cp)], keep := some [0, 2, 3, 4], dr := [(false, [3]), (false, [3, 10]), (false, []), (true, [12, 13]), (true, [3, 10, 11, 13, 14, 15, 16]), (false, [3]), (true, [3, 10, 11, 14, 15, 16])], cl := [[], [0], [], [2], [0, 1, 2, 3], [0, 1, 2, 3, 4], [0, 1, 2, 3, 4, 5]] }), (4, { keep := some [0, 2, 3, 4] }), (6, { keep := some [2] })] }
def g27 : VG := [(3, [11, 19, 38]), (9, [31]), (10, [7, 33, 36])]
def a27 : FAnn := { pm := [.ro, .ro, .ro], rt := g27.un, regs := [(0, { keep := some [1, 2, 3, 6] }), (1, { md := [(1, .cp)], keep := some [1, 2, 3, 6, 17] }), (2, { keep := some [6, 7, 10] }), (3, { md := [(1, .cp)], keep := some [1, 2, 3, 6] }), (4, { keep := some [1, 3, 6, 21, 22, 23] }), (5, { keep := some [1, 3, 6, 21, 22, 23, 24] }), (6, { keep := some [1, 3, 6, 8, 9, 21, 22, 23] }), (7, { keep := some [1, 3, 6, 9, 21, 22, 23, 30] }), (8, { keep := some [1, 3, 6, 10, 21, 22, 23] }), (9, { keep := some [1, 3, 6, 10, 21, 22, 23, 34] }), (10, { keep := some [6, 7, 10] }), (11, { keep := some [1, 3, 6, 21, 22, 23] }), (12, { keep := some [6, 7, 10] })] }
def g28 : VG := []
def a28 : FAnn := { pm := [.ro], rt := g28.un, regs := [(0, { keep := some [0] }), (1, { keep := some [2] })] }
def g29 : VG := [(1, [5, 6, 11, 12, 17, 18, 23, 24, 26, 31, 32, 37, 38, 40, 41, 43, 44, 50, 51, 53, 54])]
def a29 : FAnn := { pm := [.ro], rt := g29.un, regs := [(0, { keep := some [1] }), (1, { md := [(3, .cp)], keep := some [1, 15] }), (2, { keep := some [2] }), (3, { keep := some [1, 3] }), (4, { keep := some [1, 3, 20] }), (6, { keep := some [1, 3, 29] }), (7, { keep := some [2] }), (5, { keep := some [1, 3] }), (8, { keep := some [1, 4] }), (9, { keep := some [1, 4, 34] }), (11, { md := [(10, .cp)], keep := some [1, 4, 58], dr := [(false, [1]), (false, [1, 37]), (false, [4]), (false, [1, 38, 39]), (false, [1, 40]), (false, [1, 41]), (false, [1]), (false, [1, 43]), (false, [1, 44]), (false, [45]), (false, [42, 46]), (false, [47]), (false, [48]), (false, [1, 49]), (false, [1, 49, 50]), (false, [4, 49]), (false, [1, 49, 51, 52]), (false, [1, 49, 53]), (false, [1, 49, 54]), (false, [49, 55]), (false, [49, 56]), (false, [49, 57])], cl := [[], [0], [], [0, 1, 2], [0, 1, 2, 3], [0, 1, 2, 3, 4], [], [6], [6, 7], [6, 7, 8], [0, 1, 2, 3, 4, 5, 6, 7, 8, 9], [0, 1, 2, 3, 4, 5, 6, 7, 8, 9, 10], [0, 1, 2, 3, 4, 5, 6, 7, 8, 9, 10, 11], [0, 1, 2, 3, 4, 5, 6, 7, 8, 9, 10, 11, 12], [0, 1, 2, 3, 4, 5, 6, 7, 8, 9, 10, 11, 12, 13], [0, 1, 2, 3, 4, 5, 6, 7, 8, 9, 10, 11, 12], [0, 1, 2, 3, 4, 5, 6, 7, 8, 9, 10, 11, 12, 13, 14, 15], [0, 1, 2, 3, 4, 5, 6, 7, 8, 9, 10, 11, 12, 13, 14, 15, 16], [0, 1, 2, 3, 4, 5, 6, 7, 8, 9, 10, 11, 12, 13, 14, 15, 16, 17], [0, 1, 2, 3, 4, 5, 6, 7, 8, 9, 10, 11, 12, 13, 14, 15, 16, 17, 18], [0, 1, 2, 3, 4, 5, 6, 7, 8, 9, 10, 11, 12, 13, 14, 15, 16, 17, 18, 19], [0, 1, 2, 3, 4, 5, 6, 7, 8, 9, 10, 11, 12, 13, 14, 15, 16, 17, 18, 19, 20]] }), (12, { keep := some [2] }), (10, { keep := some [1, 4] }), (13, { keep := some [2] })] }
def g30 : VG := [(2, [8, 12, 14, 15, 20, 21, 36, 37, 42, 44, 45]), (7, [38, 40])]
def a30 : FAnn := { pm := [.ro, .ro], rt := g30.un, regs := [(0, { keep := some [1, 2, 4] }), (1, { md := [(1, .cp)], keep := some [1, 2, 4, 10] }), (2, { keep := some [4, 5] }), (3, { md := [(1, .cp)], keep := some [1, 2, 4] }), (4, { keep := some [1, 2, 4, 15, 16, 17] }), (5, { keep := some [1, 2, 4, 15, 16, 17, 18] }), (6, { keep := some [1, 2, 4, 6, 7, 15, 16, 17] }), (7, { keep := some [1, 2, 4, 7, 15, 16, 17, 35] }), (8, { keep := some [1, 2, 4, 15, 16, 17] }), (9, { keep := some [1, 2, 4, 15, 16, 17] }), (10, { keep := some [2, 4] }), (11, { keep := some [4, 5] })] }
def g31 : VG := []
def a31 : FAnn := { pm := [.ro, .ro], rt := g31.un, regs := [(0, { keep := some [0, 1] }), (1, { keep := some [0, 1, 10] }), (2, { keep := some [4] }), (3, { keep := some [0, 1, 5] }), (4, { keep := some [0, 1, 5, 14] }), (6, { keep := some [0, 1, 5, 25], dr := [(false, [0]), (false, [5]), (false, [17, 18]), (false, [19]), (false, [1]), (false, [5]), (false, [21, 22]), (false, [23]), (false, [20, 24])], cl := [[], [], [0, 1], [0, 1, 2], [], [], [4, 5], [4, 5, 6], [0, 1, 2, 3, 4, 5, 6, 7]] }), (7, { keep := some [4] }), (5, { keep := some [0, 1, 5] }), (8, { keep := some [4] })] }
def g32 : VG := [(2, [5, 6, 11, 12]), (3, [7, 8, 13, 14])]
def a32 : FAnn := { pm := [.ro, .ro], rt := g32.un, regs := [(0, { keep := some [2, 3] }), (1, { md := [(4, .cp), (5, .tk), (10, .cp)], keep := some [4] })] }
def g34 : VG := [(1, [14, 24]), (2, [28]), (4, [32]), (6, [37])]
def a34 : FAnn := { pm := [], rt := g34.un, regs := [(0, { keep := some [] }), (1, { md := [(0, .cp), (1, .tk)], keep := some [1, 2] }), (2, { md := [(0, .cp)], keep := some [1, 2, 3] }), (3, { md := [(6, .cp), (7, .tk)], keep := some [1, 2, 3, 4] }), (4, { md := [(1, .cp), (2, .tk)], keep := some [2, 3, 4, 5, 6] }), (5, { md := [(1, .cp), (5, .cp), (10, .cp)], keep := some [0] })] }
def g35 : VG := []
def a35 : FAnn := { pm := [.ro], rt := g35.un, regs := [(0, { keep := some [0, 2] }), (1, { keep := some [0, 2, 9] }), (2, { keep := some [2, 3] }), (3, { md := [(0, .cp), (3, .cp)], keep := some [2, 3] })] }
def g36 : VG := []
def a36 : FAnn := { pm := [.ro, .ro, .ro], rt := g36.un, regs := [(0, { keep := some [0, 1, 2] }), (1, { keep := some [6] })] }
def g37 : VG := [(1, [4, 5, 6, 9, 10]), (3, [8, 12, 13])]
def a37 : FAnn := { pm := [.ro], rt := g37.un, regs := [(0, { keep := some [1, 2] }), (1, { keep := some [1, 2, 3] }), (2, { md := [(2, .cp)], keep := some [1, 2, 3] }), (3, { md := [(2, .cp)], keep := some [2, 3] }), (4, { keep := some [2] })] }
def g38 : VG := [(2, [21, 23, 46, 59, 73, 82, 98, 99, 103, 104, 108, 112, 135, 150, 162, 166, 169, 172]), (3, [25, 28, 29, 33, 41, 47, 49, 50, 55, 56, 63, 64, 74, 75, 78, 79, 87, 101, 109]), (6, [32, 67, 86, 93, 134, 149, 155, 165]), (9, [143, 163]), (10, [144, 173]), (11, [138]), (12, [68, 77]), (14, [113]), (16, [123]), (20, [35, 54])]
def a38 : FAnn := { pm := [.ro, .ro], rt := g38.un, regs := [(0, { keep := some [2, 3, 4] }), (1, { md := [(1, .cp)], keep := some [2, 3, 4, 6] }), (2, { md := [(1, .cp)], keep := some [2, 3, 4, 6, 7] }), (3, { keep := some [2, 3, 4, 6, 7, 8] }), (4, { keep := some [2, 3, 4, 6, 7, 8, 9, 10] }), (5, { keep := some [2, 3, 4, 6, 7, 8, 9, 10] }), (6, { md := [(2, .cp)], keep := some [2, 3, 4, 6, 7, 8, 9, 10, 27] }), (13, { keep := some [2, 3, 4, 6, 7, 8, 9, 10, 27, 60] }), (14, { keep := some [2, 3, 4, 6, 7, 8, 9, 10, 27, 60] }), (15, { md := [(2, .cp)], keep := some [2, 3, 4, 6, 7, 8, 9, 10, 12] }), (16, { md := [(2, .cp), (3, .tk)], keep := some [2, 3, 4, 6, 7, 8, 9, 10, 11, 12] }), (17, { keep := some [2, 3, 4, 6, 7, 8, 9, 10, 11, 12, 72] }), (18, { md := [(3, .cp)], keep := some [2, 3, 4, 6, 7, 8, 9, 10, 11, 12] }), (19, { md := [(3, .cp)], keep := some [2, 4, 6, 7, 8, 9, 10, 11, 81] }), (20, { keep := some [4, 5] }), (21, { keep := some [2, 3, 4, 6, 7, 8, 9, 10, 83] }), (22, { md := [(3, .cp), (4, .tk)], keep := some [2, 3, 4, 6, 7, 8, 13, 14] }), (23, { md := [(1, .cp), (2, .tk)], keep := some [2, 3, 4, 6, 7, 8, 13, 14, 15, 16] }), (24, { keep := some [2, 3, 4, 6, 7, 8, 13, 14, 15, 16, 17, 18, 19] }), (25, { keep := some [2, 3, 4, 6, 8, 13, 14, 15, 16, 17, 18, 19, 97] }), (26, { keep := some [2, 3, 4, 6, 8, 13, 14, 15, 16, 17, 18, 19], dr := [(false, [2]), (false, [2, 98]), (false, [2, 99]), (true, [8]), (true, [17]), (true, [18, 100])], cl := [[], [0], [0, 1], [], [3], [0, 1, 2, 3, 4]] }), (27, { md := [(6, .cp)], keep := some [2, 3, 4, 6, 8, 13, 14, 15, 16, 17, 18, 19, 107] }), (28, { md := [(3, .cp)], keep := some [2, 4, 6, 8, 13, 14, 15, 16, 17, 18, 19] }), (29, { md := [(2, .cp), (12, .cp), (24, .cp)], keep := some [4, 5], dr := [(false, [2]), (false, [14]), (false, [14, 113]), (false, [8]), (false, [114, 115]), (false, [116]), (false, [13, 117]), (false, [19, 117]), (false, [117, 118, 119]), (false, [117, 120]), (false, [121]), (false, [16, 122]), (false, [16, 122, 123]), (false, [17, 122]), (false, [122, 124, 125]), (false, [122, 126]), (false, [127]), (false, [15, 128]), (false, [18, 128]), (false, [128, 129, 130]), (false, [128, 131]), (false, [132]), (false, [6, 133]), (false, [2, 133]), (false, [2, 6, 133, 134, 135]), (false, [133, 136]), (true, [2, 4, 21, 23, 46, 59, 73, 82, 98, 99, 103, 104, 108, 112, 135, 150, 162, 166, 169, 172]), (true, [5, 137])], cl := [[], [], [1], [], [1, 2, 3], [1, 2, 3, 4], [1, 2, 3, 4, 5], [1, 2, 3, 4, 5], [1, 2, 3, 4, 5, 6, 7], [1, 2, 3, 4, 5, 6, 7, 8], [1, 2, 3, 4, 5, 6, 7, 8, 9], [1, 2, 3, 4, 5, 6, 7, 8, 9, 10], [1, 2, 3, 4, 5, 6, 7, 8, 9, 10, 11], [1, 2, 3, 4, 5, 6, 7, 8, 9, 10], [1, 2, 3, 4, 5, 6, 7, 8, 9, 10, 11, 12, 13], [1, 2, 3, 4, 5, 6, 7, 8, 9, 10, 11, 12, 13, 14], [1, 2, 3, 4, 5, 6, 7, 8, 9, 10, 11, 12, 13, 14, 15], [1, 2, 3, 4, 5, 6, 7, 8, 9, 10, 11, 12, 13, 14, 15, 16], [1, 2, 3, 4, 5, 6, 7, 8, 9, 10, 11, 12, 13, 14, 15, 16], [1, 2, 3, 4, 5, 6, 7, 8, 9, 10, 11, 12, 13, 14, 15, 16, 17, 18], [1, 2, 3, 4, 5, 6, 7, 8, 9, 10, 11, 12, 13, 14, 15, 16, 17, 18, 19], [1, 2, 3, 4, 5, 6, 7, 8, 9, 10, 11, 12, 13, 14, 15, 16, 17, 18, 19, 20], [1, 2, 3, 4, 5, 6, 7, 8, 9, 10, 11, 12, 13, 14, 15, 16, 17, 18, 19, 20, 21], [1, 2, 3, 4, 5, 6, 7, 8, 9, 10, 11, 12, 13, 14, 15, 16, 17, 18, 19, 20, 21], [1, 2, 3, 4, 5, 6, 7, 8, 9, 10, 11, 12, 13, 14, 15, 16, 17, 18, 19, 20, 21, 22, 23], [1, 2, 3, 4, 5, 6, 7, 8, 9, 10, 11, 12, 13, 14, 15, 16, 17, 18, 19, 20, 21, 22, 23, 24], [0, 1, 2, 3, 4, 5, 6, 7, 8, 9, 10, 11, 12, 13, 14, 15, 16, 17, 18, 19, 20, 21, 22, 23, 24], [0, 1, 2, 3, 4, 5, 6, 7, 8, 9, 10, 11, 12, 13, 14, 15, 16, 17, 18, 19, 20, 21, 22, 23, 24, 25, 26]] }), (7, { md := [(2, .cp)], keep := some [2, 3, 4, 6, 7, 8, 9, 10, 20] }), (8, { md := [(4, .cp), (5, .tk)], keep := some [2, 3, 4, 6, 7, 8, 9, 10, 11, 20] }), (9, { keep := some [2, 3, 4, 6, 7, 8, 9, 10, 11, 20, 44] }), (10, { md := [(5, .cp), (6, .tk)], keep := some [2, 3, 4, 6, 7, 8, 9, 10, 11, 20] }), (11, { md := [(3, .cp)], keep := some [2, 4, 6, 7, 8, 9, 10, 11, 58] }), (12, { keep := some [4, 5] }), (30, { md := [(1, .cp), (7, .cp), (13, .cp), (18, .cp), (19, .cp)], keep := some [2, 4, 6, 8, 9, 10, 161] }), (31, { keep := some [4, 5] }), (32, { keep := some [2, 4, 6, 8, 10] }), (33, { md := [(2, .cp)], keep := some [2, 4, 8, 10, 168] }), (34, { keep := some [4, 5] }), (35, { keep := some [2, 4, 10, 171] }), (36, { keep := some [4, 5] }), (37, { md := [(1, .cp)], keep := some [4, 5] })] }
def g39 : VG := [(2, [8, 11, 12, 17, 18, 20, 21]), (5, [9, 30, 31, 35, 36]), (7, [29, 32])]
def a39 : FAnn := { pm := [.ro, .ro], rt := g39.un, regs := [(0, { keep := some [1, 2] }), (1, { keep := some [1, 2, 5] }), (2, { keep := some [1, 2, 5] }), (3, { keep := some [1, 2, 5, 6] }), (4, { keep := some [1, 2, 5, 6, 14] }), (6, { keep := some [1, 2, 5, 6, 7] }), (7, { keep := some [1, 2, 5, 6, 7] }), (8, { keep := some [1, 2, 5, 6] }), (5, { keep := some [1, 2, 5, 6] }), (9, { md := [(1, .cp)], keep := some [4] })] }
def g54 : VG := [(1, [6, 7, 9, 10, 14, 15, 25, 26, 28, 34, 35, 45, 46, 48, 49])]
def a54 : FAnn := { pm := [.ro], rt := g54.un, regs := [(0, { keep := some [1] }), (1, { keep := some [1, 3] }), (2, { keep := some [1, 3, 4] }), (3, { keep := some [1, 3, 4, 21] }), (5, { keep := some [1, 3, 4] }), (4, { keep := some [1, 3, 4] }), (6, { keep := some [1, 3, 5] }), (7, { keep := some [1, 3, 5, 41] }), (9, { keep := some [1, 3, 5] }), (8, { keep := some [1, 3, 5] }), (10, { keep := some [2] })] }
def g55 : VG := []
def a55 : FAnn := { pm := [.ro], rt := g55.un, regs := [(0, { keep := some [0] }), (1, { keep := some [2] })] }
def g56 : VG := [(1, [3, 4, 8, 9, 14, 15, 19, 20, 24, 25, 26])]
def a56 : FAnn := { pm := [.ro], rt := g56.un, regs := [(0, { keep := some [1] }), (1, { keep := some [1, 18] }), (2, { keep := some [2] }), (3, { md := [(2, .cp), (8, .cp)], keep := some [2] })] }
def g57 : VG := [(1, [3, 4, 6, 7])]
def a57 : FAnn := { pm := [.ro], rt := g57.un, regs := [(0, { keep := some [1, 2] }), (1, { md := [(2, .cp), (5, .cp)], keep := some [2], dr := [(false, [1]), (false, [1, 3]), (false, [1, 4]), (false, [1]), (false, [1, 6]), (false, [1, 7]), (true, [5, 8, 9]), (true, [2, 9])], cl := [[], [0], [0, 1], [], [3], [0, 1, 2, 3, 4], [0, 1, 2, 3, 4, 5], [0, 1, 2, 3, 4, 5, 6]] })] }
def g58 : VG := [(0, [7, 8, 9, 10, 11, 16, 17, 21, 22, 23, 24, 28, 29, 30, 31, 32, 33, 38, 40, 41, 42, 44, 45, 46, 59, 60, 61, 62]), (3, [12, 13, 19, 47, 48, 53, 54]), (6, [34, 36])]
def a58 : FAnn := { pm := [.io, .ro], rt := g58.un, regs := [(0, { keep := some [0, 3] }), (2, { keep := some [0, 3, 18] }), (3, { keep := some [0, 24, 25, 26] }), (4, { keep := some [0, 24, 25, 26, 27] }), (5, { keep := some [0, 6, 24, 25, 26] }), (6, { keep := some [0, 24, 25, 26], dr := [(false, [0]), (false, [0, 30]), (false, [0, 31]), (false, [0, 32]), (false, [6]), (false, [6, 34]), (false, [6]), (false, [6, 36]), (false, [0, 33, 35]), (true, [0, 7, 8, 9, 10, 11, 16, 17, 21, 22, 23, 24, 28, 29, 30, 31, 32, 33, 37, 38, 40, 41, 42, 44, 45, 46, 59, 60, 61, 62])], cl := [[], [0], [0, 1], [0, 1, 2], [], [4], [], [6], [0, 1, 2, 3, 4, 5, 6, 7], [0, 1, 2, 3, 4, 5, 6, 7, 8]] }), (7, { keep := some [0, 24, 25, 26] }), (8, { keep := some [0] }), (9, { md := [(6, .cp)], keep := some [0, 3, 43], dr := [(false, [0]), (false, [0, 44]), (false, [0, 45]), (false, [3]), (false, [3, 47]), (false, [3, 48]), (false, [0, 46, 49]), (false, [50]), (true, [43, 51])], cl := [[], [0], [0, 1], [], [3], [3, 4], [0, 1, 2, 3, 4, 5], [0, 1, 2, 3, 4, 5, 6], [0, 1, 2, 3, 4, 5, 6, 7]] }), (10, { keep := some [0, 4] }), (11, { md := [(3, .cp)], keep := some [0, 3, 52] }), (12, { keep := some [0, 4] }), (13, { keep := some [0, 3, 58] }), (14, { keep := some [0, 4] }), (1, { md := [(0, .st)], keep := some [0], dr := [(false, [0]), (false, [0]), (false, [0, 8]), (false, [0, 9]), (false, [0, 10]), (false, [3]), (false, [3, 12]), (true, [3, 12, 13, 14, 19, 47, 48, 53, 54]), (true, [0, 7, 8, 9, 10, 11, 14, 15, 16, 17, 21, 22, 23, 24, 28, 29, 30, 31, 32, 33, 38, 40, 41, 42, 44, 45, 46, 59, 60, 61, 62]), (false, [0, 7]), (false, [0, 16]), (true, [0, 7, 8, 9, 10, 11, 15, 16, 17, 21, 22, 23, 24, 28, 29, 30, 31, 32, 33, 38, 40, 41, 42, 44, 45, 46, 59, 60, 61, 62])], cl := [[], [], [1], [1, 2], [1, 2, 3], [], [5], [5, 6], [1, 2, 3, 4, 5, 6, 7], [0, 1, 2, 3, 4, 5, 6, 7, 8], [0, 1, 2, 3, 4, 5, 6, 7, 8, 9], [0, 1, 2, 3, 4, 5, 6, 7, 8, 9, 10]] }), (15, { keep := some [0, 4] })] }
def g59 : VG := []
def a59 : FAnn := { pm := [.ro, .ro], rt := g59.un, regs := [(0, { keep := some [0, 1] }), (1, { keep := some [4] })] }
def g60 : VG := []
def a60 : FAnn := { pm := [.ro, .ro], rt := g60.un, regs := [(0, { keep := some [0, 1] }), (1, { keep := some [0, 1, 10] }), (2, { keep := some [4] }), (3, { keep := some [0, 1, 5] }), (4, { keep := some [0, 1, 5, 14] }), (6, { keep := some [0, 1, 5, 25], dr := [(false, [0]), (false, [5]), (false, [17, 18]), (false, [19]), (false, [1]), (false, [5]), (false, [21, 22]), (false, [23]), (false, [20, 24])], cl := [[], [], [0, 1], [0, 1, 2], [], [], [4, 5], [4, 5, 6], [0, 1, 2, 3, 4, 5, 6, 7]] }), (7, { keep := some [4] }), (5, { keep := some [0, 1, 5] }), (8, { keep := some [4] })] }
def g12 : VG := [(3, [2, 11, 18])]
def a12 : FAnn := { pm := [.ro], rt := g12.un, regs := [(0, { keep := some [0] }), (1, { keep := some [0, 3] }), (2, { keep := some [0, 3, 4] }), (3, { keep := some [0, 3, 4, 8] }), (5, { keep := some [0, 3, 4] }), (4, { keep := some [0, 3, 4] }), (6, { keep := some [2, 3] })] }
def g65 : VG := [(3, [2, 11, 18])]
def a65 : FAnn := { pm := [.ro], rt := g65.un, regs := [(0, { keep := some [0] }), (1, { keep := some [0, 3] }), (2, { keep := some [0, 3, 4] }), (3, { keep := some [0, 3, 4, 8] }), (5, { keep := some [0, 3, 4] }), (4, { keep := some [0, 3, 4] }), (6, { keep := some [2, 3] })] }
def g66 : VG := [(3, [2, 11, 18])]
def a66 : FAnn := { pm := [.ro], rt := g66.un, regs := [(0, { keep := some [0] }), (1, { keep := some [0, 3] }), (2, { keep := some [0, 3, 4] }), (3, { keep := some [0, 3, 4, 8] }), (5, { keep := some [0, 3, 4] }), (4, { keep := some [0, 3, 4] }), (6, { keep := some [2, 3] })] }
def g67 : VG := [(2, [6, 9, 10, 29, 30, 31, 32, 34, 35, 37, 38, 40, 41, 43, 44, 45])]
def a67 : FAnn := { pm := [.ro, .ro], rt := g67.un, regs := [(0, { keep := some [1, 2, 4] }), (1, { md := [(1, .cp)], keep := some [1, 2, 4] }), (2, { keep := some [1, 2, 4, 5] }), (3, { keep := some [1, 2, 4, 5, 12] }), (5, { keep := some [1, 2, 4, 5, 28] }), (6, { keep := some [1, 2, 4, 5], dr := [(false, [2]), (false, [2, 29]), (false, [2]), (false, [2, 31]), (false, [5]), (false, [2, 32, 33]), (false, [2, 34]), (false, [2, 35]), (false, [2]), (false, [2, 37]), (false, [5]), (false, [2, 38, 39]), (false, [2, 40]), (false, [2, 41]), (false, [2, 30, 36]), (true, [2, 6, 9, 10, 29, 30, 31, 32, 34, 35, 37, 38, 40, 41, 42, 43, 44, 45])], cl := [[], [0], [], [2], [], [2, 3, 4], [2, 3, 4, 5], [2, 3, 4, 5, 6], [], [8], [], [8, 9, 10], [8, 9, 10, 11], [8, 9, 10, 11, 12], [0, 1, 2, 3, 4, 5, 6, 7, 8, 9, 10, 11, 12, 13], [0, 1, 2, 3, 4, 5, 6, 7, 8, 9, 10, 11, 12, 13, 14]] }), (4, { keep := some [1, 2, 4, 5] }), (7, { keep := some [2, 4] }), (8, { keep := some [4] })] }
def g68 : VG := []
def a68 : FAnn := { pm := [.ro, .ro], rt := g68.un, regs := [(0, { keep := some [0, 1] }), (1, { keep := some [0, 1, 10] }), (2, { keep := some [4] }), (3, { keep := some [0, 1, 5] }), (4, { keep := some [0, 1, 5, 14] }), (6, { keep := some [0, 1, 5, 25], dr := [(false, [0]), (false, [5]), (false, [17, 18]), (false, [19]), (false, [1]), (false, [5]), (false, [21, 22]), (false, [23]), (false, [20, 24])], cl := [[], [], [0, 1], [0, 1, 2], [], [], [4, 5], [4, 5, 6], [0, 1, 2, 3, 4, 5, 6, 7]] }), (7, { keep := some [4] }), (5, { keep := some [0, 1, 5] }), (8, { keep := some [4] })] }
def g69 : VG := [(1, [4, 7, 8])]
def a69 : FAnn := { pm := [.ro], rt := g69.un, regs := [(0, { keep := some [1] }), (1, { md := [(1, .cp)], keep := some [1, 6] }), (2, { keep := some [2, 3] }), (3, { keep := some [2, 3] })] }
def g70 : VG := [(2, [7, 8, 10, 13, 14, 19, 20, 22, 23, 27, 28, 30, 31])]
def a70 : FAnn := { pm := [.ro, .ro], rt := g70.un, regs := [(0, { keep := some [1, 2] }), (1, { keep := some [1, 2, 5] }), (2, { keep := some [1, 2, 5, 6] }), (3, { keep := some [1, 2, 5, 6, 16] }), (5, { keep := some [1, 2, 5, 6, 26] }), (6, { keep := some [1, 2, 5, 6] }), (4, { keep := some [1, 2, 5, 6] }), (7, { keep := some [4] })] }
def g71 : VG := [(3, [2, 11, 18])]
def a71 : FAnn := { pm := [.ro], rt := g71.un, regs := [(0, { keep := some [0] }), (1, { keep := some [0, 3] }), (2, { keep := some [0, 3, 4] }), (3, { keep := some [0, 3, 4, 8] }), (5, { keep := some [0, 3, 4] }), (4, { keep := some [0, 3, 4] }), (6, { keep := some [2, 3] })] }
def g72 : VG := [(3, [10, 32, 42, 43, 54, 55, 59, 60, 64, 65]), (9, [40, 49, 61])]
def a72 : FAnn := { pm := [.ro, .ro, .ro], rt := g72.un, regs := [(0, { keep := some [1, 2, 3, 6] }), (1, { md := [(1, .cp)], keep := some [1, 2, 3, 6] }), (2, { keep := some [1, 2, 3, 6, 8] }), (3, { keep := some [1, 2, 3, 6, 8, 24] }), (5, { keep := some [1, 2, 3, 6, 8, 31] }), (6, { md := [(2, .cp)], keep := some [1, 2, 3, 6, 8] }), (7, { keep := some [1, 2, 3, 6, 8, 9] }), (8, { md := [(6, .cp)], keep := some [1, 2, 3, 6, 8, 9, 47] }), (9, { keep := some [6, 7] }), (10, { keep := some [1, 2, 3, 6, 8, 9, 52] }), (11, { keep := some [6, 7] }), (12, { keep := some [1, 2, 3, 6, 8, 9, 57] }), (13, { keep := some [6, 7] }), (14, { keep := some [1, 2, 3, 6, 8] }), (4, { keep := some [1, 2, 3, 6, 8] }), (15, { keep := some [6, 7] })] }
def g73 : VG := []
def a73 : FAnn := { pm := [.ro, .ro], rt := g73.un, regs := [(0, { keep := some [0, 1] }), (1, { keep := some [0, 1, 10] }), (2, { keep := some [4] }), (3, { keep := some [0, 1, 5] }), (4, { keep := some [0, 1, 5, 14] }), (6, { keep := some [0, 1, 5, 25], dr := [(false, [0]), (false, [5]), (false, [17, 18]), (false, [19]), (false, [1]), (false, [5]), (false, [21, 22]), (false, [23]), (false, [20, 24])], cl := [[], [], [0, 1], [0, 1, 2], [], [], [4, 5], [4, 5, 6], [0, 1, 2, 3, 4, 5, 6, 7]] }), (7, { keep := some [4] }), (5, { keep := some [0, 1, 5] }), (8, { keep := some [4] })] }
def g74 : VG := [(1, [3])]
def a74 : FAnn := { pm := [.ro], rt := g74.un, regs := [(0, { keep := some [1] }), (1, { md := [(1, .cp)], keep := some [5] }), (2, { keep := some [2] }), (3, { keep := some [2] })] }
def g75 : VG := [(1, [5, 6, 11, 12, 14, 16, 17, 22, 23, 26])]
def a75 : FAnn := { pm := [.own], rt := g75.un, regs := [(0, { keep := some [1] }), (1, { keep := some [1, 2] }), (2, { keep := some [1, 2, 8] }), (4, { keep := some [1, 2] }), (3, { keep := some [1, 2] }), (5, { keep := some [1, 3] }), (6, { keep := some [1, 3, 19] }), (8, { keep := some [1, 3] }), (7, { keep := some [1, 3] })] }
def g88 : VG := []
def a88 : FAnn := { pm := [.ro, .ro], rt := g88.un, regs := [(0, { keep := some [0, 1] }), (1, { md := [(2, .cp)], keep := some [4] })] }
def g89 : VG := []
def a89 : FAnn := { pm := [.ro], rt := g89.un, regs := [(0, { keep := some [0] }), (1, { md := [(1, .cp)], keep := some [2] })] }
def g91 : VG := []
def a91 : FAnn := { pm := [.ro, .ro], rt := g91.un, regs := [(0, { keep := some [0, 1] }), (1, { md := [(2, .cp)], keep := some [4] })] }
def g92 : VG := [(2, [5, 10])]
def a92 : FAnn := { pm := [.ro, .ro], rt := g92.un, regs := [(0, { keep := some [1, 2] }), (1, { md := [(3, .cp), (8, .cp)], keep := some [3] })] }
def g61 : VG := [(2, [9, 10])]
def a61 : FAnn := { pm := [.ro, .ro], rt := g61.un, regs := [(0, { keep := some [1, 2] }), (1, { keep := some [4] })] }
def g90 : VG := []
def a90 : FAnn := { pm := [.ro], rt := g90.un, regs := [(0, { keep := some [0] }), (1, { keep := some [2] })] }
def g107 : VG := []
def a107 : FAnn := { pm := [.ro, .ro], rt := g107.un, regs := [(0, { keep := some [0, 1] }), (1, { keep := some [0, 1, 7, 8] }), (2, { keep := some [0, 1, 7, 8, 9] }), (3, { keep := some [0, 1, 5, 7, 8] }), (4, { keep := some [0, 1, 5, 7, 8, 16] }), (5, { keep := some [4] }), (6, { keep := some [0, 1, 7, 8] }), (7, { keep := some [4] })] }
def g108 : VG := []
def a108 : FAnn := { pm := [.ro, .ro], rt := g108.un, regs := [(0, { keep := some [0, 1] }), (1, { keep := some [0, 1, 7, 8] }), (2, { keep := some [0, 1, 7, 8, 9] }), (3, { keep := some [0, 1, 5, 7, 8] }), (4, { keep := some [0, 1, 5, 7, 8, 16] }), (5, { keep := some [4] }), (6, { keep := some [0, 1, 7, 8] }), (7, { keep := some [4] })] }

def b4 : IC := .seq (.reg [⟨some 1, none, .box (.tmp 0)⟩, ⟨some 2, none, .mov .tk (.con (.bool false))⟩] (some [1])) (.seq (.seq (.reg [⟨some 22, none, .load .cp true 4 (.tmp 1)⟩, ⟨some 23, none, .callr 25 [.tmp 22]⟩] (some [1, 23])) (.cond (.tmp 23) (.seq (.reg [⟨some 2, none, .mov .tk (.con (.bool true))⟩] (some [2])) .ret) .skip)) (.seq (.reg [⟨some 24, none, .fieldA 2 (.tmp 1)⟩, ⟨some 25, none, .load .cp false 1 (.tmp 24)⟩, ⟨some 26, none, .callr 17 [.tmp 25, .con (.int .i64 9)]⟩, ⟨some 27, none, .bin none .add (.con (.int .i64 1)) (.tmp 26)⟩, ⟨some 3, none, .mov .tk (.tmp 27)⟩] (some [1, 3])) (.seq (.seq (.reg [⟨some 4, none, .mov .tk (.con (.int .i64 0))⟩] (some [1, 3, 4])) (.block 0 (.loop (.seq (.seq (.reg [⟨some 28, none, .mov .cp (.tmp 4)⟩, ⟨some 29, none, .fieldA 3 (.tmp 1)⟩, ⟨some 30, none, .load .cp false 1 (.tmp 29)⟩, ⟨some 31, none, .len false (.tmp 30)⟩, ⟨some 32, none, .bin none .lss (.tmp 28) (.tmp 31)⟩, ⟨some 33, none, .mov .cp (.tmp 32)⟩, ⟨some 34, some (33, true), .mov .cp (.tmp 4)⟩, ⟨some 35, some (33, true), .bin none .lss (.tmp 34) (.con (.int .i64 8))⟩, ⟨some 36, none, .pick (.tmp 33) (.tmp 35) (.con (.bool false))⟩] (some [1, 3, 4, 36])) (.cond (.tmp 36) .skip (.exit 0))) (.seq (.block 1 (.seq (.reg [⟨some 39, none, .mov .cp (.tmp 3)⟩, ⟨some 40, none, .callr 26 [.tmp 39]⟩, ⟨some 5, none, .alloc [.own 9 [], .own 64 []]⟩, ⟨none, none, .store 2 (.tmp 5) (.tmp 40)⟩] (some [1, 3, 4, 5])) (.seq (.seq (.reg [⟨some 6, none, .mov .tk (.con (.int .i64 0))⟩] (some [1, 3, 4, 5, 6])) (.block 2 (.loop (.seq (.seq (.reg [⟨some 41, none, .mov .cp (.tmp 6)⟩, ⟨some 42, none, .fieldA 3 (.tmp 1)⟩, ⟨some 43, none, .load .cp false 1 (.tmp 42)⟩, ⟨some 44, none, .mov .cp (.tmp 4)⟩, ⟨some 45, none, .indexA 4 (.tmp 43) (.tmp 44)⟩, ⟨some 46, none, .fieldA 2 (.tmp 45)⟩, ⟨some 47, none, .load .cp false 1 (.tmp 46)⟩, ⟨some 48, none, .len false (.tmp 47)⟩, ⟨some 49, none, .bin none .lss (.tmp 41) (.tmp 48)⟩, ⟨some 50, none, .mov .cp (.tmp 49)⟩, ⟨some 51, some (50, true), .mov .cp (.tmp 6)⟩, ⟨some 52, some (50, true), .bin none .lss (.tmp 51) (.con (.int .i64 20))⟩, ⟨some 53, none, .pick (.tmp 50) (.tmp 52) (.con (.bool false))⟩] (some [1, 3, 4, 5, 6, 53])) (.cond (.tmp 53) .skip (.exit 2))) (.seq (.block 3 (.seq (.drw [(⟨some 57, none, .load .cp true 2 (.tmp 5)⟩, false, [5]), (⟨some 58, none, .fieldA 3 (.tmp 1)⟩, false, [1]), (⟨some 59, none, .load .cp false 1 (.tmp 58)⟩, false, [1, 58]), (⟨some 60, none, .mov .cp (.tmp 4)⟩, false, [4]), (⟨some 61, none, .indexA 4 (.tmp 59) (.tmp 60)⟩, false, [1, 59, 60]), (⟨some 62, none, .fieldA 2 (.tmp 61)⟩, false, [1, 61]), (⟨some 63, none, .load .cp false 1 (.tmp 62)⟩, false, [1, 62]), (⟨some 64, none, .mov .cp (.tmp 6)⟩, false, [6]), (⟨some 65, none, .indexA 3 (.tmp 63) (.tmp 64)⟩, false, [1, 63, 64]), (⟨some 66, none, .load .cp true 3 (.tmp 65)⟩, false, [1, 65]), (⟨some 67, none, .bslice 66 [.d (.sc (.bool false)), .d (.sc (.int .i64 0)), .d (.sc (.string (bs [])))] 1 [(0, .tmp 66)]⟩, true, [1, 22, 24, 29, 30, 42, 43, 45, 46, 47, 58, 59, 61, 62, 63, 65, 66, 67, 127, 128, 130, 131, 132]), (⟨some 68, none, .callr 27 [.tmp 57, .con (.int .i64 (-1)), .tmp 67]⟩, false, [5, 57, 67]), (⟨some 56, none, .mov .tk (.tmp 68)⟩, true, [56, 68]), (⟨some 69, none, .extract 0 (.tmp 56)⟩, true, [56, 69]), (⟨some 70, none, .extract 1 (.tmp 56)⟩, true, [56, 70]), (⟨some 7, none, .alloc [.own 9 [], .own 64 []]⟩, false, []), (⟨none, none, .store 2 (.tmp 7) (.tmp 69)⟩, true, [7, 69, 75, 79, 80, 85]), (⟨some 8, none, .mov .tk (.tmp 70)⟩, true, [8, 70, 71])] (some [1, 3, 4, 5, 6, 7, 8])) (.seq (.reg [⟨some 71, none, .mov .cp (.tmp 8)⟩, ⟨some 72, none, .callr 28 [.tmp 71]⟩, ⟨some 73, none, .bin none .eql (.tmp 72) (.con (.int .i64 0))⟩, ⟨some 74, none, .mov .cp (.tmp 73)⟩, ⟨some 75, some (74, true), .load .cp true 2 (.tmp 7)⟩, ⟨some 76, some (74, true), .callr 29 [.tmp 75]⟩, ⟨some 77, none, .pick (.tmp 74) (.tmp 76) (.con (.bool false))⟩, ⟨some 78, none, .mov .cp (.tmp 77)⟩, ⟨some 79, some (78, true), .fieldA 0 (.tmp 7)⟩, ⟨some 80, some (78, true), .load .cp false 1 (.tmp 79)⟩, ⟨some 81, some (78, true), .len false (.tmp 80)⟩, ⟨some 82, some (78, true), .mov .cp (.tmp 3)⟩, ⟨some 83, some (78, true), .bin none .eql (.tmp 81) (.tmp 82)⟩, ⟨some 84, none, .pick (.tmp 78) (.tmp 83) (.con (.bool false))⟩] (some [1, 3, 4, 5, 6, 7, 84])) (.cond (.tmp 84) (.reg [⟨some 85, none, .load .cp true 2 (.tmp 7)⟩, ⟨none, none, .store 2 (.tmp 5) (.tmp 85)⟩] (some [1, 3, 4, 5, 6])) .skip)))) (.reg [⟨some 54, none, .mov .cp (.tmp 6)⟩, ⟨some 55, none, .bin none .add (.tmp 54) (.con (.int .i64 1))⟩, ⟨some 6, none, .mov .tk (.tmp 55)⟩] (some [1, 3, 4, 5, 6]))))))) (.seq (.reg [⟨some 87, none, .load .cp true 2 (.tmp 5)⟩, ⟨some 88, none, .build true [.d (.sc (.bool false)), .d (.sc (.int .i64 0)), .d (.sc (.string (bs [])))] [(0, 1, .con (.bool true))]⟩, ⟨some 89, none, .bslice 66 [.d (.sc (.bool false)), .d (.sc (.int .i64 0)), .d (.sc (.string (bs [])))] 1 [(0, .tmp 88)]⟩, ⟨some 90, none, .callr 27 [.tmp 87, .con (.int .i64 (-1)), .tmp 89]⟩, ⟨some 86, none, .mov .tk (.tmp 90)⟩, ⟨some 91, none, .extract 0 (.tmp 86)⟩, ⟨some 92, none, .extract 1 (.tmp 86)⟩, ⟨some 9, none, .alloc [.own 9 [], .own 64 []]⟩, ⟨none, none, .store 2 (.tmp 9) (.tmp 91)⟩, ⟨some 10, none, .mov .tk (.tmp 92)⟩] (some [1, 3, 4, 5, 9, 10])) (.seq (.seq (.reg [⟨some 93, none, .mov .cp (.tmp 10)⟩, ⟨some 94, none, .callr 28 [.tmp 93]⟩, ⟨some 95, none, .bin none .neq (.tmp 94) (.con (.int .i64 0))⟩, ⟨some 96, none, .mov .cp (.tmp 95)⟩, ⟨some 97, some (96, false), .load .cp true 2 (.tmp 9)⟩, ⟨some 98, some (96, false), .callr 29 [.tmp 97]⟩, ⟨some 99, some (96, false), .un .not (.tmp 98)⟩, ⟨some 100, none, .pick (.tmp 96) (.con (.bool true)) (.tmp 99)⟩, ⟨some 101, none, .mov .cp (.tmp 100)⟩, ⟨some 102, some (101, false), .fieldA 0 (.tmp 9)⟩, ⟨some 103, some (101, false), .load .cp false 1 (.tmp 102)⟩, ⟨some 104, some (101, false), .len false (.tmp 103)⟩, ⟨some 105, some (101, false), .mov .cp (.tmp 3)⟩, ⟨some 106, some (101, false), .bin none .neq (.tmp 104) (.tmp 105)⟩, ⟨some 107, none, .pick (.tmp 101) (.con (.bool true)) (.tmp 106)⟩, ⟨some 108, none, .mov .cp (.tmp 107)⟩, ⟨some 109, some (108, false), .fieldA 1 (.tmp 9)⟩, ⟨some 110, some (108, false), .load .cp false 1 (.tmp 109)⟩, ⟨some 111, some (108, false), .len false (.tmp 110)⟩, ⟨some 112, some (108, false), .bin none .neq (.tmp 111) (.con (.int .i64 0))⟩, ⟨some 113, none, .pick (.tmp 108) (.con (.bool true)) (.tmp 112)⟩] (some [1, 3, 4, 5, 9, 113])) (.cond (.tmp 113) (.seq (.reg [⟨some 2, none, .mov .tk (.con (.bool false))⟩] (some [2])) .ret) .skip)) (.seq (.reg [⟨some 115, none, .load .cp true 2 (.tmp 5)⟩, ⟨some 116, none, .callr 30 [.tmp 115, .con (.vs false [.own 3 []])]⟩, ⟨some 114, none, .mov .tk (.tmp 116)⟩, ⟨some 117, none, .extract 0 (.tmp 114)⟩, ⟨some 118, none, .extract 1 (.tmp 114)⟩, ⟨some 11, none, .alloc [.own 9 [], .own 64 []]⟩, ⟨none, none, .store 2 (.tmp 11) (.tmp 117)⟩, ⟨some 12, none, .mov .tk (.tmp 118)⟩] (some [1, 3, 4, 5, 9, 11, 12])) (.seq (.reg [⟨some 120, none, .load .cp true 2 (.tmp 5)⟩, ⟨some 121, none, .bslice 3 [.d (.sc (.int .i64 0))] 1 [(0, .con (.int .i64 1))]⟩, ⟨some 122, none, .callr 30 [.tmp 120, .tmp 121]⟩, ⟨some 119, none, .mov .tk (.tmp 122)⟩, ⟨some 123, none, .extract 0 (.tmp 119)⟩, ⟨some 124, none, .extract 1 (.tmp 119)⟩, ⟨some 13, none, .alloc [.own 9 [], .own 64 []]⟩, ⟨none, none, .store 2 (.tmp 13) (.tmp 123)⟩, ⟨some 14, none, .mov .tk (.tmp 124)⟩] (some [1, 3, 4, 5, 9, 11, 12, 13, 14])) (.seq (.drw [(⟨some 126, none, .load .cp true 2 (.tmp 9)⟩, false, [9]), (⟨some 127, none, .fieldA 3 (.tmp 1)⟩, false, [1]), (⟨some 128, none, .load .cp false 1 (.tmp 127)⟩, false, [1, 127]), (⟨some 129, none, .mov .cp (.tmp 4)⟩, false, [4]), (⟨some 130, none, .indexA 4 (.tmp 128) (.tmp 129)⟩, false, [1, 128, 129]), (⟨some 131, none, .fieldA 3 (.tmp 130)⟩, false, [1, 130]), (⟨some 132, none, .load .cp false 1 (.tmp 131)⟩, false, [1, 131]), (⟨some 133, none, .callr 30 [.tmp 126, .tmp 132]⟩, false, [1, 9, 126, 132]), (⟨some 125, none, .mov .tk (.tmp 133)⟩, true, [125, 133]), (⟨some 134, none, .extract 0 (.tmp 125)⟩, true, [125, 134]), (⟨some 135, none, .extract 1 (.tmp 125)⟩, true, [125, 135]), (⟨some 15, none, .alloc [.own 9 [], .own 64 []]⟩, false, []), (⟨none, none, .store 2 (.tmp 15) (.tmp 134)⟩, true, [15, 134, 164]), (⟨some 16, none, .mov .tk (.tmp 135)⟩, true, [16, 135, 145])] (some [1, 3, 4, 5, 9, 11, 12, 13, 14, 15, 16])) (.seq (.seq (.reg [⟨some 136, none, .mov .cp (.tmp 12)⟩, ⟨some 137, none, .callr 28 [.tmp 136]⟩, ⟨some 138, none, .bin none .neq (.tmp 137) (.con (.int .i64 0))⟩, ⟨some 139, none, .mov .cp (.tmp 138)⟩, ⟨some 140, some (139, false), .mov .cp (.tmp 14)⟩, ⟨some 141, some (139, false), .callr 28 [.tmp 140]⟩, ⟨some 142, some (139, false), .bin none .neq (.tmp 141) (.con (.int .i64 0))⟩, ⟨some 143, none, .pick (.tmp 139) (.con (.bool true)) (.tmp 142)⟩, ⟨some 144, none, .mov .cp (.tmp 143)⟩, ⟨some 145, some (144, false), .mov .cp (.tmp 16)⟩, ⟨some 146, some (144, false), .callr 28 [.tmp 145]⟩, ⟨some 147, some (144, false), .bin none .neq (.tmp 146) (.con (.int .i64 0))⟩, ⟨some 148, none, .pick (.tmp 144) (.con (.bool true)) (.tmp 147)⟩, ⟨some 149, none, .mov .cp (.tmp 148)⟩, ⟨some 150, some (149, false), .fieldA 0 (.tmp 11)⟩, ⟨some 151, some (149, false), .load .cp false 1 (.tmp 150)⟩, ⟨some 152, some (149, false), .fieldA 0 (.tmp 5)⟩, ⟨some 153, some (149, false), .load .cp false 1 (.tmp 152)⟩, ⟨some 154, some (149, false), .callr 31 [.tmp 151, .tmp 153]⟩, ⟨some 155, some (149, false), .un .not (.tmp 154)⟩, ⟨some 156, none, .pick (.tmp 149) (.con (.bool true)) (.tmp 155)⟩, ⟨some 157, none, .mov .cp (.tmp 156)⟩, ⟨some 158, some (157, false), .load .cp true 2 (.tmp 13)⟩, ⟨some 159, some (157, false), .load .cp true 2 (.tmp 9)⟩, ⟨some 160, some (157, false), .callr 32 [.tmp 158, .tmp 159]⟩, ⟨some 161, some (157, false), .un .not (.tmp 160)⟩, ⟨some 162, none, .pick (.tmp 157) (.con (.bool true)) (.tmp 161)⟩, ⟨some 163, none, .mov .cp (.tmp 162)⟩, ⟨some 164, some (163, false), .load .cp true 2 (.tmp 15)⟩, ⟨some 165, some (163, false), .load .cp true 2 (.tmp 9)⟩, ⟨some 166, some (163, false), .callr 32 [.tmp 164, .tmp 165]⟩, ⟨some 167, some (163, false), .un .not (.tmp 166)⟩, ⟨some 168, none, .pick (.tmp 163) (.con (.bool true)) (.tmp 167)⟩] (some [1, 3, 4, 5, 9, 168])) (.cond (.tmp 168) (.seq (.reg [⟨some 2, none, .mov .tk (.con (.bool false))⟩] (some [2])) .ret) .skip)) (.seq (.reg [⟨some 17, none, .mov .tk (.con (.int .i64 0))⟩] (some [1, 3, 4, 5, 9, 17])) (.block 4 (.loop (.seq (.seq (.reg [⟨some 169, none, .mov .cp (.tmp 17)⟩, ⟨some 170, none, .mov .cp (.tmp 3)⟩, ⟨some 171, none, .bin none .lss (.tmp 169) (.tmp 170)⟩] (some [1, 3, 4, 5, 9, 17, 171])) (.cond (.tmp 171) .skip (.exit 4))) (.seq (.block 5 (.seq (.reg [⟨some 175, none, .load .cp true 2 (.tmp 5)⟩, ⟨some 176, none, .mov .cp (.tmp 17)⟩, ⟨some 177, none, .callr 33 [.tmp 175, .tmp 176]⟩, ⟨some 174, none, .mov .tk (.tmp 177)⟩, ⟨some 178, none, .extract 0 (.tmp 174)⟩, ⟨some 179, none, .extract 1 (.tmp 174)⟩, ⟨some 18, none, .mov .tk (.tmp 178)⟩, ⟨some 19, none, .mov .tk (.tmp 179)⟩] (some [1, 3, 4, 5, 9, 17, 18, 19])) (.seq (.reg [⟨some 181, none, .load .cp true 2 (.tmp 9)⟩, ⟨some 182, none, .mov .cp (.tmp 17)⟩, ⟨some 183, none, .callr 33 [.tmp 181, .tmp 182]⟩, ⟨some 180, none, .mov .tk (.tmp 183)⟩, ⟨some 184, none, .extract 0 (.tmp 180)⟩, ⟨some 185, none, .extract 1 (.tmp 180)⟩, ⟨some 20, none, .mov .tk (.tmp 184)⟩, ⟨some 21, none, .mov .tk (.tmp 185)⟩] (some [1, 3, 4, 5, 9, 17, 18, 19, 20, 21])) (.seq (.reg [⟨some 186, none, .mov .cp (.tmp 19)⟩, ⟨some 187, none, .callr 28 [.tmp 186]⟩, ⟨some 188, none, .bin none .neq (.tmp 187) (.con (.int .i64 0))⟩, ⟨some 189, none, .mov .cp (.tmp 188)⟩, ⟨some 190, some (189, false), .mov .cp (.tmp 21)⟩, ⟨some 191, some (189, false), .callr 28 [.tmp 190]⟩, ⟨some 192, some (189, false), .bin none .neq (.tmp 191) (.con (.int .i64 0))⟩, ⟨some 193, none, .pick (.tmp 189) (.con (.bool true)) (.tmp 192)⟩, ⟨some 194, none, .mov .cp (.tmp 193)⟩, ⟨some 195, some (194, false), .mov .cp (.tmp 18)⟩, ⟨some 196, some (194, false), .mov .cp (.tmp 20)⟩, ⟨some 197, some (194, false), .bin none .neq (.tmp 195) (.tmp 196)⟩, ⟨some 198, none, .pick (.tmp 194) (.con (.bool true)) (.tmp 197)⟩, ⟨some 199, none, .mov .cp (.tmp 198)⟩, ⟨some 200, some (199, false), .mov .cp (.tmp 18)⟩, ⟨some 201, some (199, false), .fieldA 0 (.tmp 9)⟩, ⟨some 202, some (199, false), .load .cp false 1 (.tmp 201)⟩, ⟨some 203, some (199, false), .mov .cp (.tmp 17)⟩, ⟨some 204, some (199, false), .indexA 1 (.tmp 202) (.tmp 203)⟩, ⟨some 205, some (199, false), .load .cp false 1 (.tmp 204)⟩, ⟨some 206, some (199, false), .bin none .neq (.tmp 200) (.tmp 205)⟩, ⟨some 207, none, .pick (.tmp 199) (.con (.bool true)) (.tmp 206)⟩] (some [1, 3, 4, 5, 9, 17, 207])) (.cond (.tmp 207) (.seq (.reg [⟨some 2, none, .mov .tk (.con (.bool false))⟩] (some [2])) .ret) .skip))))) (.reg [⟨some 172, none, .mov .cp (.tmp 17)⟩, ⟨some 173, none, .bin none .add (.tmp 172) (.con (.int .i64 1))⟩, ⟨some 17, none, .mov .tk (.tmp 173)⟩] (some [1, 3, 4, 5, 9, 17])))))))))))))))) (.reg [⟨some 37, none, .mov .cp (.tmp 4)⟩, ⟨some 38, none, .bin none .add (.tmp 37) (.con (.int .i64 1))⟩, ⟨some 4, none, .mov .tk (.tmp 38)⟩] (some [1, 3, 4]))))))) (.seq (.reg [⟨some 208, none, .callr 34 []⟩, ⟨some 2, none, .mov .tk (.tmp 208)⟩] (some [2])) .ret))))
def pf4 : PFunc := ⟨1, [.ro], g4.un, [.tmp 2], b4⟩
theorem pe4 : prepF Go.Proofs.Try.prog a4 Go.Proofs.Try.f4 = some pf4 := by kernel_rfl
def b5 : IC := .seq (.reg [⟨some 1, none, .box (.tmp 0)⟩, ⟨some 2, none, .mov .tk (.con (.bool false))⟩] (some [1])) (.seq (.seq (.reg [⟨some 13, none, .load .cp true 4 (.tmp 1)⟩, ⟨some 14, none, .callr 25 [.tmp 13]⟩] (some [1, 14])) (.cond (.tmp 14) (.seq (.reg [⟨some 2, none, .mov .tk (.con (.bool true))⟩] (some [2])) .ret) .skip)) (.seq (.reg [⟨some 16, none, .fieldA 2 (.tmp 1)⟩, ⟨some 17, none, .load .cp false 1 (.tmp 16)⟩, ⟨some 18, none, .callr 35 [.tmp 17]⟩, ⟨some 15, none, .mov .tk (.tmp 18)⟩, ⟨some 19, none, .extract 0 (.tmp 15)⟩, ⟨some 20, none, .extract 1 (.tmp 15)⟩, ⟨some 3, none, .alloc [.own 9 [], .own 64 []]⟩, ⟨none, none, .store 2 (.tmp 3) (.tmp 19)⟩, ⟨some 4, none, .mov .tk (.tmp 20)⟩] (some [1, 3, 4])) (.seq (.reg [⟨some 5, none, .mov .tk (.con (.int .i64 1))⟩] (some [1, 3, 4, 5])) (.seq (.reg [⟨some 6, none, .alloc [.own 9 [], .own 64 []]⟩] (some [1, 3, 4, 5, 6])) (.seq (.seq (.reg [⟨some 21, none, .fieldA 2 (.tmp 1)⟩, ⟨some 22, none, .load .cp false 1 (.tmp 21)⟩, ⟨some 23, none, .callr 36 [.tmp 22, .con (.int .i64 1), .con (.int .i64 512)]⟩] (some [1, 3, 4, 5, 6, 23])) (.cond (.tmp 23) (.reg [⟨some 24, none, .fieldA 2 (.tmp 1)⟩, ⟨some 25, none, .load .cp false 1 (.tmp 24)⟩, ⟨some 26, none, .callr 26 [.tmp 25]⟩, ⟨some 5, none, .mov .tk (.con (.int .i64 0))⟩, ⟨none, none, .store 2 (.tmp 6) (.tmp 26)⟩] (some [1, 3, 4, 5, 6])) .skip)) (.seq (.seq (.reg [⟨some 27, none, .mov .cp (.tmp 4)⟩, ⟨some 28, none, .callr 28 [.tmp 27]⟩, ⟨some 29, none, .mov .cp (.tmp 5)⟩, ⟨some 30, none, .bin none .neq (.tmp 28) (.tmp 29)⟩, ⟨some 31, none, .mov .cp (.tmp 30)⟩, ⟨some 32, some (31, false), .load .cp true 2 (.tmp 3)⟩, ⟨some 33, some (31, false), .load .cp true 2 (.tmp 6)⟩, ⟨some 34, some (31, false), .callr 32 [.tmp 32, .tmp 33]⟩, ⟨some 35, some (31, false), .un .not (.tmp 34)⟩, ⟨some 36, none, .pick (.tmp 31) (.con (.bool true)) (.tmp 35)⟩] (some [1, 36])) (.cond (.tmp 36) (.seq (.reg [⟨some 2, none, .mov .tk (.con (.bool false))⟩] (some [2])) .ret) .skip)) (.seq (.drw [(⟨some 37, none, .fieldA 0 (.tmp 1)⟩, false, [1]), (⟨some 38, none, .load .cp true 2 (.tmp 37)⟩, false, [1, 37]), (⟨some 39, none, .fieldA 2 (.tmp 1)⟩, false, [1]), (⟨some 40, none, .load .cp false 1 (.tmp 39)⟩, false, [1, 39]), (⟨some 41, none, .callr 17 [.tmp 40, .con (.int .i64 9)]⟩, false, [40]), (⟨some 42, none, .bin none .add (.con (.int .i64 1)) (.tmp 41)⟩, false, [41]), (⟨some 43, none, .callr 26 [.tmp 42]⟩, false, [42]), (⟨some 44, none, .bslice 52 [.own 9 [], .own 64 []] 2 [(0, .tmp 38), (1, .tmp 43)]⟩, true, [1, 13, 16, 21, 24, 37, 38, 39, 43, 44, 55, 56, 67, 68, 70, 71]), (⟨some 7, none, .mov .tk (.tmp 44)⟩, true, [7, 44, 49, 51, 52])] (some [1, 7])) (.seq (.seq (.reg [⟨some 8, none, .mov .tk (.con (.int .i64 0))⟩] (some [1, 7, 8])) (.block 0 (.loop (.seq (.seq (.reg [⟨some 45, none, .mov .cp (.tmp 8)⟩, ⟨some 46, none, .bin none .lss (.tmp 45) (.con (.int .i64 2))⟩] (some [1, 7, 8, 46])) (.cond (.tmp 46) .skip (.exit 0))) (.seq (.block 1 (.seq (.reg [⟨some 49, none, .mov .cp (.tmp 7)⟩, ⟨some 50, none, .mov .cp (.tmp 8)⟩, ⟨some 51, none, .indexA 2 (.tmp 49) (.tmp 50)⟩, ⟨some 52, none, .load .cp true 2 (.tmp 51)⟩, ⟨some 53, none, .callr 37 [.tmp 52]⟩, ⟨some 9, none, .alloc [.own 9 [], .own 64 []]⟩, ⟨none, none, .store 2 (.tmp 9) (.tmp 53)⟩] (some [1, 7, 8, 9])) (.seq (.reg [⟨some 10, none, .mov .tk (.con (.int .i64 0))⟩] (some [1, 7, 8, 9, 10])) (.block 2 (.loop (.seq (.seq (.reg [⟨some 54, none, .mov .cp (.tmp 10)⟩, ⟨some 55, none, .fieldA 3 (.tmp 1)⟩, ⟨some 56, none, .load .cp false 1 (.tmp 55)⟩, ⟨some 57, none, .len false (.tmp 56)⟩, ⟨some 58, none, .bin none .lss (.tmp 54) (.tmp 57)⟩, ⟨some 59, none, .mov .cp (.tmp 58)⟩, ⟨some 60, some (59, true), .mov .cp (.tmp 10)⟩, ⟨some 61, some (59, true), .bin none .lss (.tmp 60) (.con (.int .i64 12))⟩, ⟨some 62, none, .pick (.tmp 59) (.tmp 61) (.con (.bool false))⟩] (some [1, 7, 8, 9, 10, 62])) (.cond (.tmp 62) .skip (.exit 2))) (.seq (.block 3 (.seq (.drw [(⟨some 66, none, .load .fz true 2 (.tmp 9)⟩, true, [9, 66]), (⟨some 67, none, .fieldA 3 (.tmp 1)⟩, false, [1]), (⟨some 68, none, .load .cp false 1 (.tmp 67)⟩, false, [1, 67]), (⟨some 69, none, .mov .cp (.tmp 10)⟩, false, [10]), (⟨some 70, none, .indexA 4 (.tmp 68) (.tmp 69)⟩, false, [1, 68, 69]), (⟨some 71, none, .load .cp true 4 (.tmp 70)⟩, false, [1, 70]), (⟨some 72, none, .callr 38 [.tmp 66, .tmp 71]⟩, false, [1, 9, 66, 71]), (⟨some 65, none, .mov .tk (.tmp 72)⟩, true, [65, 72]), (⟨some 73, none, .extract 0 (.tmp 65)⟩, true, [65, 73]), (⟨some 74, none, .extract 1 (.tmp 65)⟩, true, [65, 74]), (⟨some 11, none, .alloc [.own 9 [], .own 64 []]⟩, false, []), (⟨none, none, .store 2 (.tmp 11) (.tmp 73)⟩, true, [11, 73, 77]), (⟨some 12, none, .mov .tk (.tmp 74)⟩, true, [12, 74])] (some [1, 7, 8, 9, 10, 11, 12])) (.seq (.seq (.reg [⟨some 75, none, .mov .cp (.tmp 12)⟩, ⟨some 76, none, .un .not (.tmp 75)⟩] (some [1, 7, 8, 9, 10, 11, 76])) (.cond (.tmp 76) (.seq (.reg [⟨some 2, none, .mov .tk (.con (.bool false))⟩] (some [2])) .ret) .skip)) (.reg [⟨some 77, none, .load .cp true 2 (.tmp 11)⟩, ⟨none, none, .store 2 (.tmp 9) (.tmp 77)⟩] (some [1, 7, 8, 9, 10]))))) (.reg [⟨some 63, none, .mov .cp (.tmp 10)⟩, ⟨some 64, none, .bin none .add (.tmp 63) (.con (.int .i64 1))⟩, ⟨some 10, none, .mov .tk (.tmp 64)⟩] (some [1, 7, 8, 9, 10]))))))))) (.reg [⟨some 47, none, .mov .cp (.tmp 8)⟩, ⟨some 48, none, .bin none .add (.tmp 47) (.con (.int .i64 1))⟩, ⟨some 8, none, .mov .tk (.tmp 48)⟩] (some [1, 7, 8]))))))) (.seq (.reg [⟨some 78, none, .callr 34 []⟩, ⟨some 2, none, .mov .tk (.tmp 78)⟩] (some [2])) .ret)))))))))
def pf5 : PFunc := ⟨1, [.ro], g5.un, [.tmp 2], b5⟩
theorem pe5 : prepF Go.Proofs.Try.prog a5 Go.Proofs.Try.f5 = some pf5 := by kernel_rfl
def b6 : IC := .seq (.reg [⟨some 1, none, .box (.tmp 0)⟩, ⟨some 2, none, .mov .tk (.con (.bool false))⟩] (some [1])) (.seq (.reg [⟨some 3, none, .load .cp true 4 (.tmp 1)⟩, ⟨some 4, none, .bslice 3 [.d (.sc (.int .i64 0))] 3 [(0, .con (.int .i64 0)), (1, .con (.int .i64 6)), (2, .con (.int .i64 1))]⟩, ⟨some 5, none, .callr 39 [.tmp 3, .tmp 4]⟩, ⟨some 2, none, .mov .tk (.tmp 5)⟩] (some [2])) .ret)
def pf6 : PFunc := ⟨1, [.ro], g6.un, [.tmp 2], b6⟩
theorem pe6 : prepF Go.Proofs.Try.prog a6 Go.Proofs.Try.f6 = some pf6 := by kernel_rfl
def b7 : IC := .seq (.reg [⟨some 1, none, .box (.tmp 0)⟩, ⟨some 2, none, .mov .tk (.con (.bool false))⟩] (some [1])) (.seq (.reg [⟨some 3, none, .load .cp true 4 (.tmp 1)⟩, ⟨some 4, none, .bslice 3 [.d (.sc (.int .i64 0))] 5 [(0, .con (.int .i64 0)), (1, .con (.int .i64 4)), (2, .con (.int .i64 6)), (3, .con (.int .i64 0)), (4, .con (.int .i64 5))]⟩, ⟨some 5, none, .callr 39 [.tmp 3, .tmp 4]⟩, ⟨some 2, none, .mov .tk (.tmp 5)⟩] (some [2])) .ret)
def pf7 : PFunc := ⟨1, [.ro], g7.un, [.tmp 2], b7⟩
theorem pe7 : prepF Go.Proofs.Try.prog a7 Go.Proofs.Try.f7 = some pf7 := by kernel_rfl
def b17 : IC := .seq (.reg [⟨some 4, none, .mov .tk (.con (.int .i64 0))⟩] (some [0, 1])) (.seq (.reg [⟨some 5, none, .mov .cp (.tmp 0)⟩, ⟨some 6, none, .conv .u64 (.tmp 5)⟩, ⟨some 7, none, .mov .cp (.tmp 1)⟩, ⟨some 8, none, .conv .u64 (.tmp 7)⟩, ⟨some 9, none, .bin none .rem (.tmp 6) (.tmp 8)⟩, ⟨some 10, none, .conv .i64 (.tmp 9)⟩, ⟨some 4, none, .mov .tk (.tmp 10)⟩] (some [4])) .ret)
def pf17 : PFunc := ⟨2, [.ro, .ro], g17.un, [.tmp 4], b17⟩
theorem pe17 : prepF Go.Proofs.Try.prog a17 Go.Proofs.Try.f17 = some pf17 := by kernel_rfl
def b25 : IC := .seq (.reg [⟨some 1, none, .box (.tmp 0)⟩, ⟨some 2, none, .mov .tk (.con (.bool false))⟩] (some [1])) (.seq (.drw [(⟨some 6, none, .fieldA 0 (.tmp 1)⟩, false, [1]), (⟨some 7, none, .load .cp true 2 (.tmp 6)⟩, false, [1, 6]), (⟨some 8, none, .callr 54 [.tmp 7]⟩, false, [1, 7]), (⟨some 9, none, .fieldA 3 (.tmp 1)⟩, false, [1]), (⟨some 10, none, .load .cp false 1 (.tmp 9)⟩, false, [1, 9]), (⟨some 11, none, .len false (.tmp 10)⟩, false, [1, 10]), (⟨some 12, none, .bin none .add (.tmp 8) (.tmp 11)⟩, false, [8, 11]), (⟨some 3, none, .mov .tk (.tmp 12)⟩, true, [3, 12])] (some [1, 3])) (.seq (.seq (.reg [⟨some 4, none, .mov .tk (.con (.int .i64 0))⟩] (some [1, 3, 4])) (.block 0 (.loop (.seq (.seq (.reg [⟨some 13, none, .mov .cp (.tmp 4)⟩, ⟨some 14, none, .fieldA 3 (.tmp 1)⟩, ⟨some 15, none, .load .cp false 1 (.tmp 14)⟩, ⟨some 16, none, .len false (.tmp 15)⟩, ⟨some 17, none, .bin none .lss (.tmp 13) (.tmp 16)⟩, ⟨some 18, none, .mov .cp (.tmp 17)⟩, ⟨some 19, some (18, true), .mov .cp (.tmp 3)⟩, ⟨some 20, some (18, true), .bin none .lss (.tmp 19) (.con (.int .i64 1048576))⟩, ⟨some 21, none, .pick (.tmp 18) (.tmp 20) (.con (.bool false))⟩] (some [1, 3, 4, 21])) (.cond (.tmp 21) .skip (.exit 0))) (.seq (.block 1 (.seq (.drw [(⟨some 24, none, .mov .cp (.tmp 3)⟩, false, [3]), (⟨some 25, none, .fieldA 3 (.tmp 1)⟩, false, [1]), (⟨some 26, none, .load .cp false 1 (.tmp 25)⟩, false, [1, 25]), (⟨some 27, none, .mov .cp (.tmp 4)⟩, false, [4]), (⟨some 28, none, .indexA 4 (.tmp 26) (.tmp 27)⟩, false, [1, 26, 27]), (⟨some 29, none, .fieldA 3 (.tmp 28)⟩, false, [1, 28]), (⟨some 30, none, .load .cp false 1 (.tmp 29)⟩, false, [1, 29]), (⟨some 31, none, .len false (.tmp 30)⟩, false, [1, 30]), (⟨some 32, none, .bin none .add (.tmp 24) (.tmp 31)⟩, false, [24, 31]), (⟨some 33, none, .fieldA 3 (.tmp 1)⟩, false, [1]), (⟨some 34, none, .load .cp false 1 (.tmp 33)⟩, false, [1, 33]), (⟨some 35, none, .mov .cp (.tmp 4)⟩, false, [4]), (⟨some 36, none, .indexA 4 (.tmp 34) (.tmp 35)⟩, false, [1, 34, 35]), (⟨some 37, none, .fieldA 2 (.tmp 36)⟩, false, [1, 36]), (⟨some 38, none, .load .cp false 1 (.tmp 37)⟩, false, [1, 37]), (⟨some 39, none, .len false (.tmp 38)⟩, false, [1, 38]), (⟨some 40, none, .bin none .add (.tmp 32) (.tmp 39)⟩, false, [32, 39]), (⟨some 3, none, .mov .tk (.tmp 40)⟩, true, [3, 40])] (some [1, 3, 4])) (.seq (.reg [⟨some 5, none, .mov .tk (.con (.int .i64 0))⟩] (some [1, 3, 4, 5])) (.block 2 (.loop (.seq (.seq (.reg [⟨some 41, none, .mov .cp (.tmp 5)⟩, ⟨some 42, none, .fieldA 3 (.tmp 1)⟩, ⟨some 43, none, .load .cp false 1 (.tmp 42)⟩, ⟨some 44, none, .mov .cp (.tmp 4)⟩, ⟨some 45, none, .indexA 4 (.tmp 43) (.tmp 44)⟩, ⟨some 46, none, .fieldA 2 (.tmp 45)⟩, ⟨some 47, none, .load .cp false 1 (.tmp 46)⟩, ⟨some 48, none, .len false (.tmp 47)⟩, ⟨some 49, none, .bin none .lss (.tmp 41) (.tmp 48)⟩, ⟨some 50, none, .mov .cp (.tmp 49)⟩, ⟨some 51, some (50, true), .mov .cp (.tmp 3)⟩, ⟨some 52, some (50, true), .bin none .lss (.tmp 51) (.con (.int .i64 1048576))⟩, ⟨some 53, none, .pick (.tmp 50) (.tmp 52) (.con (.bool false))⟩] (some [1, 3, 4, 5, 53])) (.cond (.tmp 53) .skip (.exit 2))) (.seq (.block 3 (.reg [⟨some 56, none, .mov .cp (.tmp 3)⟩, ⟨some 57, none, .fieldA 3 (.tmp 1)⟩, ⟨some 58, none, .load .cp false 1 (.tmp 57)⟩, ⟨some 59, none, .mov .cp (.tmp 4)⟩, ⟨some 60, none, .indexA 4 (.tmp 58) (.tmp 59)⟩, ⟨some 61, none, .fieldA 2 (.tmp 60)⟩, ⟨some 62, none, .load .cp false 1 (.tmp 61)⟩, ⟨some 63, none, .mov .cp (.tmp 5)⟩, ⟨some 64, none, .indexA 3 (.tmp 62) (.tmp 63)⟩, ⟨some 65, none, .fieldA 1 (.tmp 64)⟩, ⟨some 66, none, .fieldA 1 (.tmp 65)⟩, ⟨some 67, none, .load .cp false 1 (.tmp 66)⟩, ⟨some 68, none, .len true (.tmp 67)⟩, ⟨some 69, none, .bin none .quo (.tmp 68) (.con (.int .i64 32))⟩, ⟨some 70, none, .bin none .add (.tmp 56) (.tmp 69)⟩, ⟨some 3, none, .mov .tk (.tmp 70)⟩] (some [1, 3, 4, 5]))) (.reg [⟨some 54, none, .mov .cp (.tmp 5)⟩, ⟨some 55, none, .bin none .add (.tmp 54) (.con (.int .i64 1))⟩, ⟨some 5, none, .mov .tk (.tmp 55)⟩] (some [1, 3, 4, 5]))))))))) (.reg [⟨some 22, none, .mov .cp (.tmp 4)⟩, ⟨some 23, none, .bin none .add (.tmp 22) (.con (.int .i64 1))⟩, ⟨some 4, none, .mov .tk (.tmp 23)⟩] (some [1, 3, 4]))))))) (.seq (.reg [⟨some 71, none, .mov .cp (.tmp 3)⟩, ⟨some 72, none, .bin none .gtr (.tmp 71) (.con (.int .i64 1500))⟩, ⟨some 2, none, .mov .tk (.tmp 72)⟩] (some [2])) .ret)))
def pf25 : PFunc := ⟨1, [.ro], g25.un, [.tmp 2], b25⟩
theorem pe25 : prepF Go.Proofs.Try.prog a25 Go.Proofs.Try.f25 = some pf25 := by kernel_rfl
def b26 : IC := .seq (.reg [⟨some 2, none, .alloc [.own 9 [], .own 64 []]⟩] (some [0, 2])) (.seq (.reg [⟨some 3, none, .alloc [.own 9 [], .own 64 []]⟩] (some [0, 2, 3])) (.seq (.seq (.reg [⟨some 4, none, .mov .tk (.con (.int .i64 0))⟩] (some [0, 2, 3, 4])) (.block 0 (.loop (.seq (.seq (.reg [⟨some 5, none, .mov .cp (.tmp 4)⟩, ⟨some 6, none, .mov .cp (.tmp 0)⟩, ⟨some 7, none, .bin none .lss (.tmp 5) (.tmp 6)⟩] (some [0, 2, 3, 4, 7])) (.cond (.tmp 7) .skip (.exit 0))) (.seq (.block 1 (.drw [(⟨some 10, none, .fieldA 0 (.tmp 3)⟩, false, [3]), (⟨some 11, none, .load .cp false 1 (.tmp 10)⟩, false, [3, 10]), (⟨some 12, none, .callr 55 [.con (.int .i64 32)]⟩, false, []), (⟨some 13, none, .bslice 9 [.d (.sc (.string (bs [])))] 1 [(0, .tmp 12)]⟩, true, [12, 13]), (⟨some 14, none, .app false 9 1 16 (.tmp 11) (.tmp 13)⟩, true, [3, 10, 11, 13, 14, 15, 16]), (⟨some 15, none, .fieldA 0 (.tmp 3)⟩, false, [3]), (⟨none, none, .store 1 (.tmp 15) (.tmp 14)⟩, true, [3, 10, 11, 14, 15, 16])] (some [0, 2, 3, 4]))) (.reg [⟨some 8, none, .mov .cp (.tmp 4)⟩, ⟨some 9, none, .bin none .add (.tmp 8) (.con (.int .i64 1))⟩, ⟨some 4, none, .mov .tk (.tmp 9)⟩] (some [0, 2, 3, 4]))))))) (.seq (.reg [⟨some 16, none, .load .cp true 2 (.tmp 3)⟩, ⟨none, none, .store 2 (.tmp 2) (.tmp 16)⟩] (some [2])) .ret)))
def pf26 : PFunc := ⟨1, [.ro], g26.un, [.cell 2 true 2], b26⟩
theorem pe26 : prepF Go.Proofs.Try.prog a26 Go.Proofs.Try.f26 = some pf26 := by kernel_rfl
def b27 : IC := .seq (.reg [⟨some 3, none, .box (.tmp 0)⟩, ⟨some 6, none, .alloc [.own 9 [], .own 64 []]⟩, ⟨some 7, none, .mov .tk (.con (.int .i64 0))⟩] (some [1, 2, 3, 6])) (.seq (.seq (.reg [⟨some 11, none, .load .cp true 2 (.tmp 3)⟩, ⟨some 12, none, .callr 56 [.tmp 11]⟩, ⟨some 13, none, .un .not (.tmp 12)⟩, ⟨some 14, none, .mov .cp (.tmp 13)⟩, ⟨some 15, some (14, false), .mov .cp (.tmp 1)⟩, ⟨some 16, some (14, false), .bin none .lss (.tmp 15) (.con (.int .i64 (-1)))⟩, ⟨some 17, none, .pick (.tmp 14) (.con (.bool true)) (.tmp 16)⟩] (some [1, 2, 3, 6, 17])) (.cond (.tmp 17) (.seq (.reg [⟨some 18, none, .build true [.own 9 [], .own 64 []] []⟩, ⟨none, none, .store 2 (.tmp 6) (.tmp 18)⟩, ⟨some 7, none, .mov .tk (.con (.int .i64 1))⟩] (some [6, 7, 10])) .ret) .skip)) (.seq (.reg [⟨some 19, none, .load .cp true 2 (.tmp 3)⟩, ⟨some 20, none, .callr 57 [.tmp 19]⟩, ⟨none, none, .store 2 (.tmp 3) (.tmp 20)⟩] (some [1, 2, 3, 6])) (.seq (.seq (.reg [⟨some 21, none, .mov .cp (.tmp 2)⟩, ⟨some 22, none, .len false (.tmp 21)⟩, ⟨some 23, none, .mov .cp (.con (.int .i64 0))⟩] (some [1, 3, 6, 21, 22, 23])) (.block 0 (.loop (.seq (.reg [⟨some 24, none, .bin none .lss (.tmp 23) (.tmp 22)⟩] (some [1, 3, 6, 21, 22, 23, 24])) (.seq (.cond (.tmp 24) .skip (.exit 0)) (.seq (.block 1 (.seq (.reg [⟨some 25, none, .mov .cp (.tmp 23)⟩, ⟨some 26, none, .indexA 3 (.tmp 21) (.tmp 23)⟩, ⟨some 27, none, .load .cp true 3 (.tmp 26)⟩, ⟨some 9, none, .alloc [.d (.sc (.bool false)), .d (.sc (.int .i64 0)), .d (.sc (.string (bs [])))]⟩, ⟨some 8, none, .mov .tk (.tmp 25)⟩, ⟨none, none, .store 3 (.tmp 9) (.tmp 27)⟩] (some [1, 3, 6, 8, 9, 21, 22, 23])) (.seq (.seq (.reg [⟨some 28, none, .mov .cp (.tmp 8)⟩, ⟨some 29, none, .mov .cp (.tmp 1)⟩, ⟨some 30, none, .bin none .eql (.tmp 28) (.tmp 29)⟩] (some [1, 3, 6, 9, 21, 22, 23, 30])) (.cond (.tmp 30) (.exit 0) .skip)) (.seq (.reg [⟨some 31, none, .load .cp true 3 (.tmp 9)⟩, ⟨some 32, none, .call 58 [.tmp 3, .tmp 31]⟩, ⟨some 10, none, .mov .tk (.tmp 32)⟩] (some [1, 3, 6, 10, 21, 22, 23])) (.seq (.reg [⟨some 33, none, .mov .cp (.tmp 10)⟩, ⟨some 34, none, .bin none .neq (.tmp 33) (.con (.int .i64 0))⟩] (some [1, 3, 6, 10, 21, 22, 23, 34])) (.cond (.tmp 34) (.seq (.reg [⟨some 35, none, .build true [.own 9 [], .own 64 []] []⟩, ⟨some 36, none, .mov .cp (.tmp 10)⟩, ⟨none, none, .store 2 (.tmp 6) (.tmp 35)⟩, ⟨some 7, none, .mov .tk (.tmp 36)⟩] (some [6, 7, 10])) .ret) .skip)))))) (.reg [⟨some 37, none, .bin none .add (.tmp 23) (.con (.int .i64 1))⟩, ⟨some 23, none, .mov .cp (.tmp 37)⟩] (some [1, 3, 6, 21, 22, 23])))))))) (.seq (.reg [⟨some 38, none, .load .cp true 2 (.tmp 3)⟩, ⟨none, none, .store 2 (.tmp 6) (.tmp 38)⟩, ⟨some 7, none, .mov .tk (.con (.int .i64 0))⟩] (some [6, 7, 10])) .ret))))
def pf27 : PFunc := ⟨3, [.ro, .ro, .ro], g27.un, [.cell 6 true 2, .tmp 7], b27⟩
theorem pe27 : prepF Go.Proofs.Try.prog a27 Go.Proofs.Try.f27 = some pf27 := by kernel_rfl
def b28 : IC := .seq (.reg [⟨some 2, none, .mov .tk (.con (.int .i64 0))⟩] (some [0])) (.seq (.reg [⟨some 3, none, .mov .cp (.tmp 0)⟩, ⟨some 2, none, .mov .tk (.tmp 3)⟩] (some [2])) .ret)
def pf28 : PFunc := ⟨1, [.ro], g28.un, [.tmp 2], b28⟩
theorem pe28 : prepF Go.Proofs.Try.prog a28 Go.Proofs.Try.f28 = some pf28 := by kernel_rfl
def b29 : IC := .seq (.reg [⟨some 1, none, .box (.tmp 0)⟩, ⟨some 2, none, .mov .tk (.con (.bool false))⟩] (some [1])) (.seq (.seq (.reg [⟨some 5, none, .fieldA 0 (.tmp 1)⟩, ⟨some 6, none, .load .cp false 1 (.tmp 5)⟩, ⟨some 7, none, .len false (.tmp 6)⟩, ⟨some 8, none, .callr 36 [.tmp 7, .con (.int .i64 1), .con (.int .i64 512)]⟩, ⟨some 9, none, .un .not (.tmp 8)⟩, ⟨some 10, none, .mov .cp (.tmp 9)⟩, ⟨some 11, some (10, false), .fieldA 1 (.tmp 1)⟩, ⟨some 12, some (10, false), .load .cp false 1 (.tmp 11)⟩, ⟨some 13, some (10, false), .len false (.tmp 12)⟩, ⟨some 14, some (10, false), .bin none .gtr (.tmp 13) (.con (.int .i64 2048))⟩, ⟨some 15, none, .pick (.tmp 10) (.con (.bool true)) (.tmp 14)⟩] (some [1, 15])) (.cond (.tmp 15) (.seq (.reg [⟨some 2, none, .mov .tk (.con (.bool false))⟩] (some [2])) .ret) .skip)) (.seq (.seq (.reg [⟨some 3, none, .mov .tk (.con (.int .i64 0))⟩] (some [1, 3])) (.block 0 (.loop (.seq (.seq (.reg [⟨some 16, none, .mov .cp (.tmp 3)⟩, ⟨some 17, none, .fieldA 0 (.tmp 1)⟩, ⟨some 18, none, .load .cp false 1 (.tmp 17)⟩, ⟨some 19, none, .len false (.tmp 18)⟩, ⟨some 20, none, .bin none .lss (.tmp 16) (.tmp 19)⟩] (some [1, 3, 20])) (.cond (.tmp 20) .skip (.exit 0))) (.seq (.block 1 (.seq (.reg [⟨some 23, none, .fieldA 0 (.tmp 1)⟩, ⟨some 24, none, .load .cp false 1 (.tmp 23)⟩, ⟨some 25, none, .mov .cp (.tmp 3)⟩, ⟨some 26, none, .indexA 1 (.tmp 24) (.tmp 25)⟩, ⟨some 27, none, .load .cp false 1 (.tmp 26)⟩, ⟨some 28, none, .len true (.tmp 27)⟩, ⟨some 29, none, .bin none .neq (.tmp 28) (.con (.int .i64 32))⟩] (some [1, 3, 29])) (.cond (.tmp 29) (.seq (.reg [⟨some 2, none, .mov .tk (.con (.bool false))⟩] (some [2])) .ret) .skip))) (.reg [⟨some 21, none, .mov .cp (.tmp 3)⟩, ⟨some 22, none, .bin none .add (.tmp 21) (.con (.int .i64 1))⟩, ⟨some 3, none, .mov .tk (.tmp 22)⟩] (some [1, 3]))))))) (.seq (.seq (.reg [⟨some 4, none, .mov .tk (.con (.int .i64 0))⟩] (some [1, 4])) (.block 2 (.loop (.seq (.seq (.reg [⟨some 30, none, .mov .cp (.tmp 4)⟩, ⟨some 31, none, .fieldA 1 (.tmp 1)⟩, ⟨some 32, none, .load .cp false 1 (.tmp 31)⟩, ⟨some 33, none, .len false (.tmp 32)⟩, ⟨some 34, none, .bin none .lss (.tmp 30) (.tmp 33)⟩] (some [1, 4, 34])) (.cond (.tmp 34) .skip (.exit 2))) (.seq (.block 3 (.seq (.drw [(⟨some 37, none, .fieldA 1 (.tmp 1)⟩, false, [1]), (⟨some 38, none, .load .cp false 1 (.tmp 37)⟩, false, [1, 37]), (⟨some 39, none, .mov .cp (.tmp 4)⟩, false, [4]), (⟨some 40, none, .indexA 2 (.tmp 38) (.tmp 39)⟩, false, [1, 38, 39]), (⟨some 41, none, .fieldA 0 (.tmp 40)⟩, false, [1, 40]), (⟨some 42, none, .load .cp false 1 (.tmp 41)⟩, false, [1, 41]), (⟨some 43, none, .fieldA 0 (.tmp 1)⟩, false, [1]), (⟨some 44, none, .load .cp false 1 (.tmp 43)⟩, false, [1, 43]), (⟨some 45, none, .len false (.tmp 44)⟩, false, [1, 44]), (⟨some 46, none, .bin none .sub (.tmp 45) (.con (.int .i64 1))⟩, false, [45]), (⟨some 47, none, .callr 59 [.tmp 42, .tmp 46]⟩, false, [42, 46]), (⟨some 48, none, .un .not (.tmp 47)⟩, false, [47]), (⟨some 49, none, .mov .cp (.tmp 48)⟩, false, [48]), (⟨some 50, some (49, false), .fieldA 1 (.tmp 1)⟩, false, [1, 49]), (⟨some 51, some (49, false), .load .cp false 1 (.tmp 50)⟩, false, [1, 49, 50]), (⟨some 52, some (49, false), .mov .cp (.tmp 4)⟩, false, [4, 49]), (⟨some 53, some (49, false), .indexA 2 (.tmp 51) (.tmp 52)⟩, false, [1, 49, 51, 52]), (⟨some 54, some (49, false), .fieldA 1 (.tmp 53)⟩, false, [1, 49, 53]), (⟨some 55, some (49, false), .load .cp false 1 (.tmp 54)⟩, false, [1, 49, 54]), (⟨some 56, some (49, false), .len true (.tmp 55)⟩, false, [49, 55]), (⟨some 57, some (49, false), .bin none .neq (.tmp 56) (.con (.int .i64 32))⟩, false, [49, 56]), (⟨some 58, none, .pick (.tmp 49) (.con (.bool true)) (.tmp 57)⟩, false, [49, 57])] (some [1, 4, 58])) (.cond (.tmp 58) (.seq (.reg [⟨some 2, none, .mov .tk (.con (.bool false))⟩] (some [2])) .ret) .skip))) (.reg [⟨some 35, none, .mov .cp (.tmp 4)⟩, ⟨some 36, none, .bin none .add (.tmp 35) (.con (.int .i64 1))⟩, ⟨some 4, none, .mov .tk (.tmp 36)⟩] (some [1, 4]))))))) (.seq (.reg [⟨some 2, none, .mov .tk (.con (.bool true))⟩] (some [2])) .ret))))
def pf29 : PFunc := ⟨1, [.ro], g29.un, [.tmp 2], b29⟩
theorem pe29 : prepF Go.Proofs.Try.prog a29 Go.Proofs.Try.f29 = some pf29 := by kernel_rfl
def b30 : IC := .seq (.reg [⟨some 2, none, .box (.tmp 0)⟩, ⟨some 4, none, .alloc [.own 9 [], .own 64 []]⟩, ⟨some 5, none, .mov .tk (.con (.int .i64 0))⟩] (some [1, 2, 4])) (.seq (.seq (.reg [⟨some 8, none, .load .cp true 2 (.tmp 2)⟩, ⟨some 9, none, .callr 56 [.tmp 8]⟩, ⟨some 10, none, .un .not (.tmp 9)⟩] (some [1, 2, 4, 10])) (.cond (.tmp 10) (.seq (.reg [⟨some 11, none, .build true [.own 9 [], .own 64 []] []⟩, ⟨none, none, .store 2 (.tmp 4) (.tmp 11)⟩, ⟨some 5, none, .mov .tk (.con (.int .i64 1))⟩] (some [4, 5])) .ret) .skip)) (.seq (.reg [⟨some 12, none, .load .cp true 2 (.tmp 2)⟩, ⟨some 13, none, .callr 57 [.tmp 12]⟩, ⟨none, none, .store 2 (.tmp 2) (.tmp 13)⟩] (some [1, 2, 4])) (.seq (.seq (.reg [⟨some 14, none, .fieldA 1 (.tmp 2)⟩, ⟨some 15, none, .load .cp false 1 (.tmp 14)⟩, ⟨some 16, none, .len false (.tmp 15)⟩, ⟨some 17, none, .mov .cp (.con (.int .i64 0))⟩] (some [1, 2, 4, 15, 16, 17])) (.block 0 (.loop (.seq (.reg [⟨some 18, none, .bin none .lss (.tmp 17) (.tmp 16)⟩] (some [1, 2, 4, 15, 16, 17, 18])) (.seq (.cond (.tmp 18) .skip (.exit 0)) (.seq (.block 1 (.seq (.reg [⟨some 19, none, .mov .cp (.tmp 17)⟩, ⟨some 20, none, .indexA 2 (.tmp 15) (.tmp 17)⟩, ⟨some 21, none, .load .cp true 2 (.tmp 20)⟩, ⟨some 7, none, .alloc [.d (.sc (.int .i64 0)), .d (.sc (.string (bs [])))]⟩, ⟨some 6, none, .mov .tk (.tmp 19)⟩, ⟨none, none, .store 2 (.tmp 7) (.tmp 21)⟩] (some [1, 2, 4, 6, 7, 15, 16, 17])) (.seq (.reg [⟨some 22, none, .mov .cp (.tmp 1)⟩, ⟨some 23, none, .len false (.tmp 22)⟩, ⟨some 24, none, .bin none .gtr (.tmp 23) (.con (.int .i64 0))⟩, ⟨some 25, none, .mov .cp (.tmp 24)⟩, ⟨some 26, some (25, true), .mov .cp (.tmp 1)⟩, ⟨some 27, some (25, true), .mov .cp (.tmp 6)⟩, ⟨some 28, some (25, true), .mov .cp (.tmp 1)⟩, ⟨some 29, some (25, true), .len false (.tmp 28)⟩, ⟨some 30, some (25, true), .bin none .rem (.tmp 27) (.tmp 29)⟩, ⟨some 31, some (25, true), .indexA 1 (.tmp 26) (.tmp 30)⟩, ⟨some 32, some (25, true), .load .cp false 1 (.tmp 31)⟩, ⟨some 33, some (25, true), .bin none .and (.tmp 32) (.con (.int .i64 1))⟩, ⟨some 34, some (25, true), .bin none .eql (.tmp 33) (.con (.int .i64 1))⟩, ⟨some 35, none, .pick (.tmp 25) (.tmp 34) (.con (.bool false))⟩] (some [1, 2, 4, 7, 15, 16, 17, 35])) (.cond (.tmp 35) (.reg [⟨some 36, none, .fieldA 0 (.tmp 2)⟩, ⟨some 37, none, .load .cp false 1 (.tmp 36)⟩, ⟨some 38, none, .fieldA 0 (.tmp 7)⟩, ⟨some 39, none, .load .cp false 1 (.tmp 38)⟩, ⟨some 40, none, .fieldA 1 (.tmp 7)⟩, ⟨some 41, none, .load .cp false 1 (.tmp 40)⟩, ⟨some 42, none, .indexA 1 (.tmp 37) (.tmp 39)⟩, ⟨none, none, .store 1 (.tmp 42) (.tmp 41)⟩] (some [1, 2, 4, 15, 16, 17])) .skip)))) (.reg [⟨some 43, none, .bin none .add (.tmp 17) (.con (.int .i64 1))⟩, ⟨some 17, none, .mov .cp (.tmp 43)⟩] (some [1, 2, 4, 15, 16, 17])))))))) (.seq (.reg [⟨some 44, none, .fieldA 1 (.tmp 2)⟩, ⟨none, none, .store 1 (.tmp 44) (.con (.vs false [.own 64 []]))⟩] (some [2, 4])) (.seq (.reg [⟨some 45, none, .load .cp true 2 (.tmp 2)⟩, ⟨none, none, .store 2 (.tmp 4) (.tmp 45)⟩, ⟨some 5, none, .mov .tk (.con (.int .i64 0))⟩] (some [4, 5])) .ret)))))
def pf30 : PFunc := ⟨2, [.ro, .ro], g30.un, [.cell 4 true 2, .tmp 5], b30⟩
theorem pe30 : prepF Go.Proofs.Try.prog a30 Go.Proofs.Try.f30 = some pf30 := by kernel_rfl
def b31 : IC := .seq (.reg [⟨some 4, none, .mov .tk (.con (.bool false))⟩] (some [0, 1])) (.seq (.seq (.reg [⟨some 6, none, .mov .cp (.tmp 0)⟩, ⟨some 7, none, .len false (.tmp 6)⟩, ⟨some 8, none, .mov .cp (.tmp 1)⟩, ⟨some 9, none, .len false (.tmp 8)⟩, ⟨some 10, none, .bin none .neq (.tmp 7) (.tmp 9)⟩] (some [0, 1, 10])) (.cond (.tmp 10) (.seq (.reg [⟨some 4, none, .mov .tk (.con (.bool false))⟩] (some [4])) .ret) .skip)) (.seq (.seq (.reg [⟨some 5, none, .mov .tk (.con (.int .i64 0))⟩] (some [0, 1, 5])) (.block 0 (.loop (.seq (.seq (.reg [⟨some 11, none, .mov .cp (.tmp 5)⟩, ⟨some 12, none, .mov .cp (.tmp 0)⟩, ⟨some 13, none, .len false (.tmp 12)⟩, ⟨some 14, none, .bin none .lss (.tmp 11) (.tmp 13)⟩] (some [0, 1, 5, 14])) (.cond (.tmp 14) .skip (.exit 0))) (.seq (.block 1 (.seq (.drw [(⟨some 17, none, .mov .cp (.tmp 0)⟩, false, [0]), (⟨some 18, none, .mov .cp (.tmp 5)⟩, false, [5]), (⟨some 19, none, .indexA 1 (.tmp 17) (.tmp 18)⟩, false, [17, 18]), (⟨some 20, none, .load .cp false 1 (.tmp 19)⟩, false, [19]), (⟨some 21, none, .mov .cp (.tmp 1)⟩, false, [1]), (⟨some 22, none, .mov .cp (.tmp 5)⟩, false, [5]), (⟨some 23, none, .indexA 1 (.tmp 21) (.tmp 22)⟩, false, [21, 22]), (⟨some 24, none, .load .cp false 1 (.tmp 23)⟩, false, [23]), (⟨some 25, none, .bin none .neq (.tmp 20) (.tmp 24)⟩, false, [20, 24])] (some [0, 1, 5, 25])) (.cond (.tmp 25) (.seq (.reg [⟨some 4, none, .mov .tk (.con (.bool false))⟩] (some [4])) .ret) .skip))) (.reg [⟨some 15, none, .mov .cp (.tmp 5)⟩, ⟨some 16, none, .bin none .add (.tmp 15) (.con (.int .i64 1))⟩, ⟨some 5, none, .mov .tk (.tmp 16)⟩] (some [0, 1, 5]))))))) (.seq (.reg [⟨some 4, none, .mov .tk (.con (.bool true))⟩] (some [4])) .ret)))
def pf31 : PFunc := ⟨2, [.ro, .ro], g31.un, [.tmp 4], b31⟩
theorem pe31 : prepF Go.Proofs.Try.prog a31 Go.Proofs.Try.f31 = some pf31 := by kernel_rfl
def b32 : IC := .seq (.reg [⟨some 2, none, .box (.tmp 0)⟩, ⟨some 3, none, .box (.tmp 1)⟩, ⟨some 4, none, .mov .tk (.con (.bool false))⟩] (some [2, 3])) (.seq (.reg [⟨some 5, none, .fieldA 0 (.tmp 2)⟩, ⟨some 6, none, .load .cp false 1 (.tmp 5)⟩, ⟨some 7, none, .fieldA 0 (.tmp 3)⟩, ⟨some 8, none, .load .cp false 1 (.tmp 7)⟩, ⟨some 9, none, .callr 31 [.tmp 6, .tmp 8]⟩, ⟨some 10, none, .mov .tk (.tmp 9)⟩, ⟨some 11, some (10, true), .fieldA 1 (.tmp 2)⟩, ⟨some 12, some (10, true), .load .cp false 1 (.tmp 11)⟩, ⟨some 13, some (10, true), .fieldA 1 (.tmp 3)⟩, ⟨some 14, some (10, true), .load .cp false 1 (.tmp 13)⟩, ⟨some 15, some (10, true), .callr 60 [.tmp 12, .tmp 14]⟩, ⟨some 16, none, .pick (.tmp 10) (.tmp 15) (.con (.bool false))⟩, ⟨some 4, none, .mov .tk (.tmp 16)⟩] (some [4])) .ret)
def pf32 : PFunc := ⟨2, [.ro, .ro], g32.un, [.tmp 4], b32⟩
theorem pe32 : prepF Go.Proofs.Try.prog a32 Go.Proofs.Try.f32 = some pf32 := by kernel_rfl
def b34 : IC := .seq (.reg [⟨some 0, none, .mov .tk (.con (.bool false))⟩] (some [])) (.seq (.reg [⟨some 8, none, .callr 35 [.con (.int .i64 3)]⟩, ⟨some 7, none, .mov .tk (.tmp 8)⟩, ⟨some 9, none, .extract 0 (.tmp 7)⟩, ⟨some 10, none, .extract 1 (.tmp 7)⟩, ⟨some 1, none, .alloc [.own 9 [], .own 64 []]⟩, ⟨none, none, .store 2 (.tmp 1) (.tmp 9)⟩, ⟨some 2, none, .mov .tk (.tmp 10)⟩] (some [1, 2])) (.seq (.reg [⟨some 11, none, .callr 55 [.con (.int .i64 31)]⟩, ⟨some 12, none, .bin none .add (.con (.str (bs [120]))) (.tmp 11)⟩, ⟨some 3, none, .mov .tk (.tmp 12)⟩] (some [1, 2, 3])) (.seq (.reg [⟨some 14, none, .load .cp true 2 (.tmp 1)⟩, ⟨some 15, none, .mov .cp (.tmp 3)⟩, ⟨some 16, none, .build true [.d (.sc (.int .i64 0)), .d (.sc (.string (bs [])))] [(0, 1, .con (.int .i64 1)), (1, 1, .tmp 15)]⟩, ⟨some 17, none, .build true [.d (.sc (.bool false)), .d (.sc (.int .i64 0)), .d (.sc (.string (bs [])))] [(1, 2, .tmp 16)]⟩, ⟨some 18, none, .build true [.d (.sc (.bool false)), .d (.sc (.int .i64 0)), .d (.sc (.string (bs [])))] [(0, 1, .con (.bool true))]⟩, ⟨some 19, none, .bslice 66 [.d (.sc (.bool false)), .d (.sc (.int .i64 0)), .d (.sc (.string (bs [])))] 2 [(0, .tmp 17), (1, .tmp 18)]⟩, ⟨some 20, none, .callr 27 [.tmp 14, .con (.int .i64 (-1)), .tmp 19]⟩, ⟨some 13, none, .mov .tk (.tmp 20)⟩, ⟨some 21, none, .extract 0 (.tmp 13)⟩, ⟨some 22, none, .extract 1 (.tmp 13)⟩, ⟨none, none, .store 2 (.tmp 1) (.tmp 21)⟩, ⟨some 4, none, .mov .tk (.tmp 22)⟩] (some [1, 2, 3, 4])) (.seq (.reg [⟨some 24, none, .load .cp true 2 (.tmp 1)⟩, ⟨some 25, none, .callr 33 [.tmp 24, .con (.int .i64 1)]⟩, ⟨some 23, none, .mov .tk (.tmp 25)⟩, ⟨some 26, none, .extract 0 (.tmp 23)⟩, ⟨some 27, none, .extract 1 (.tmp 23)⟩, ⟨some 5, none, .mov .tk (.tmp 26)⟩, ⟨some 6, none, .mov .tk (.tmp 27)⟩] (some [2, 3, 4, 5, 6])) (.seq (.reg [⟨some 28, none, .mov .cp (.tmp 2)⟩, ⟨some 29, none, .callr 28 [.tmp 28]⟩, ⟨some 30, none, .bin none .eql (.tmp 29) (.con (.int .i64 0))⟩, ⟨some 31, none, .mov .cp (.tmp 30)⟩, ⟨some 32, some (31, true), .mov .cp (.tmp 4)⟩, ⟨some 33, some (31, true), .callr 28 [.tmp 32]⟩, ⟨some 34, some (31, true), .bin none .eql (.tmp 33) (.con (.int .i64 0))⟩, ⟨some 35, none, .pick (.tmp 31) (.tmp 34) (.con (.bool false))⟩, ⟨some 36, none, .mov .cp (.tmp 35)⟩, ⟨some 37, some (36, true), .mov .cp (.tmp 6)⟩, ⟨some 38, some (36, true), .callr 28 [.tmp 37]⟩, ⟨some 39, some (36, true), .bin none .eql (.tmp 38) (.con (.int .i64 0))⟩, ⟨some 40, none, .pick (.tmp 36) (.tmp 39) (.con (.bool false))⟩, ⟨some 41, none, .mov .cp (.tmp 40)⟩, ⟨some 42, some (41, true), .mov .cp (.tmp 5)⟩, ⟨some 43, some (41, true), .mov .cp (.tmp 3)⟩, ⟨some 44, some (41, true), .bin none .eql (.tmp 42) (.tmp 43)⟩, ⟨some 45, none, .pick (.tmp 41) (.tmp 44) (.con (.bool false))⟩, ⟨some 0, none, .mov .tk (.tmp 45)⟩] (some [0])) .ret)))))
def pf34 : PFunc := ⟨0, [], g34.un, [.tmp 0], b34⟩
theorem pe34 : prepF Go.Proofs.Try.prog a34 Go.Proofs.Try.f34 = some pf34 := by kernel_rfl
def b35 : IC := .seq (.reg [⟨some 2, none, .alloc [.own 9 [], .own 64 []]⟩, ⟨some 3, none, .mov .tk (.con (.int .i64 0))⟩] (some [0, 2])) (.seq (.seq (.reg [⟨some 4, none, .mov .cp (.tmp 0)⟩, ⟨some 5, none, .bin none .lss (.tmp 4) (.con (.int .i64 1))⟩, ⟨some 6, none, .mov .cp (.tmp 5)⟩, ⟨some 7, some (6, false), .mov .cp (.tmp 0)⟩, ⟨some 8, some (6, false), .bin none .gtr (.tmp 7) (.con (.int .i64 512))⟩, ⟨some 9, none, .pick (.tmp 6) (.con (.bool true)) (.tmp 8)⟩] (some [0, 2, 9])) (.cond (.tmp 9) (.seq (.reg [⟨some 10, none, .build true [.own 9 [], .own 64 []] []⟩, ⟨none, none, .store 2 (.tmp 2) (.tmp 10)⟩, ⟨some 3, none, .mov .tk (.con (.int .i64 1))⟩] (some [2, 3])) .ret) .skip)) (.seq (.reg [⟨some 11, none, .callr 64 [.con (.str (bs [0])), .con (.int .i64 32)]⟩, ⟨some 12, none, .bslice 9 [.d (.sc (.string (bs [])))] 1 [(0, .tmp 11)]⟩, ⟨some 13, none, .mov .cp (.tmp 0)⟩, ⟨some 14, none, .callr 63 [.tmp 12, .tmp 13]⟩, ⟨some 15, none, .build true [.own 9 [], .own 64 []] [(0, 1, .tmp 14)]⟩, ⟨none, none, .store 2 (.tmp 2) (.tmp 15)⟩, ⟨some 3, none, .mov .tk (.con (.int .i64 0))⟩] (some [2, 3])) .ret))
def pf35 : PFunc := ⟨1, [.ro], g35.un, [.cell 2 true 2, .tmp 3], b35⟩
theorem pe35 : prepF Go.Proofs.Try.prog a35 Go.Proofs.Try.f35 = some pf35 := by kernel_rfl
def b36 : IC := .seq (.reg [⟨some 6, none, .mov .tk (.con (.bool false))⟩] (some [0, 1, 2])) (.seq (.reg [⟨some 7, none, .mov .cp (.tmp 0)⟩, ⟨some 8, none, .mov .cp (.tmp 1)⟩, ⟨some 9, none, .bin none .geq (.tmp 7) (.tmp 8)⟩, ⟨some 10, none, .mov .cp (.tmp 9)⟩, ⟨some 11, some (10, true), .mov .cp (.tmp 0)⟩, ⟨some 12, some (10, true), .mov .cp (.tmp 2)⟩, ⟨some 13, some (10, true), .bin none .leq (.tmp 11) (.tmp 12)⟩, ⟨some 14, none, .pick (.tmp 10) (.tmp 13) (.con (.bool false))⟩, ⟨some 6, none, .mov .tk (.tmp 14)⟩] (some [6])) .ret)
def pf36 : PFunc := ⟨3, [.ro, .ro, .ro], g36.un, [.tmp 6], b36⟩
theorem pe36 : prepF Go.Proofs.Try.prog a36 Go.Proofs.Try.f36 = some pf36 := by kernel_rfl
def b37 : IC := .seq (.reg [⟨some 1, none, .box (.tmp 0)⟩, ⟨some 2, none, .alloc [.own 9 [], .own 64 []]⟩] (some [1, 2])) (.seq (.reg [⟨some 4, none, .load .cp true 2 (.tmp 1)⟩, ⟨some 3, none, .alloc [.own 9 [], .own 64 []]⟩, ⟨none, none, .store 2 (.tmp 3) (.tmp 4)⟩] (some [1, 2, 3])) (.seq (.reg [⟨some 5, none, .fieldA 0 (.tmp 1)⟩, ⟨some 6, none, .load .cp false 1 (.tmp 5)⟩, ⟨some 7, none, .callr 12 [.tmp 6]⟩, ⟨some 8, none, .fieldA 0 (.tmp 3)⟩, ⟨none, none, .store 1 (.tmp 8) (.tmp 7)⟩] (some [1, 2, 3])) (.seq (.reg [⟨some 9, none, .fieldA 1 (.tmp 1)⟩, ⟨some 10, none, .load .cp false 1 (.tmp 9)⟩, ⟨some 11, none, .callr 65 [.tmp 10]⟩, ⟨some 12, none, .fieldA 1 (.tmp 3)⟩, ⟨none, none, .store 1 (.tmp 12) (.tmp 11)⟩] (some [2, 3])) (.seq (.reg [⟨some 13, none, .load .cp true 2 (.tmp 3)⟩, ⟨none, none, .store 2 (.tmp 2) (.tmp 13)⟩] (some [2])) .ret))))
def pf37 : PFunc := ⟨1, [.ro], g37.un, [.cell 2 true 2], b37⟩
theorem pe37 : prepF Go.Proofs.Try.prog a37 Go.Proofs.Try.f37 = some pf37 := by kernel_rfl
def b38 : IC := .seq (.reg [⟨some 2, none, .box (.tmp 0)⟩, ⟨some 3, none, .box (.tmp 1)⟩, ⟨some 4, none, .alloc [.own 9 [], .own 64 []]⟩, ⟨some 5, none, .mov .tk (.con (.bool false))⟩] (some [2, 3, 4])) (.seq (.reg [⟨some 21, none, .load .cp true 2 (.tmp 2)⟩, ⟨some 22, none, .callr 37 [.tmp 21]⟩, ⟨some 6, none, .alloc [.own 9 [], .own 64 []]⟩, ⟨none, none, .store 2 (.tmp 6) (.tmp 22)⟩] (some [2, 3, 4, 6])) (.seq (.reg [⟨some 23, none, .load .cp true 2 (.tmp 2)⟩, ⟨some 24, none, .callr 29 [.tmp 23]⟩, ⟨some 7, none, .mov .tk (.tmp 24)⟩] (some [2, 3, 4, 6, 7])) (.seq (.reg [⟨some 8, none, .mov .tk (.con (.int .i64 1))⟩] (some [2, 3, 4, 6, 7, 8])) (.seq (.reg [⟨some 9, none, .alloc [.own 9 [], .own 64 []]⟩, ⟨some 10, none, .alloc [.own 9 [], .own 64 []]⟩] (some [2, 3, 4, 6, 7, 8, 9, 10])) (.seq (.reg [⟨some 11, none, .mov .tk (.con (.int .i64 0))⟩] (some [2, 3, 4, 6, 7, 8, 9, 10])) (.seq (.seq (.reg [⟨some 25, none, .fieldA 0 (.tmp 3)⟩, ⟨some 26, none, .load .cp false 1 (.tmp 25)⟩, ⟨some 27, none, .callr 17 [.tmp 26, .con (.int .i64 7)]⟩] (some [2, 3, 4, 6, 7, 8, 9, 10, 27])) (.block 0 (.seq (.seq (.reg [⟨some 61, none, .bin none .eql (.tmp 27) (.con (.int .i64 4))⟩, ⟨some 60, none, .mov .tk (.tmp 61)⟩] (some [2, 3, 4, 6, 7, 8, 9, 10, 27, 60])) (.cond (.tmp 60) .skip (.reg [⟨some 62, none, .bin none .eql (.tmp 27) (.con (.int .i64 5))⟩, ⟨some 60, none, .mov .tk (.tmp 62)⟩] (some [2, 3, 4, 6, 7, 8, 9, 10, 27, 60])))) (.cond (.tmp 60) (.seq (.reg [⟨some 63, none, .fieldA 3 (.tmp 3)⟩, ⟨some 64, none, .load .cp false 1 (.tmp 63)⟩, ⟨some 65, none, .callr 66 [.tmp 64]⟩, ⟨some 12, none, .mov .tk (.tmp 65)⟩] (some [2, 3, 4, 6, 7, 8, 9, 10, 12])) (.seq (.reg [⟨some 67, none, .load .cp true 2 (.tmp 6)⟩, ⟨some 68, none, .mov .cp (.tmp 12)⟩, ⟨some 69, none, .callr 30 [.tmp 67, .tmp 68]⟩, ⟨some 66, none, .mov .tk (.tmp 69)⟩, ⟨some 70, none, .extract 0 (.tmp 66)⟩, ⟨some 71, none, .extract 1 (.tmp 66)⟩, ⟨none, none, .store 2 (.tmp 9) (.tmp 70)⟩, ⟨some 11, none, .mov .tk (.tmp 71)⟩] (some [2, 3, 4, 6, 7, 8, 9, 10, 11, 12])) (.seq (.seq (.reg [⟨some 72, none, .mov .cp (.tmp 7)⟩] (some [2, 3, 4, 6, 7, 8, 9, 10, 11, 12, 72])) (.cond (.tmp 72) (.reg [⟨some 73, none, .load .cp true 2 (.tmp 2)⟩, ⟨some 74, none, .fieldA 3 (.tmp 3)⟩, ⟨some 75, none, .load .cp false 1 (.tmp 74)⟩, ⟨some 76, none, .callr 67 [.tmp 73, .tmp 75]⟩, ⟨some 8, none, .mov .tk (.con (.int .i64 0))⟩, ⟨none, none, .store 2 (.tmp 10) (.tmp 76)⟩] (some [2, 3, 4, 6, 7, 8, 9, 10, 11, 12])) .skip)) (.seq (.reg [⟨some 77, none, .mov .cp (.tmp 12)⟩, ⟨some 78, none, .fieldA 3 (.tmp 3)⟩, ⟨some 79, none, .load .cp false 1 (.tmp 78)⟩, ⟨some 80, none, .callr 68 [.tmp 77, .tmp 79]⟩, ⟨some 81, none, .un .not (.tmp 80)⟩] (some [2, 4, 6, 7, 8, 9, 10, 11, 81])) (.cond (.tmp 81) (.seq (.reg [⟨some 82, none, .load .cp true 2 (.tmp 2)⟩, ⟨none, none, .store 2 (.tmp 4) (.tmp 82)⟩, ⟨some 5, none, .mov .tk (.con (.bool false))⟩] (some [4, 5])) .ret) .skip))))) (.seq (.reg [⟨some 84, none, .bin none .eql (.tmp 27) (.con (.int .i64 6))⟩, ⟨some 83, none, .mov .tk (.tmp 84)⟩] (some [2, 3, 4, 6, 7, 8, 9, 10, 83])) (.cond (.tmp 83) (.seq (.reg [⟨some 86, none, .load .cp true 2 (.tmp 6)⟩, ⟨some 87, none, .fieldA 1 (.tmp 3)⟩, ⟨some 88, none, .load .cp false 1 (.tmp 87)⟩, ⟨some 89, none, .callr 33 [.tmp 86, .tmp 88]⟩, ⟨some 85, none, .mov .tk (.tmp 89)⟩, ⟨some 90, none, .extract 0 (.tmp 85)⟩, ⟨some 91, none, .extract 1 (.tmp 85)⟩, ⟨some 13, none, .mov .tk (.tmp 90)⟩, ⟨some 14, none, .mov .tk (.tmp 91)⟩] (some [2, 3, 4, 6, 7, 8, 13, 14])) (.seq (.reg [⟨some 93, none, .load .cp true 2 (.tmp 6)⟩, ⟨some 94, none, .callr 69 [.tmp 93]⟩, ⟨some 92, none, .mov .tk (.tmp 94)⟩, ⟨some 95, none, .extract 0 (.tmp 92)⟩, ⟨some 96, none, .extract 1 (.tmp 92)⟩, ⟨some 15, none, .mov .tk (.tmp 95)⟩, ⟨some 16, none, .mov .tk (.tmp 96)⟩] (some [2, 3, 4, 6, 7, 8, 13, 14, 15, 16])) (.seq (.reg [⟨some 17, none, .mov .tk (.con (.int .i64 1))⟩, ⟨some 18, none, .mov .tk (.con (.int .i64 0))⟩, ⟨some 19, none, .mov .tk (.con (.str (bs [])))⟩] (some [2, 3, 4, 6, 7, 8, 13, 14, 15, 16, 17, 18, 19])) (.seq (.seq (.reg [⟨some 97, none, .mov .cp (.tmp 7)⟩] (some [2, 3, 4, 6, 8, 13, 14, 15, 16, 17, 18, 19, 97])) (.cond (.tmp 97) (.seq (.drw [(⟨some 98, none, .fieldA 1 (.tmp 2)⟩, false, [2]), (⟨some 99, none, .load .cp false 1 (.tmp 98)⟩, false, [2, 98]), (⟨some 100, none, .len false (.tmp 99)⟩, false, [2, 99]), (⟨some 8, none, .mov .tk (.con (.int .i64 3))⟩, true, [8]), (⟨some 17, none, .mov .tk (.con (.int .i64 0))⟩, true, [17]), (⟨some 18, none, .mov .tk (.tmp 100)⟩, true, [18, 100])] (some [2, 3, 4, 6, 8, 13, 14, 15, 16, 17, 18, 19])) (.seq (.reg [⟨some 101, none, .fieldA 1 (.tmp 3)⟩, ⟨some 102, none, .load .cp false 1 (.tmp 101)⟩, ⟨some 103, none, .fieldA 0 (.tmp 2)⟩, ⟨some 104, none, .load .cp false 1 (.tmp 103)⟩, ⟨some 105, none, .len false (.tmp 104)⟩, ⟨some 106, none, .bin none .sub (.tmp 105) (.con (.int .i64 1))⟩, ⟨some 107, none, .callr 59 [.tmp 102, .tmp 106]⟩] (some [2, 3, 4, 6, 8, 13, 14, 15, 16, 17, 18, 19, 107])) (.cond (.tmp 107) (.reg [⟨some 108, none, .load .cp true 2 (.tmp 2)⟩, ⟨some 109, none, .fieldA 1 (.tmp 3)⟩, ⟨some 110, none, .load .cp false 1 (.tmp 109)⟩, ⟨some 111, none, .callr 70 [.tmp 108, .tmp 110]⟩, ⟨some 8, none, .mov .tk (.con (.int .i64 0))⟩, ⟨some 19, none, .mov .tk (.tmp 111)⟩] (some [2, 4, 6, 8, 13, 14, 15, 16, 17, 18, 19])) .skip))) .skip)) (.seq (.drw [(⟨some 112, none, .load .cp true 2 (.tmp 2)⟩, false, [2]), (⟨some 113, none, .mov .cp (.tmp 14)⟩, false, [14]), (⟨some 114, none, .callr 28 [.tmp 113]⟩, false, [14, 113]), (⟨some 115, none, .mov .cp (.tmp 8)⟩, false, [8]), (⟨some 116, none, .bin none .eql (.tmp 114) (.tmp 115)⟩, false, [114, 115]), (⟨some 117, none, .mov .cp (.tmp 116)⟩, false, [116]), (⟨some 118, some (117, true), .mov .cp (.tmp 13)⟩, false, [13, 117]), (⟨some 119, some (117, true), .mov .cp (.tmp 19)⟩, false, [19, 117]), (⟨some 120, some (117, true), .bin none .eql (.tmp 118) (.tmp 119)⟩, false, [117, 118, 119]), (⟨some 121, none, .pick (.tmp 117) (.tmp 120) (.con (.bool false))⟩, false, [117, 120]), (⟨some 122, none, .mov .cp (.tmp 121)⟩, false, [121]), (⟨some 123, some (122, true), .mov .cp (.tmp 16)⟩, false, [16, 122]), (⟨some 124, some (122, true), .callr 28 [.tmp 123]⟩, false, [16, 122, 123]), (⟨some 125, some (122, true), .mov .cp (.tmp 17)⟩, false, [17, 122]), (⟨some 126, some (122, true), .bin none .eql (.tmp 124) (.tmp 125)⟩, false, [122, 124, 125]), (⟨some 127, none, .pick (.tmp 122) (.tmp 126) (.con (.bool false))⟩, false, [122, 126]), (⟨some 128, none, .mov .cp (.tmp 127)⟩, false, [127]), (⟨some 129, some (128, true), .mov .cp (.tmp 15)⟩, false, [15, 128]), (⟨some 130, some (128, true), .mov .cp (.tmp 18)⟩, false, [18, 128]), (⟨some 131, some (128, true), .bin none .eql (.tmp 129) (.tmp 130)⟩, false, [128, 129, 130]), (⟨some 132, none, .pick (.tmp 128) (.tmp 131) (.con (.bool false))⟩, false, [128, 131]), (⟨some 133, none, .mov .cp (.tmp 132)⟩, false, [132]), (⟨some 134, some (133, true), .load .cp true 2 (.tmp 6)⟩, false, [6, 133]), (⟨some 135, some (133, true), .load .cp true 2 (.tmp 2)⟩, false, [2, 133]), (⟨some 136, some (133, true), .callr 32 [.tmp 134, .tmp 135]⟩, false, [2, 6, 133, 134, 135]), (⟨some 137, none, .pick (.tmp 133) (.tmp 136) (.con (.bool false))⟩, false, [133, 136]), (⟨none, none, .store 2 (.tmp 4) (.tmp 112)⟩, true, [2, 4, 21, 23, 46, 59, 73, 82, 98, 99, 103, 104, 108, 112, 135, 150, 162, 166, 169, 172]), (⟨some 5, none, .mov .tk (.tmp 137)⟩, true, [5, 137])] (some [4, 5])) .ret))))) (.seq (.reg [⟨some 28, none, .fieldA 2 (.tmp 3)⟩, ⟨some 29, none, .load .cp false 1 (.tmp 28)⟩, ⟨some 30, none, .callr 71 [.tmp 29]⟩, ⟨some 20, none, .mov .tk (.tmp 30)⟩] (some [2, 3, 4, 6, 7, 8, 9, 10, 20])) (.seq (.reg [⟨some 32, none, .load .cp true 2 (.tmp 6)⟩, ⟨some 33, none, .fieldA 1 (.tmp 3)⟩, ⟨some 34, none, .load .cp false 1 (.tmp 33)⟩, ⟨some 35, none, .mov .cp (.tmp 20)⟩, ⟨some 36, none, .callr 27 [.tmp 32, .tmp 34, .tmp 35]⟩, ⟨some 31, none, .mov .tk (.tmp 36)⟩, ⟨some 37, none, .extract 0 (.tmp 31)⟩, ⟨some 38, none, .extract 1 (.tmp 31)⟩, ⟨none, none, .store 2 (.tmp 9) (.tmp 37)⟩, ⟨some 11, none, .mov .tk (.tmp 38)⟩] (some [2, 3, 4, 6, 7, 8, 9, 10, 11, 20])) (.seq (.seq (.reg [⟨some 39, none, .mov .cp (.tmp 7)⟩, ⟨some 40, none, .mov .cp (.tmp 39)⟩, ⟨some 41, some (40, true), .fieldA 1 (.tmp 3)⟩, ⟨some 42, some (40, true), .load .cp false 1 (.tmp 41)⟩, ⟨some 43, some (40, true), .bin none .geq (.tmp 42) (.con (.int .i64 (-1)))⟩, ⟨some 44, none, .pick (.tmp 40) (.tmp 43) (.con (.bool false))⟩] (some [2, 3, 4, 6, 7, 8, 9, 10, 11, 20, 44])) (.cond (.tmp 44) (.reg [⟨some 46, none, .load .cp true 2 (.tmp 2)⟩, ⟨some 47, none, .fieldA 1 (.tmp 3)⟩, ⟨some 48, none, .load .cp false 1 (.tmp 47)⟩, ⟨some 49, none, .fieldA 2 (.tmp 3)⟩, ⟨some 50, none, .load .cp false 1 (.tmp 49)⟩, ⟨some 51, none, .callr 72 [.tmp 46, .tmp 48, .tmp 50]⟩, ⟨some 45, none, .mov .tk (.tmp 51)⟩, ⟨some 52, none, .extract 0 (.tmp 45)⟩, ⟨some 53, none, .extract 1 (.tmp 45)⟩, ⟨none, none, .store 2 (.tmp 10) (.tmp 52)⟩, ⟨some 8, none, .mov .tk (.tmp 53)⟩] (some [2, 3, 4, 6, 7, 8, 9, 10, 11, 20])) .skip)) (.seq (.reg [⟨some 54, none, .mov .cp (.tmp 20)⟩, ⟨some 55, none, .fieldA 2 (.tmp 3)⟩, ⟨some 56, none, .load .cp false 1 (.tmp 55)⟩, ⟨some 57, none, .callr 73 [.tmp 54, .tmp 56]⟩, ⟨some 58, none, .un .not (.tmp 57)⟩] (some [2, 4, 6, 7, 8, 9, 10, 11, 58])) (.cond (.tmp 58) (.seq (.reg [⟨some 59, none, .load .cp true 2 (.tmp 2)⟩, ⟨none, none, .store 2 (.tmp 4) (.tmp 59)⟩, ⟨some 5, none, .mov .tk (.con (.bool false))⟩] (some [4, 5])) .ret) .skip))))))))))) (.seq (.seq (.reg [⟨some 138, none, .mov .cp (.tmp 11)⟩, ⟨some 139, none, .callr 28 [.tmp 138]⟩, ⟨some 140, none, .mov .cp (.tmp 8)⟩, ⟨some 141, none, .bin none .neq (.tmp 139) (.tmp 140)⟩, ⟨some 142, none, .mov .cp (.tmp 141)⟩, ⟨some 143, some (142, false), .load .cp true 2 (.tmp 9)⟩, ⟨some 144, some (142, false), .load .cp true 2 (.tmp 10)⟩, ⟨some 145, some (142, false), .callr 32 [.tmp 143, .tmp 144]⟩, ⟨some 146, some (142, false), .un .not (.tmp 145)⟩, ⟨some 147, none, .pick (.tmp 142) (.con (.bool true)) (.tmp 146)⟩, ⟨some 148, none, .mov .cp (.tmp 147)⟩, ⟨some 149, some (148, false), .load .cp true 2 (.tmp 6)⟩, ⟨some 150, some (148, false), .load .cp true 2 (.tmp 2)⟩, ⟨some 151, some (148, false), .callr 32 [.tmp 149, .tmp 150]⟩, ⟨some 152, some (148, false), .un .not (.tmp 151)⟩, ⟨some 153, none, .pick (.tmp 148) (.con (.bool true)) (.tmp 152)⟩, ⟨some 154, none, .mov .cp (.tmp 153)⟩, ⟨some 155, some (154, false), .load .cp true 2 (.tmp 6)⟩, ⟨some 156, some (154, false), .callr 74 [.tmp 155]⟩, ⟨some 157, some (154, false), .callr 28 [.tmp 156]⟩, ⟨some 158, some (154, false), .bin none .eql (.tmp 157) (.con (.int .i64 0))⟩, ⟨some 159, some (154, false), .mov .cp (.tmp 7)⟩, ⟨some 160, some (154, false), .bin (some (false, [.b])) .neq (.tmp 158) (.tmp 159)⟩, ⟨some 161, none, .pick (.tmp 154) (.con (.bool true)) (.tmp 160)⟩] (some [2, 4, 6, 8, 9, 10, 161])) (.cond (.tmp 161) (.seq (.reg [⟨some 162, none, .load .cp true 2 (.tmp 2)⟩, ⟨none, none, .store 2 (.tmp 4) (.tmp 162)⟩, ⟨some 5, none, .mov .tk (.con (.bool false))⟩] (some [4, 5])) .ret) .skip)) (.seq (.reg [⟨some 163, none, .load .cp true 2 (.tmp 9)⟩, ⟨some 164, none, .call 75 [.tmp 163]⟩] (some [2, 4, 6, 8, 10])) (.seq (.seq (.reg [⟨some 165, none, .load .cp true 2 (.tmp 6)⟩, ⟨some 166, none, .load .cp true 2 (.tmp 2)⟩, ⟨some 167, none, .callr 32 [.tmp 165, .tmp 166]⟩, ⟨some 168, none, .un .not (.tmp 167)⟩] (some [2, 4, 8, 10, 168])) (.cond (.tmp 168) (.seq (.reg [⟨some 169, none, .load .cp true 2 (.tmp 2)⟩, ⟨none, none, .store 2 (.tmp 4) (.tmp 169)⟩, ⟨some 5, none, .mov .tk (.con (.bool false))⟩] (some [4, 5])) .ret) .skip)) (.seq (.seq (.reg [⟨some 170, none, .mov .cp (.tmp 8)⟩, ⟨some 171, none, .bin none .neq (.tmp 170) (.con (.int .i64 0))⟩] (some [2, 4, 10, 171])) (.cond (.tmp 171) (.seq (.reg [⟨some 172, none, .load .cp true 2 (.tmp 2)⟩, ⟨none, none, .store 2 (.tmp 4) (.tmp 172)⟩, ⟨some 5, none, .mov .tk (.con (.bool true))⟩] (some [4, 5])) .ret) .skip)) (.seq (.reg [⟨some 173, none, .load .cp true 2 (.tmp 10)⟩, ⟨some 174, none, .callr 37 [.tmp 173]⟩, ⟨none, none, .store 2 (.tmp 4) (.tmp 174)⟩, ⟨some 5, none, .mov .tk (.con (.bool true))⟩] (some [4, 5])) .ret)))))))))))
def pf38 : PFunc := ⟨2, [.ro, .ro], g38.un, [.cell 4 true 2, .tmp 5], b38⟩
theorem pe38 : prepF Go.Proofs.Try.prog a38 Go.Proofs.Try.f38 = some pf38 := by kernel_rfl
def b39 : IC := .seq (.reg [⟨some 2, none, .box (.tmp 0)⟩, ⟨some 4, none, .mov .tk (.con (.bool false))⟩] (some [1, 2])) (.seq (.reg [⟨some 8, none, .load .cp true 4 (.tmp 2)⟩, ⟨some 5, none, .alloc [.own 9 [], .own 64 [], .d (.sc (.int .i64 0)), .own 60 []]⟩, ⟨none, none, .store 4 (.tmp 5) (.tmp 8)⟩] (some [1, 2, 5])) (.seq (.reg [⟨some 9, none, .fieldA 3 (.tmp 5)⟩, ⟨none, none, .store 1 (.tmp 9) (.con (.vs false [.own 60 []]))⟩] (some [1, 2, 5])) (.seq (.seq (.reg [⟨some 6, none, .mov .tk (.con (.int .i64 0))⟩] (some [1, 2, 5, 6])) (.block 0 (.loop (.seq (.seq (.reg [⟨some 10, none, .mov .cp (.tmp 6)⟩, ⟨some 11, none, .fieldA 3 (.tmp 2)⟩, ⟨some 12, none, .load .cp false 1 (.tmp 11)⟩, ⟨some 13, none, .len false (.tmp 12)⟩, ⟨some 14, none, .bin none .lss (.tmp 10) (.tmp 13)⟩] (some [1, 2, 5, 6, 14])) (.cond (.tmp 14) .skip (.exit 0))) (.seq (.block 1 (.seq (.reg [⟨some 17, none, .fieldA 3 (.tmp 2)⟩, ⟨some 18, none, .load .cp false 1 (.tmp 17)⟩, ⟨some 19, none, .mov .cp (.tmp 6)⟩, ⟨some 20, none, .indexA 4 (.tmp 18) (.tmp 19)⟩, ⟨some 21, none, .load .cp true 4 (.tmp 20)⟩, ⟨some 7, none, .alloc [.d (.sc (.int .i64 0)), .d (.sc (.int .i64 0)), .own 66 [], .own 3 []]⟩, ⟨none, none, .store 4 (.tmp 7) (.tmp 21)⟩] (some [1, 2, 5, 6, 7])) (.seq (.reg [⟨some 22, none, .mov .cp (.tmp 1)⟩, ⟨some 23, none, .mov .cp (.tmp 6)⟩, ⟨some 24, none, .mov .cp (.tmp 1)⟩, ⟨some 25, none, .len false (.tmp 24)⟩, ⟨some 26, none, .bin none .rem (.tmp 23) (.tmp 25)⟩, ⟨some 27, none, .indexA 1 (.tmp 22) (.tmp 26)⟩, ⟨some 28, none, .load .cp false 1 (.tmp 27)⟩, ⟨some 29, none, .fieldA 0 (.tmp 7)⟩, ⟨none, none, .store 1 (.tmp 29) (.tmp 28)⟩] (some [1, 2, 5, 6, 7])) (.reg [⟨some 30, none, .fieldA 3 (.tmp 5)⟩, ⟨some 31, none, .load .cp false 1 (.tmp 30)⟩, ⟨some 32, none, .load .cp true 4 (.tmp 7)⟩, ⟨some 33, none, .bslice 60 [.d (.sc (.int .i64 0)), .d (.sc (.int .i64 0)), .own 66 [], .own 3 []] 1 [(0, .tmp 32)]⟩, ⟨some 34, none, .app false 60 4 64 (.tmp 31) (.tmp 33)⟩, ⟨some 35, none, .fieldA 3 (.tmp 5)⟩, ⟨none, none, .store 1 (.tmp 35) (.tmp 34)⟩] (some [1, 2, 5, 6]))))) (.reg [⟨some 15, none, .mov .cp (.tmp 6)⟩, ⟨some 16, none, .bin none .add (.tmp 15) (.con (.int .i64 1))⟩, ⟨some 6, none, .mov .tk (.tmp 16)⟩] (some [1, 2, 5, 6]))))))) (.seq (.reg [⟨some 36, none, .load .cp true 4 (.tmp 5)⟩, ⟨some 37, none, .callr 5 [.tmp 36]⟩, ⟨some 4, none, .mov .tk (.tmp 37)⟩] (some [4])) .ret))))
def pf39 : PFunc := ⟨2, [.ro, .ro], g39.un, [.tmp 4], b39⟩
theorem pe39 : prepF Go.Proofs.Try.prog a39 Go.Proofs.Try.f39 = some pf39 := by kernel_rfl
def b54 : IC := .seq (.reg [⟨some 1, none, .box (.tmp 0)⟩, ⟨some 2, none, .mov .tk (.con (.int .i64 0))⟩] (some [1])) (.seq (.reg [⟨some 6, none, .fieldA 0 (.tmp 1)⟩, ⟨some 7, none, .load .cp false 1 (.tmp 6)⟩, ⟨some 8, none, .len false (.tmp 7)⟩, ⟨some 9, none, .fieldA 1 (.tmp 1)⟩, ⟨some 10, none, .load .cp false 1 (.tmp 9)⟩, ⟨some 11, none, .len false (.tmp 10)⟩, ⟨some 12, none, .bin none .add (.tmp 8) (.tmp 11)⟩, ⟨some 3, none, .mov .tk (.tmp 12)⟩] (some [1, 3])) (.seq (.seq (.reg [⟨some 4, none, .mov .tk (.con (.int .i64 0))⟩] (some [1, 3, 4])) (.block 0 (.loop (.seq (.seq (.reg [⟨some 13, none, .mov .cp (.tmp 4)⟩, ⟨some 14, none, .fieldA 0 (.tmp 1)⟩, ⟨some 15, none, .load .cp false 1 (.tmp 14)⟩, ⟨some 16, none, .len false (.tmp 15)⟩, ⟨some 17, none, .bin none .lss (.tmp 13) (.tmp 16)⟩, ⟨some 18, none, .mov .cp (.tmp 17)⟩, ⟨some 19, some (18, true), .mov .cp (.tmp 3)⟩, ⟨some 20, some (18, true), .bin none .lss (.tmp 19) (.con (.int .i64 1048576))⟩, ⟨some 21, none, .pick (.tmp 18) (.tmp 20) (.con (.bool false))⟩] (some [1, 3, 4, 21])) (.cond (.tmp 21) .skip (.exit 0))) (.seq (.block 1 (.reg [⟨some 24, none, .mov .cp (.tmp 3)⟩, ⟨some 25, none, .fieldA 0 (.tmp 1)⟩, ⟨some 26, none, .load .cp false 1 (.tmp 25)⟩, ⟨some 27, none, .mov .cp (.tmp 4)⟩, ⟨some 28, none, .indexA 1 (.tmp 26) (.tmp 27)⟩, ⟨some 29, none, .load .cp false 1 (.tmp 28)⟩, ⟨some 30, none, .len true (.tmp 29)⟩, ⟨some 31, none, .bin none .quo (.tmp 30) (.con (.int .i64 64))⟩, ⟨some 32, none, .bin none .add (.tmp 24) (.tmp 31)⟩, ⟨some 3, none, .mov .tk (.tmp 32)⟩] (some [1, 3, 4]))) (.reg [⟨some 22, none, .mov .cp (.tmp 4)⟩, ⟨some 23, none, .bin none .add (.tmp 22) (.con (.int .i64 1))⟩, ⟨some 4, none, .mov .tk (.tmp 23)⟩] (some [1, 3, 4]))))))) (.seq (.seq (.reg [⟨some 5, none, .mov .tk (.con (.int .i64 0))⟩] (some [1, 3, 5])) (.block 2 (.loop (.seq (.seq (.reg [⟨some 33, none, .mov .cp (.tmp 5)⟩, ⟨some 34, none, .fieldA 1 (.tmp 1)⟩, ⟨some 35, none, .load .cp false 1 (.tmp 34)⟩, ⟨some 36, none, .len false (.tmp 35)⟩, ⟨some 37, none, .bin none .lss (.tmp 33) (.tmp 36)⟩, ⟨some 38, none, .mov .cp (.tmp 37)⟩, ⟨some 39, some (38, true), .mov .cp (.tmp 3)⟩, ⟨some 40, some (38, true), .bin none .lss (.tmp 39) (.con (.int .i64 1048576))⟩, ⟨some 41, none, .pick (.tmp 38) (.tmp 40) (.con (.bool false))⟩] (some [1, 3, 5, 41])) (.cond (.tmp 41) .skip (.exit 2))) (.seq (.block 3 (.reg [⟨some 44, none, .mov .cp (.tmp 3)⟩, ⟨some 45, none, .fieldA 1 (.tmp 1)⟩, ⟨some 46, none, .load .cp false 1 (.tmp 45)⟩, ⟨some 47, none, .mov .cp (.tmp 5)⟩, ⟨some 48, none, .indexA 2 (.tmp 46) (.tmp 47)⟩, ⟨some 49, none, .fieldA 1 (.tmp 48)⟩, ⟨some 50, none, .load .cp false 1 (.tmp 49)⟩, ⟨some 51, none, .len true (.tmp 50)⟩, ⟨some 52, none, .bin none .quo (.tmp 51) (.con (.int .i64 64))⟩, ⟨some 53, none, .bin none .add (.tmp 44) (.tmp 52)⟩, ⟨some 3, none, .mov .tk (.tmp 53)⟩] (some [1, 3, 5]))) (.reg [⟨some 42, none, .mov .cp (.tmp 5)⟩, ⟨some 43, none, .bin none .add (.tmp 42) (.con (.int .i64 1))⟩, ⟨some 5, none, .mov .tk (.tmp 43)⟩] (some [1, 3, 5]))))))) (.seq (.reg [⟨some 54, none, .mov .cp (.tmp 3)⟩, ⟨some 2, none, .mov .tk (.tmp 54)⟩] (some [2])) .ret))))
def pf54 : PFunc := ⟨1, [.ro], g54.un, [.tmp 2], b54⟩
theorem pe54 : prepF Go.Proofs.Try.prog a54 Go.Proofs.Try.f54 = some pf54 := by kernel_rfl
def b55 : IC := .seq (.reg [⟨some 2, none, .mov .tk (.con (.str (bs [])))⟩] (some [0])) (.seq (.reg [⟨some 3, none, .mov .cp (.tmp 0)⟩, ⟨some 4, none, .mkslice 5 1 [.d (.sc (.int .u8 0))] (.tmp 3) (.tmp 3)⟩, ⟨some 5, none, .b2s (.tmp 4)⟩, ⟨some 2, none, .mov .tk (.tmp 5)⟩] (some [2])) .ret)
def pf55 : PFunc := ⟨1, [.ro], g55.un, [.tmp 2], b55⟩
theorem pe55 : prepF Go.Proofs.Try.prog a55 Go.Proofs.Try.f55 = some pf55 := by kernel_rfl
def b56 : IC := .seq (.reg [⟨some 1, none, .box (.tmp 0)⟩, ⟨some 2, none, .mov .tk (.con (.bool false))⟩] (some [1])) (.seq (.seq (.reg [⟨some 3, none, .fieldA 0 (.tmp 1)⟩, ⟨some 4, none, .load .cp false 1 (.tmp 3)⟩, ⟨some 5, none, .len false (.tmp 4)⟩, ⟨some 6, none, .bin none .lss (.tmp 5) (.con (.int .i64 1))⟩, ⟨some 7, none, .mov .cp (.tmp 6)⟩, ⟨some 8, some (7, false), .fieldA 0 (.tmp 1)⟩, ⟨some 9, some (7, false), .load .cp false 1 (.tmp 8)⟩, ⟨some 10, some (7, false), .len false (.tmp 9)⟩, ⟨some 11, some (7, false), .bin none .gtr (.tmp 10) (.con (.int .i64 512))⟩, ⟨some 12, none, .pick (.tmp 7) (.con (.bool true)) (.tmp 11)⟩, ⟨some 13, none, .mov .cp (.tmp 12)⟩, ⟨some 14, some (13, false), .fieldA 1 (.tmp 1)⟩, ⟨some 15, some (13, false), .load .cp false 1 (.tmp 14)⟩, ⟨some 16, some (13, false), .len false (.tmp 15)⟩, ⟨some 17, some (13, false), .bin none .gtr (.tmp 16) (.con (.int .i64 2048))⟩, ⟨some 18, none, .pick (.tmp 13) (.con (.bool true)) (.tmp 17)⟩] (some [1, 18])) (.cond (.tmp 18) (.seq (.reg [⟨some 2, none, .mov .tk (.con (.bool false))⟩] (some [2])) .ret) .skip)) (.seq (.reg [⟨some 19, none, .fieldA 0 (.tmp 1)⟩, ⟨some 20, none, .load .cp false 1 (.tmp 19)⟩, ⟨some 21, none, .callr 88 [.tmp 20, .fn 89]⟩, ⟨some 22, none, .un .not (.tmp 21)⟩, ⟨some 23, none, .mov .cp (.tmp 22)⟩, ⟨some 24, some (23, true), .fieldA 1 (.tmp 1)⟩, ⟨some 25, some (23, true), .load .cp false 1 (.tmp 24)⟩, ⟨some 26, some (23, true), .mkfn 92 [.tmp 1]⟩, ⟨some 27, some (23, true), .callr 91 [.tmp 25, .tmp 26]⟩, ⟨some 28, some (23, true), .un .not (.tmp 27)⟩, ⟨some 29, none, .pick (.tmp 23) (.tmp 28) (.con (.bool false))⟩, ⟨some 2, none, .mov .tk (.tmp 29)⟩] (some [2])) .ret))
def pf56 : PFunc := ⟨1, [.ro], g56.un, [.tmp 2], b56⟩
theorem pe56 : prepF Go.Proofs.Try.prog a56 Go.Proofs.Try.f56 = some pf56 := by kernel_rfl
def b57 : IC := .seq (.reg [⟨some 1, none, .box (.tmp 0)⟩, ⟨some 2, none, .alloc [.own 9 [], .own 64 []]⟩] (some [1, 2])) (.seq (.drw [(⟨some 3, none, .fieldA 0 (.tmp 1)⟩, false, [1]), (⟨some 4, none, .load .cp false 1 (.tmp 3)⟩, false, [1, 3]), (⟨some 5, none, .callr 93 [.tmp 4]⟩, false, [1, 4]), (⟨some 6, none, .fieldA 1 (.tmp 1)⟩, false, [1]), (⟨some 7, none, .load .cp false 1 (.tmp 6)⟩, false, [1, 6]), (⟨some 8, none, .callr 94 [.tmp 7]⟩, false, [1, 7]), (⟨some 9, none, .build true [.own 9 [], .own 64 []] [(0, 1, .tmp 5), (1, 1, .tmp 8)]⟩, true, [5, 8, 9]), (⟨none, none, .store 2 (.tmp 2) (.tmp 9)⟩, true, [2, 9])] (some [2])) .ret)
def pf57 : PFunc := ⟨1, [.ro], g57.un, [.cell 2 true 2], b57⟩
theorem pe57 : prepF Go.Proofs.Try.prog a57 Go.Proofs.Try.f57 = some pf57 := by kernel_rfl
def b58 : IC := .seq (.reg [⟨some 3, none, .box (.tmp 1)⟩, ⟨some 4, none, .mov .tk (.con (.int .i64 0))⟩] (some [0, 3])) (.seq (.block 0 (.seq (.reg [⟨some 19, none, .fieldA 0 (.tmp 3)⟩, ⟨some 20, none, .load .cp false 1 (.tmp 19)⟩, ⟨some 18, none, .mov .tk (.tmp 20)⟩] (some [0, 3, 18])) (.cond (.tmp 18) (.seq (.seq (.reg [⟨some 21, none, .mov .cp (.tmp 0)⟩, ⟨some 22, none, .nilc (.tmp 21)⟩, ⟨some 23, none, .fieldA 1 (.tmp 22)⟩, ⟨some 24, none, .load .cp false 1 (.tmp 23)⟩, ⟨some 25, none, .len false (.tmp 24)⟩, ⟨some 26, none, .mov .cp (.con (.int .i64 0))⟩] (some [0, 24, 25, 26])) (.block 1 (.loop (.seq (.reg [⟨some 27, none, .bin none .lss (.tmp 26) (.tmp 25)⟩] (some [0, 24, 25, 26, 27])) (.seq (.cond (.tmp 27) .skip (.exit 1)) (.seq (.block 2 (.seq (.reg [⟨some 28, none, .indexA 2 (.tmp 24) (.tmp 26)⟩, ⟨some 29, none, .load .cp true 2 (.tmp 28)⟩, ⟨some 6, none, .alloc [.d (.sc (.int .i64 0)), .d (.sc (.string (bs [])))]⟩, ⟨none, none, .store 2 (.tmp 6) (.tmp 29)⟩] (some [0, 6, 24, 25, 26])) (.drw [(⟨some 30, none, .mov .cp (.tmp 0)⟩, false, [0]), (⟨some 31, none, .nilc (.tmp 30)⟩, false, [0, 30]), (⟨some 32, none, .fieldA 0 (.tmp 31)⟩, false, [0, 31]), (⟨some 33, none, .load .cp false 1 (.tmp 32)⟩, false, [0, 32]), (⟨some 34, none, .fieldA 0 (.tmp 6)⟩, false, [6]), (⟨some 35, none, .load .cp false 1 (.tmp 34)⟩, false, [6, 34]), (⟨some 36, none, .fieldA 1 (.tmp 6)⟩, false, [6]), (⟨some 37, none, .load .cp false 1 (.tmp 36)⟩, false, [6, 36]), (⟨some 38, none, .indexA 1 (.tmp 33) (.tmp 35)⟩, false, [0, 33, 35]), (⟨none, none, .store 1 (.tmp 38) (.tmp 37)⟩, true, [0, 7, 8, 9, 10, 11, 16, 17, 21, 22, 23, 24, 28, 29, 30, 31, 32, 33, 37, 38, 40, 41, 42, 44, 45, 46, 59, 60, 61, 62])] (some [0, 24, 25, 26])))) (.reg [⟨some 39, none, .bin none .add (.tmp 26) (.con (.int .i64 1))⟩, ⟨some 26, none, .mov .cp (.tmp 39)⟩] (some [0, 24, 25, 26])))))))) (.reg [⟨some 40, none, .mov .cp (.tmp 0)⟩, ⟨some 41, none, .nilc (.tmp 40)⟩, ⟨some 42, none, .fieldA 1 (.tmp 41)⟩, ⟨none, none, .store 1 (.tmp 42) (.con (.vs false [.own 64 []]))⟩] (some [0]))) (.seq (.drw [(⟨some 44, none, .mov .cp (.tmp 0)⟩, false, [0]), (⟨some 45, none, .nilc (.tmp 44)⟩, false, [0, 44]), (⟨some 46, none, .load .cp true 2 (.tmp 45)⟩, false, [0, 45]), (⟨some 47, none, .fieldA 1 (.tmp 3)⟩, false, [3]), (⟨some 48, none, .fieldA 0 (.tmp 47)⟩, false, [3, 47]), (⟨some 49, none, .load .cp false 1 (.tmp 48)⟩, false, [3, 48]), (⟨some 50, none, .callr 61 [.tmp 46, .tmp 49]⟩, false, [0, 46, 49]), (⟨some 51, none, .un .not (.tmp 50)⟩, false, [50]), (⟨some 43, none, .mov .tk (.tmp 51)⟩, true, [43, 51])] (some [0, 3, 43])) (.cond (.tmp 43) (.seq (.reg [⟨some 4, none, .mov .tk (.con (.int .i64 3))⟩] (some [0, 4])) .ret) (.seq (.reg [⟨some 53, none, .fieldA 1 (.tmp 3)⟩, ⟨some 54, none, .fieldA 1 (.tmp 53)⟩, ⟨some 55, none, .load .cp false 1 (.tmp 54)⟩, ⟨some 56, none, .callr 90 [.tmp 55]⟩, ⟨some 57, none, .un .not (.tmp 56)⟩, ⟨some 52, none, .mov .tk (.tmp 57)⟩] (some [0, 3, 52])) (.cond (.tmp 52) (.seq (.reg [⟨some 4, none, .mov .tk (.con (.int .i64 1))⟩] (some [0, 4])) .ret) (.seq (.reg [⟨some 59, none, .mov .cp (.tmp 0)⟩, ⟨some 60, none, .nilc (.tmp 59)⟩, ⟨some 61, none, .fieldA 1 (.tmp 60)⟩, ⟨some 62, none, .load .cp false 1 (.tmp 61)⟩, ⟨some 63, none, .len false (.tmp 62)⟩, ⟨some 64, none, .bin none .geq (.tmp 63) (.con (.int .i64 2048))⟩, ⟨some 58, none, .mov .tk (.tmp 64)⟩] (some [0, 3, 58])) (.cond (.tmp 58) (.seq (.reg [⟨some 4, none, .mov .tk (.con (.int .i64 2))⟩] (some [0, 4])) .ret) (.drw [(⟨some 7, none, .mov .st (.tmp 0)⟩, false, [0]), (⟨some 8, none, .mov .cp (.tmp 0)⟩, false, [0]), (⟨some 9, none, .nilc (.tmp 8)⟩, false, [0, 8]), (⟨some 10, none, .fieldA 1 (.tmp 9)⟩, false, [0, 9]), (⟨some 11, none, .load .cp false 1 (.tmp 10)⟩, false, [0, 10]), (⟨some 12, none, .fieldA 1 (.tmp 3)⟩, false, [3]), (⟨some 13, none, .load .cp true 2 (.tmp 12)⟩, false, [3, 12]), (⟨some 14, none, .bslice 64 [.d (.sc (.int .i64 0)), .d (.sc (.string (bs [])))] 1 [(0, .tmp 13)]⟩, true, [3, 12, 13, 14, 19, 47, 48, 53, 54]), (⟨some 15, none, .app false 64 2 24 (.tmp 11) (.tmp 14)⟩, true, [0, 7, 8, 9, 10, 11, 14, 15, 16, 17, 21, 22, 23, 24, 28, 29, 30, 31, 32, 33, 38, 40, 41, 42, 44, 45, 46, 59, 60, 61, 62]), (⟨some 16, none, .nilc (.tmp 7)⟩, false, [0, 7]), (⟨some 17, none, .fieldA 1 (.tmp 16)⟩, false, [0, 16]), (⟨none, none, .store 1 (.tmp 17) (.tmp 15)⟩, true, [0, 7, 8, 9, 10, 11, 15, 16, 17, 21, 22, 23, 24, 28, 29, 30, 31, 32, 33, 38, 40, 41, 42, 44, 45, 46, 59, 60, 61, 62])] (some [0]))))))))))) (.seq (.reg [⟨some 4, none, .mov .tk (.con (.int .i64 0))⟩] (some [0, 4])) .ret))
def pf58 : PFunc := ⟨2, [.io, .ro], g58.un, [.tmp 4], b58⟩
theorem pe58 : prepF Go.Proofs.Try.prog a58 Go.Proofs.Try.f58 = some pf58 := by kernel_rfl
def b59 : IC := .seq (.reg [⟨some 4, none, .mov .tk (.con (.bool false))⟩] (some [0, 1])) (.seq (.reg [⟨some 5, none, .mov .cp (.tmp 0)⟩, ⟨some 6, none, .bin none .geq (.tmp 5) (.con (.int .i64 0))⟩, ⟨some 7, none, .mov .cp (.tmp 6)⟩, ⟨some 8, some (7, true), .mov .cp (.tmp 0)⟩, ⟨some 9, some (7, true), .mov .cp (.tmp 1)⟩, ⟨some 10, some (7, true), .bin none .leq (.tmp 8) (.tmp 9)⟩, ⟨some 11, none, .pick (.tmp 7) (.tmp 10) (.con (.bool false))⟩, ⟨some 4, none, .mov .tk (.tmp 11)⟩] (some [4])) .ret)
def pf59 : PFunc := ⟨2, [.ro, .ro], g59.un, [.tmp 4], b59⟩
theorem pe59 : prepF Go.Proofs.Try.prog a59 Go.Proofs.Try.f59 = some pf59 := by kernel_rfl
def b60 : IC := .seq (.reg [⟨some 4, none, .mov .tk (.con (.bool false))⟩] (some [0, 1])) (.seq (.seq (.reg [⟨some 6, none, .mov .cp (.tmp 0)⟩, ⟨some 7, none, .len false (.tmp 6)⟩, ⟨some 8, none, .mov .cp (.tmp 1)⟩, ⟨some 9, none, .len false (.tmp 8)⟩, ⟨some 10, none, .bin none .neq (.tmp 7) (.tmp 9)⟩] (some [0, 1, 10])) (.cond (.tmp 10) (.seq (.reg [⟨some 4, none, .mov .tk (.con (.bool false))⟩] (some [4])) .ret) .skip)) (.seq (.seq (.reg [⟨some 5, none, .mov .tk (.con (.int .i64 0))⟩] (some [0, 1, 5])) (.block 0 (.loop (.seq (.seq (.reg [⟨some 11, none, .mov .cp (.tmp 5)⟩, ⟨some 12, none, .mov .cp (.tmp 0)⟩, ⟨some 13, none, .len false (.tmp 12)⟩, ⟨some 14, none, .bin none .lss (.tmp 11) (.tmp 13)⟩] (some [0, 1, 5, 14])) (.cond (.tmp 14) .skip (.exit 0))) (.seq (.block 1 (.seq (.drw [(⟨some 17, none, .mov .cp (.tmp 0)⟩, false, [0]), (⟨some 18, none, .mov .cp (.tmp 5)⟩, false, [5]), (⟨some 19, none, .indexA 2 (.tmp 17) (.tmp 18)⟩, false, [17, 18]), (⟨some 20, none, .load .cp true 2 (.tmp 19)⟩, false, [19]), (⟨some 21, none, .mov .cp (.tmp 1)⟩, false, [1]), (⟨some 22, none, .mov .cp (.tmp 5)⟩, false, [5]), (⟨some 23, none, .indexA 2 (.tmp 21) (.tmp 22)⟩, false, [21, 22]), (⟨some 24, none, .load .cp true 2 (.tmp 23)⟩, false, [23]), (⟨some 25, none, .bin (some (true, [.i, .s])) .neq (.tmp 20) (.tmp 24)⟩, false, [20, 24])] (some [0, 1, 5, 25])) (.cond (.tmp 25) (.seq (.reg [⟨some 4, none, .mov .tk (.con (.bool false))⟩] (some [4])) .ret) .skip))) (.reg [⟨some 15, none, .mov .cp (.tmp 5)⟩, ⟨some 16, none, .bin none .add (.tmp 15) (.con (.int .i64 1))⟩, ⟨some 5, none, .mov .tk (.tmp 16)⟩] (some [0, 1, 5]))))))) (.seq (.reg [⟨some 4, none, .mov .tk (.con (.bool true))⟩] (some [4])) .ret)))
def pf60 : PFunc := ⟨2, [.ro, .ro], g60.un, [.tmp 4], b60⟩
theorem pe60 : prepF Go.Proofs.Try.prog a60 Go.Proofs.Try.f60 = some pf60 := by kernel_rfl
def b12 : IC := .seq (.reg [⟨some 2, none, .mov .tk (.con (.vs false [.own 9 []]))⟩] (some [0])) (.seq (.reg [⟨some 3, none, .mov .tk (.con (.vs false [.own 9 []]))⟩] (some [0, 3])) (.seq (.seq (.reg [⟨some 4, none, .mov .tk (.con (.int .i64 0))⟩] (some [0, 3, 4])) (.block 0 (.loop (.seq (.seq (.reg [⟨some 5, none, .mov .cp (.tmp 4)⟩, ⟨some 6, none, .mov .cp (.tmp 0)⟩, ⟨some 7, none, .len false (.tmp 6)⟩, ⟨some 8, none, .bin none .lss (.tmp 5) (.tmp 7)⟩] (some [0, 3, 4, 8])) (.cond (.tmp 8) .skip (.exit 0))) (.seq (.block 1 (.reg [⟨some 11, none, .mov .cp (.tmp 3)⟩, ⟨some 12, none, .mov .cp (.tmp 0)⟩, ⟨some 13, none, .mov .cp (.tmp 4)⟩, ⟨some 14, none, .indexA 1 (.tmp 12) (.tmp 13)⟩, ⟨some 15, none, .load .cp false 1 (.tmp 14)⟩, ⟨some 16, none, .bslice 9 [.d (.sc (.string (bs [])))] 1 [(0, .tmp 15)]⟩, ⟨some 17, none, .app false 9 1 16 (.tmp 11) (.tmp 16)⟩, ⟨some 3, none, .mov .tk (.tmp 17)⟩] (some [0, 3, 4]))) (.reg [⟨some 9, none, .mov .cp (.tmp 4)⟩, ⟨some 10, none, .bin none .add (.tmp 9) (.con (.int .i64 1))⟩, ⟨some 4, none, .mov .tk (.tmp 10)⟩] (some [0, 3, 4]))))))) (.seq (.reg [⟨some 18, none, .mov .cp (.tmp 3)⟩, ⟨some 2, none, .mov .tk (.tmp 18)⟩] (some [2, 3])) .ret)))
def pf12 : PFunc := ⟨1, [.ro], g12.un, [.tmp 2], b12⟩
theorem pe12 : prepF Go.Proofs.Try.prog a12 Go.Proofs.Try.f12 = some pf12 := by kernel_rfl
def b65 : IC := .seq (.reg [⟨some 2, none, .mov .tk (.con (.vs false [.own 64 []]))⟩] (some [0])) (.seq (.reg [⟨some 3, none, .mov .tk (.con (.vs false [.own 64 []]))⟩] (some [0, 3])) (.seq (.seq (.reg [⟨some 4, none, .mov .tk (.con (.int .i64 0))⟩] (some [0, 3, 4])) (.block 0 (.loop (.seq (.seq (.reg [⟨some 5, none, .mov .cp (.tmp 4)⟩, ⟨some 6, none, .mov .cp (.tmp 0)⟩, ⟨some 7, none, .len false (.tmp 6)⟩, ⟨some 8, none, .bin none .lss (.tmp 5) (.tmp 7)⟩] (some [0, 3, 4, 8])) (.cond (.tmp 8) .skip (.exit 0))) (.seq (.block 1 (.reg [⟨some 11, none, .mov .cp (.tmp 3)⟩, ⟨some 12, none, .mov .cp (.tmp 0)⟩, ⟨some 13, none, .mov .cp (.tmp 4)⟩, ⟨some 14, none, .indexA 2 (.tmp 12) (.tmp 13)⟩, ⟨some 15, none, .load .cp true 2 (.tmp 14)⟩, ⟨some 16, none, .bslice 64 [.d (.sc (.int .i64 0)), .d (.sc (.string (bs [])))] 1 [(0, .tmp 15)]⟩, ⟨some 17, none, .app false 64 2 24 (.tmp 11) (.tmp 16)⟩, ⟨some 3, none, .mov .tk (.tmp 17)⟩] (some [0, 3, 4]))) (.reg [⟨some 9, none, .mov .cp (.tmp 4)⟩, ⟨some 10, none, .bin none .add (.tmp 9) (.con (.int .i64 1))⟩, ⟨some 4, none, .mov .tk (.tmp 10)⟩] (some [0, 3, 4]))))))) (.seq (.reg [⟨some 18, none, .mov .cp (.tmp 3)⟩, ⟨some 2, none, .mov .tk (.tmp 18)⟩] (some [2, 3])) .ret)))
def pf65 : PFunc := ⟨1, [.ro], g65.un, [.tmp 2], b65⟩
theorem pe65 : prepF Go.Proofs.Try.prog a65 Go.Proofs.Try.f65 = some pf65 := by kernel_rfl
def b66 : IC := .seq (.reg [⟨some 2, none, .mov .tk (.con (.vs false [.own 3 []]))⟩] (some [0])) (.seq (.reg [⟨some 3, none, .mov .tk (.con (.vs false [.own 3 []]))⟩] (some [0, 3])) (.seq (.seq (.reg [⟨some 4, none, .mov .tk (.con (.int .i64 0))⟩] (some [0, 3, 4])) (.block 0 (.loop (.seq (.seq (.reg [⟨some 5, none, .mov .cp (.tmp 4)⟩, ⟨some 6, none, .mov .cp (.tmp 0)⟩, ⟨some 7, none, .len false (.tmp 6)⟩, ⟨some 8, none, .bin none .lss (.tmp 5) (.tmp 7)⟩] (some [0, 3, 4, 8])) (.cond (.tmp 8) .skip (.exit 0))) (.seq (.block 1 (.reg [⟨some 11, none, .mov .cp (.tmp 3)⟩, ⟨some 12, none, .mov .cp (.tmp 0)⟩, ⟨some 13, none, .mov .cp (.tmp 4)⟩, ⟨some 14, none, .indexA 1 (.tmp 12) (.tmp 13)⟩, ⟨some 15, none, .load .cp false 1 (.tmp 14)⟩, ⟨some 16, none, .bslice 3 [.d (.sc (.int .i64 0))] 1 [(0, .tmp 15)]⟩, ⟨some 17, none, .app false 3 1 8 (.tmp 11) (.tmp 16)⟩, ⟨some 3, none, .mov .tk (.tmp 17)⟩] (some [0, 3, 4]))) (.reg [⟨some 9, none, .mov .cp (.tmp 4)⟩, ⟨some 10, none, .bin none .add (.tmp 9) (.con (.int .i64 1))⟩, ⟨some 4, none, .mov .tk (.tmp 10)⟩] (some [0, 3, 4]))))))) (.seq (.reg [⟨some 18, none, .mov .cp (.tmp 3)⟩, ⟨some 2, none, .mov .tk (.tmp 18)⟩] (some [2, 3])) .ret)))
def pf66 : PFunc := ⟨1, [.ro], g66.un, [.tmp 2], b66⟩
theorem pe66 : prepF Go.Proofs.Try.prog a66 Go.Proofs.Try.f66 = some pf66 := by kernel_rfl
def b67 : IC := .seq (.reg [⟨some 2, none, .box (.tmp 0)⟩, ⟨some 4, none, .alloc [.own 9 [], .own 64 []]⟩] (some [1, 2, 4])) (.seq (.reg [⟨some 6, none, .load .cp true 2 (.tmp 2)⟩, ⟨some 7, none, .callr 37 [.tmp 6]⟩, ⟨none, none, .store 2 (.tmp 2) (.tmp 7)⟩] (some [1, 2, 4])) (.seq (.seq (.reg [⟨some 5, none, .mov .tk (.con (.int .i64 0))⟩] (some [1, 2, 4, 5])) (.block 0 (.loop (.seq (.seq (.reg [⟨some 8, none, .mov .cp (.tmp 5)⟩, ⟨some 9, none, .fieldA 1 (.tmp 2)⟩, ⟨some 10, none, .load .cp false 1 (.tmp 9)⟩, ⟨some 11, none, .len false (.tmp 10)⟩, ⟨some 12, none, .bin none .lss (.tmp 8) (.tmp 11)⟩] (some [1, 2, 4, 5, 12])) (.cond (.tmp 12) .skip (.exit 0))) (.seq (.block 1 (.seq (.reg [⟨some 15, none, .mov .cp (.tmp 1)⟩, ⟨some 16, none, .len false (.tmp 15)⟩, ⟨some 17, none, .bin none .gtr (.tmp 16) (.con (.int .i64 0))⟩, ⟨some 18, none, .mov .cp (.tmp 17)⟩, ⟨some 19, some (18, true), .mov .cp (.tmp 1)⟩, ⟨some 20, some (18, true), .mov .cp (.tmp 5)⟩, ⟨some 21, some (18, true), .mov .cp (.tmp 1)⟩, ⟨some 22, some (18, true), .len false (.tmp 21)⟩, ⟨some 23, some (18, true), .bin none .rem (.tmp 20) (.tmp 22)⟩, ⟨some 24, some (18, true), .indexA 1 (.tmp 19) (.tmp 23)⟩, ⟨some 25, some (18, true), .load .cp false 1 (.tmp 24)⟩, ⟨some 26, some (18, true), .bin none .and (.tmp 25) (.con (.int .i64 1))⟩, ⟨some 27, some (18, true), .bin none .eql (.tmp 26) (.con (.int .i64 1))⟩, ⟨some 28, none, .pick (.tmp 18) (.tmp 27) (.con (.bool false))⟩] (some [1, 2, 4, 5, 28])) (.cond (.tmp 28) (.drw [(⟨some 29, none, .fieldA 0 (.tmp 2)⟩, false, [2]), (⟨some 30, none, .load .cp false 1 (.tmp 29)⟩, false, [2, 29]), (⟨some 31, none, .fieldA 1 (.tmp 2)⟩, false, [2]), (⟨some 32, none, .load .cp false 1 (.tmp 31)⟩, false, [2, 31]), (⟨some 33, none, .mov .cp (.tmp 5)⟩, false, [5]), (⟨some 34, none, .indexA 2 (.tmp 32) (.tmp 33)⟩, false, [2, 32, 33]), (⟨some 35, none, .fieldA 0 (.tmp 34)⟩, false, [2, 34]), (⟨some 36, none, .load .cp false 1 (.tmp 35)⟩, false, [2, 35]), (⟨some 37, none, .fieldA 1 (.tmp 2)⟩, false, [2]), (⟨some 38, none, .load .cp false 1 (.tmp 37)⟩, false, [2, 37]), (⟨some 39, none, .mov .cp (.tmp 5)⟩, false, [5]), (⟨some 40, none, .indexA 2 (.tmp 38) (.tmp 39)⟩, false, [2, 38, 39]), (⟨some 41, none, .fieldA 1 (.tmp 40)⟩, false, [2, 40]), (⟨some 42, none, .load .cp false 1 (.tmp 41)⟩, false, [2, 41]), (⟨some 43, none, .indexA 1 (.tmp 30) (.tmp 36)⟩, false, [2, 30, 36]), (⟨none, none, .store 1 (.tmp 43) (.tmp 42)⟩, true, [2, 6, 9, 10, 29, 30, 31, 32, 34, 35, 37, 38, 40, 41, 42, 43, 44, 45])] (some [1, 2, 4, 5])) .skip))) (.reg [⟨some 13, none, .mov .cp (.tmp 5)⟩, ⟨some 14, none, .bin none .add (.tmp 13) (.con (.int .i64 1))⟩, ⟨some 5, none, .mov .tk (.tmp 14)⟩] (some [1, 2, 4, 5]))))))) (.seq (.reg [⟨some 44, none, .fieldA 1 (.tmp 2)⟩, ⟨none, none, .store 1 (.tmp 44) (.con (.vs false [.own 64 []]))⟩] (some [2, 4])) (.seq (.reg [⟨some 45, none, .load .cp true 2 (.tmp 2)⟩, ⟨none, none, .store 2 (.tmp 4) (.tmp 45)⟩] (some [4])) .ret))))
def pf67 : PFunc := ⟨2, [.ro, .ro], g67.un, [.cell 4 true 2], b67⟩
theorem pe67 : prepF Go.Proofs.Try.prog a67 Go.Proofs.Try.f67 = some pf67 := by kernel_rfl
def b68 : IC := .seq (.reg [⟨some 4, none, .mov .tk (.con (.bool false))⟩] (some [0, 1])) (.seq (.seq (.reg [⟨some 6, none, .mov .cp (.tmp 0)⟩, ⟨some 7, none, .len false (.tmp 6)⟩, ⟨some 8, none, .mov .cp (.tmp 1)⟩, ⟨some 9, none, .len false (.tmp 8)⟩, ⟨some 10, none, .bin none .neq (.tmp 7) (.tmp 9)⟩] (some [0, 1, 10])) (.cond (.tmp 10) (.seq (.reg [⟨some 4, none, .mov .tk (.con (.bool false))⟩] (some [4])) .ret) .skip)) (.seq (.seq (.reg [⟨some 5, none, .mov .tk (.con (.int .i64 0))⟩] (some [0, 1, 5])) (.block 0 (.loop (.seq (.seq (.reg [⟨some 11, none, .mov .cp (.tmp 5)⟩, ⟨some 12, none, .mov .cp (.tmp 0)⟩, ⟨some 13, none, .len false (.tmp 12)⟩, ⟨some 14, none, .bin none .lss (.tmp 11) (.tmp 13)⟩] (some [0, 1, 5, 14])) (.cond (.tmp 14) .skip (.exit 0))) (.seq (.block 1 (.seq (.drw [(⟨some 17, none, .mov .cp (.tmp 0)⟩, false, [0]), (⟨some 18, none, .mov .cp (.tmp 5)⟩, false, [5]), (⟨some 19, none, .indexA 1 (.tmp 17) (.tmp 18)⟩, false, [17, 18]), (⟨some 20, none, .load .cp false 1 (.tmp 19)⟩, false, [19]), (⟨some 21, none, .mov .cp (.tmp 1)⟩, false, [1]), (⟨some 22, none, .mov .cp (.tmp 5)⟩, false, [5]), (⟨some 23, none, .indexA 1 (.tmp 21) (.tmp 22)⟩, false, [21, 22]), (⟨some 24, none, .load .cp false 1 (.tmp 23)⟩, false, [23]), (⟨some 25, none, .bin none .neq (.tmp 20) (.tmp 24)⟩, false, [20, 24])] (some [0, 1, 5, 25])) (.cond (.tmp 25) (.seq (.reg [⟨some 4, none, .mov .tk (.con (.bool false))⟩] (some [4])) .ret) .skip))) (.reg [⟨some 15, none, .mov .cp (.tmp 5)⟩, ⟨some 16, none, .bin none .add (.tmp 15) (.con (.int .i64 1))⟩, ⟨some 5, none, .mov .tk (.tmp 16)⟩] (some [0, 1, 5]))))))) (.seq (.reg [⟨some 4, none, .mov .tk (.con (.bool true))⟩] (some [4])) .ret)))
def pf68 : PFunc := ⟨2, [.ro, .ro], g68.un, [.tmp 4], b68⟩
theorem pe68 : prepF Go.Proofs.Try.prog a68 Go.Proofs.Try.f68 = some pf68 := by kernel_rfl
def b69 : IC := .seq (.reg [⟨some 1, none, .box (.tmp 0)⟩, ⟨some 2, none, .mov .tk (.con (.int .i64 0))⟩, ⟨some 3, none, .mov .tk (.con (.int .i64 0))⟩] (some [1])) (.seq (.seq (.reg [⟨some 4, none, .load .cp true 2 (.tmp 1)⟩, ⟨some 5, none, .callr 56 [.tmp 4]⟩, ⟨some 6, none, .un .not (.tmp 5)⟩] (some [1, 6])) (.cond (.tmp 6) (.seq (.reg [⟨some 2, none, .mov .tk (.con (.int .i64 0))⟩, ⟨some 3, none, .mov .tk (.con (.int .i64 1))⟩] (some [2, 3])) .ret) .skip)) (.seq (.reg [⟨some 7, none, .fieldA 1 (.tmp 1)⟩, ⟨some 8, none, .load .cp false 1 (.tmp 7)⟩, ⟨some 9, none, .len false (.tmp 8)⟩, ⟨some 2, none, .mov .tk (.tmp 9)⟩, ⟨some 3, none, .mov .tk (.con (.int .i64 0))⟩] (some [2, 3])) .ret))
def pf69 : PFunc := ⟨1, [.ro], g69.un, [.tmp 2, .tmp 3], b69⟩
theorem pe69 : prepF Go.Proofs.Try.prog a69 Go.Proofs.Try.f69 = some pf69 := by kernel_rfl
def b70 : IC := .seq (.reg [⟨some 2, none, .box (.tmp 0)⟩, ⟨some 4, none, .mov .tk (.con (.str (bs [])))⟩] (some [1, 2])) (.seq (.reg [⟨some 7, none, .fieldA 0 (.tmp 2)⟩, ⟨some 8, none, .load .cp false 1 (.tmp 7)⟩, ⟨some 9, none, .mov .cp (.tmp 1)⟩, ⟨some 10, none, .indexA 1 (.tmp 8) (.tmp 9)⟩, ⟨some 11, none, .load .cp false 1 (.tmp 10)⟩, ⟨some 5, none, .mov .tk (.tmp 11)⟩] (some [1, 2, 5])) (.seq (.seq (.reg [⟨some 6, none, .mov .tk (.con (.int .i64 0))⟩] (some [1, 2, 5, 6])) (.block 0 (.loop (.seq (.seq (.reg [⟨some 12, none, .mov .cp (.tmp 6)⟩, ⟨some 13, none, .fieldA 1 (.tmp 2)⟩, ⟨some 14, none, .load .cp false 1 (.tmp 13)⟩, ⟨some 15, none, .len false (.tmp 14)⟩, ⟨some 16, none, .bin none .lss (.tmp 12) (.tmp 15)⟩] (some [1, 2, 5, 6, 16])) (.cond (.tmp 16) .skip (.exit 0))) (.seq (.block 1 (.seq (.reg [⟨some 19, none, .fieldA 1 (.tmp 2)⟩, ⟨some 20, none, .load .cp false 1 (.tmp 19)⟩, ⟨some 21, none, .mov .cp (.tmp 6)⟩, ⟨some 22, none, .indexA 2 (.tmp 20) (.tmp 21)⟩, ⟨some 23, none, .fieldA 0 (.tmp 22)⟩, ⟨some 24, none, .load .cp false 1 (.tmp 23)⟩, ⟨some 25, none, .mov .cp (.tmp 1)⟩, ⟨some 26, none, .bin none .eql (.tmp 24) (.tmp 25)⟩] (some [1, 2, 5, 6, 26])) (.cond (.tmp 26) (.reg [⟨some 27, none, .fieldA 1 (.tmp 2)⟩, ⟨some 28, none, .load .cp false 1 (.tmp 27)⟩, ⟨some 29, none, .mov .cp (.tmp 6)⟩, ⟨some 30, none, .indexA 2 (.tmp 28) (.tmp 29)⟩, ⟨some 31, none, .fieldA 1 (.tmp 30)⟩, ⟨some 32, none, .load .cp false 1 (.tmp 31)⟩, ⟨some 5, none, .mov .tk (.tmp 32)⟩] (some [1, 2, 5, 6])) .skip))) (.reg [⟨some 17, none, .mov .cp (.tmp 6)⟩, ⟨some 18, none, .bin none .add (.tmp 17) (.con (.int .i64 1))⟩, ⟨some 6, none, .mov .tk (.tmp 18)⟩] (some [1, 2, 5, 6]))))))) (.seq (.reg [⟨some 33, none, .mov .cp (.tmp 5)⟩, ⟨some 4, none, .mov .tk (.tmp 33)⟩] (some [4])) .ret)))
def pf70 : PFunc := ⟨2, [.ro, .ro], g70.un, [.tmp 4], b70⟩
theorem pe70 : prepF Go.Proofs.Try.prog a70 Go.Proofs.Try.f70 = some pf70 := by kernel_rfl
def b71 : IC := .seq (.reg [⟨some 2, none, .mov .tk (.con (.vs false [.own 66 []]))⟩] (some [0])) (.seq (.reg [⟨some 3, none, .mov .tk (.con (.vs false [.own 66 []]))⟩] (some [0, 3])) (.seq (.seq (.reg [⟨some 4, none, .mov .tk (.con (.int .i64 0))⟩] (some [0, 3, 4])) (.block 0 (.loop (.seq (.seq (.reg [⟨some 5, none, .mov .cp (.tmp 4)⟩, ⟨some 6, none, .mov .cp (.tmp 0)⟩, ⟨some 7, none, .len false (.tmp 6)⟩, ⟨some 8, none, .bin none .lss (.tmp 5) (.tmp 7)⟩] (some [0, 3, 4, 8])) (.cond (.tmp 8) .skip (.exit 0))) (.seq (.block 1 (.reg [⟨some 11, none, .mov .cp (.tmp 3)⟩, ⟨some 12, none, .mov .cp (.tmp 0)⟩, ⟨some 13, none, .mov .cp (.tmp 4)⟩, ⟨some 14, none, .indexA 3 (.tmp 12) (.tmp 13)⟩, ⟨some 15, none, .load .cp true 3 (.tmp 14)⟩, ⟨some 16, none, .bslice 66 [.d (.sc (.bool false)), .d (.sc (.int .i64 0)), .d (.sc (.string (bs [])))] 1 [(0, .tmp 15)]⟩, ⟨some 17, none, .app false 66 3 32 (.tmp 11) (.tmp 16)⟩, ⟨some 3, none, .mov .tk (.tmp 17)⟩] (some [0, 3, 4]))) (.reg [⟨some 9, none, .mov .cp (.tmp 4)⟩, ⟨some 10, none, .bin none .add (.tmp 9) (.con (.int .i64 1))⟩, ⟨some 4, none, .mov .tk (.tmp 10)⟩] (some [0, 3, 4]))))))) (.seq (.reg [⟨some 18, none, .mov .cp (.tmp 3)⟩, ⟨some 2, none, .mov .tk (.tmp 18)⟩] (some [2, 3])) .ret)))
def pf71 : PFunc := ⟨1, [.ro], g71.un, [.tmp 2], b71⟩
theorem pe71 : prepF Go.Proofs.Try.prog a71 Go.Proofs.Try.f71 = some pf71 := by kernel_rfl
def b72 : IC := .seq (.reg [⟨some 3, none, .box (.tmp 0)⟩, ⟨some 6, none, .alloc [.own 9 [], .own 64 []]⟩, ⟨some 7, none, .mov .tk (.con (.int .i64 0))⟩] (some [1, 2, 3, 6])) (.seq (.reg [⟨some 10, none, .load .cp true 2 (.tmp 3)⟩, ⟨some 11, none, .callr 37 [.tmp 10]⟩, ⟨none, none, .store 2 (.tmp 3) (.tmp 11)⟩] (some [1, 2, 3, 6])) (.seq (.seq (.reg [⟨some 8, none, .mov .tk (.con (.int .i64 0))⟩] (some [1, 2, 3, 6, 8])) (.block 0 (.loop (.seq (.seq (.reg [⟨some 12, none, .mov .cp (.tmp 8)⟩, ⟨some 13, none, .mov .cp (.tmp 2)⟩, ⟨some 14, none, .len false (.tmp 13)⟩, ⟨some 15, none, .bin none .lss (.tmp 12) (.tmp 14)⟩, ⟨some 16, none, .mov .cp (.tmp 15)⟩, ⟨some 17, some (16, true), .mov .cp (.tmp 1)⟩, ⟨some 18, some (16, true), .bin none .lss (.tmp 17) (.con (.int .i64 0))⟩, ⟨some 19, some (16, true), .mov .cp (.tmp 18)⟩, ⟨some 20, some (19, false), .mov .cp (.tmp 8)⟩, ⟨some 21, some (19, false), .mov .cp (.tmp 1)⟩, ⟨some 22, some (19, false), .bin none .lss (.tmp 20) (.tmp 21)⟩, ⟨some 23, some (16, true), .pick (.tmp 19) (.con (.bool true)) (.tmp 22)⟩, ⟨some 24, none, .pick (.tmp 16) (.tmp 23) (.con (.bool false))⟩] (some [1, 2, 3, 6, 8, 24])) (.cond (.tmp 24) .skip (.exit 0))) (.seq (.block 1 (.seq (.seq (.reg [⟨some 27, none, .mov .cp (.tmp 2)⟩, ⟨some 28, none, .mov .cp (.tmp 8)⟩, ⟨some 29, none, .indexA 3 (.tmp 27) (.tmp 28)⟩, ⟨some 30, none, .fieldA 0 (.tmp 29)⟩, ⟨some 31, none, .load .cp false 1 (.tmp 30)⟩] (some [1, 2, 3, 6, 8, 31])) (.cond (.tmp 31) (.seq (.reg [⟨some 32, none, .load .cp true 2 (.tmp 3)⟩, ⟨some 33, none, .bslice 3 [.d (.sc (.int .i64 0))] 1 [(0, .con (.int .i64 1))]⟩, ⟨some 34, none, .callr 67 [.tmp 32, .tmp 33]⟩, ⟨none, none, .store 2 (.tmp 3) (.tmp 34)⟩] (some [1, 2, 3, 6, 8])) (.exit 1)) .skip)) (.seq (.reg [⟨some 35, none, .mov .cp (.tmp 2)⟩, ⟨some 36, none, .mov .cp (.tmp 8)⟩, ⟨some 37, none, .indexA 3 (.tmp 35) (.tmp 36)⟩, ⟨some 38, none, .fieldA 1 (.tmp 37)⟩, ⟨some 39, none, .load .cp true 2 (.tmp 38)⟩, ⟨some 9, none, .alloc [.d (.sc (.int .i64 0)), .d (.sc (.string (bs [])))]⟩, ⟨none, none, .store 2 (.tmp 9) (.tmp 39)⟩] (some [1, 2, 3, 6, 8, 9])) (.seq (.seq (.reg [⟨some 40, none, .fieldA 0 (.tmp 9)⟩, ⟨some 41, none, .load .cp false 1 (.tmp 40)⟩, ⟨some 42, none, .fieldA 0 (.tmp 3)⟩, ⟨some 43, none, .load .cp false 1 (.tmp 42)⟩, ⟨some 44, none, .len false (.tmp 43)⟩, ⟨some 45, none, .bin none .sub (.tmp 44) (.con (.int .i64 1))⟩, ⟨some 46, none, .callr 59 [.tmp 41, .tmp 45]⟩, ⟨some 47, none, .un .not (.tmp 46)⟩] (some [1, 2, 3, 6, 8, 9, 47])) (.cond (.tmp 47) (.seq (.reg [⟨some 48, none, .build true [.own 9 [], .own 64 []] []⟩, ⟨none, none, .store 2 (.tmp 6) (.tmp 48)⟩, ⟨some 7, none, .mov .tk (.con (.int .i64 3))⟩] (some [6, 7])) .ret) .skip)) (.seq (.seq (.reg [⟨some 49, none, .fieldA 1 (.tmp 9)⟩, ⟨some 50, none, .load .cp false 1 (.tmp 49)⟩, ⟨some 51, none, .len true (.tmp 50)⟩, ⟨some 52, none, .bin none .neq (.tmp 51) (.con (.int .i64 32))⟩] (some [1, 2, 3, 6, 8, 9, 52])) (.cond (.tmp 52) (.seq (.reg [⟨some 53, none, .build true [.own 9 [], .own 64 []] []⟩, ⟨none, none, .store 2 (.tmp 6) (.tmp 53)⟩, ⟨some 7, none, .mov .tk (.con (.int .i64 1))⟩] (some [6, 7])) .ret) .skip)) (.seq (.seq (.reg [⟨some 54, none, .fieldA 1 (.tmp 3)⟩, ⟨some 55, none, .load .cp false 1 (.tmp 54)⟩, ⟨some 56, none, .len false (.tmp 55)⟩, ⟨some 57, none, .bin none .geq (.tmp 56) (.con (.int .i64 2048))⟩] (some [1, 2, 3, 6, 8, 9, 57])) (.cond (.tmp 57) (.seq (.reg [⟨some 58, none, .build true [.own 9 [], .own 64 []] []⟩, ⟨none, none, .store 2 (.tmp 6) (.tmp 58)⟩, ⟨some 7, none, .mov .tk (.con (.int .i64 2))⟩] (some [6, 7])) .ret) .skip)) (.reg [⟨some 59, none, .fieldA 1 (.tmp 3)⟩, ⟨some 60, none, .load .cp false 1 (.tmp 59)⟩, ⟨some 61, none, .load .cp true 2 (.tmp 9)⟩, ⟨some 62, none, .bslice 64 [.d (.sc (.int .i64 0)), .d (.sc (.string (bs [])))] 1 [(0, .tmp 61)]⟩, ⟨some 63, none, .app false 64 2 24 (.tmp 60) (.tmp 62)⟩, ⟨some 64, none, .fieldA 1 (.tmp 3)⟩, ⟨none, none, .store 1 (.tmp 64) (.tmp 63)⟩] (some [1, 2, 3, 6, 8])))))))) (.reg [⟨some 25, none, .mov .cp (.tmp 8)⟩, ⟨some 26, none, .bin none .add (.tmp 25) (.con (.int .i64 1))⟩, ⟨some 8, none, .mov .tk (.tmp 26)⟩] (some [1, 2, 3, 6, 8]))))))) (.seq (.reg [⟨some 65, none, .load .cp true 2 (.tmp 3)⟩, ⟨none, none, .store 2 (.tmp 6) (.tmp 65)⟩, ⟨some 7, none, .mov .tk (.con (.int .i64 0))⟩] (some [6, 7])) .ret)))
def pf72 : PFunc := ⟨3, [.ro, .ro, .ro], g72.un, [.cell 6 true 2, .tmp 7], b72⟩
theorem pe72 : prepF Go.Proofs.Try.prog a72 Go.Proofs.Try.f72 = some pf72 := by kernel_rfl
def b73 : IC := .seq (.reg [⟨some 4, none, .mov .tk (.con (.bool false))⟩] (some [0, 1])) (.seq (.seq (.reg [⟨some 6, none, .mov .cp (.tmp 0)⟩, ⟨some 7, none, .len false (.tmp 6)⟩, ⟨some 8, none, .mov .cp (.tmp 1)⟩, ⟨some 9, none, .len false (.tmp 8)⟩, ⟨some 10, none, .bin none .neq (.tmp 7) (.tmp 9)⟩] (some [0, 1, 10])) (.cond (.tmp 10) (.seq (.reg [⟨some 4, none, .mov .tk (.con (.bool false))⟩] (some [4])) .ret) .skip)) (.seq (.seq (.reg [⟨some 5, none, .mov .tk (.con (.int .i64 0))⟩] (some [0, 1, 5])) (.block 0 (.loop (.seq (.seq (.reg [⟨some 11, none, .mov .cp (.tmp 5)⟩, ⟨some 12, none, .mov .cp (.tmp 0)⟩, ⟨some 13, none, .len false (.tmp 12)⟩, ⟨some 14, none, .bin none .lss (.tmp 11) (.tmp 13)⟩] (some [0, 1, 5, 14])) (.cond (.tmp 14) .skip (.exit 0))) (.seq (.block 1 (.seq (.drw [(⟨some 17, none, .mov .cp (.tmp 0)⟩, false, [0]), (⟨some 18, none, .mov .cp (.tmp 5)⟩, false, [5]), (⟨some 19, none, .indexA 3 (.tmp 17) (.tmp 18)⟩, false, [17, 18]), (⟨some 20, none, .load .cp true 3 (.tmp 19)⟩, false, [19]), (⟨some 21, none, .mov .cp (.tmp 1)⟩, false, [1]), (⟨some 22, none, .mov .cp (.tmp 5)⟩, false, [5]), (⟨some 23, none, .indexA 3 (.tmp 21) (.tmp 22)⟩, false, [21, 22]), (⟨some 24, none, .load .cp true 3 (.tmp 23)⟩, false, [23]), (⟨some 25, none, .bin (some (true, [.b, .i, .s])) .neq (.tmp 20) (.tmp 24)⟩, false, [20, 24])] (some [0, 1, 5, 25])) (.cond (.tmp 25) (.seq (.reg [⟨some 4, none, .mov .tk (.con (.bool false))⟩] (some [4])) .ret) .skip))) (.reg [⟨some 15, none, .mov .cp (.tmp 5)⟩, ⟨some 16, none, .bin none .add (.tmp 15) (.con (.int .i64 1))⟩, ⟨some 5, none, .mov .tk (.tmp 16)⟩] (some [0, 1, 5]))))))) (.seq (.reg [⟨some 4, none, .mov .tk (.con (.bool true))⟩] (some [4])) .ret)))
def pf73 : PFunc := ⟨2, [.ro, .ro], g73.un, [.tmp 4], b73⟩
theorem pe73 : prepF Go.Proofs.Try.prog a73 Go.Proofs.Try.f73 = some pf73 := by kernel_rfl
def b74 : IC := .seq (.reg [⟨some 1, none, .box (.tmp 0)⟩, ⟨some 2, none, .mov .tk (.con (.int .i64 0))⟩] (some [1])) (.seq (.seq (.reg [⟨some 3, none, .load .cp true 2 (.tmp 1)⟩, ⟨some 4, none, .callr 56 [.tmp 3]⟩, ⟨some 5, none, .un .not (.tmp 4)⟩] (some [5])) (.cond (.tmp 5) (.seq (.reg [⟨some 2, none, .mov .tk (.con (.int .i64 1))⟩] (some [2])) .ret) .skip)) (.seq (.reg [⟨some 2, none, .mov .tk (.con (.int .i64 0))⟩] (some [2])) .ret))
def pf74 : PFunc := ⟨1, [.ro], g74.un, [.tmp 2], b74⟩
theorem pe74 : prepF Go.Proofs.Try.prog a74 Go.Proofs.Try.f74 = some pf74 := by kernel_rfl
def b75 : IC := .seq (.reg [⟨some 1, none, .box (.tmp 0)⟩] (some [1])) (.seq (.seq (.reg [⟨some 2, none, .mov .tk (.con (.int .i64 0))⟩] (some [1, 2])) (.block 0 (.loop (.seq (.seq (.reg [⟨some 4, none, .mov .cp (.tmp 2)⟩, ⟨some 5, none, .fieldA 0 (.tmp 1)⟩, ⟨some 6, none, .load .cp false 1 (.tmp 5)⟩, ⟨some 7, none, .len false (.tmp 6)⟩, ⟨some 8, none, .bin none .lss (.tmp 4) (.tmp 7)⟩] (some [1, 2, 8])) (.cond (.tmp 8) .skip (.exit 0))) (.seq (.block 1 (.reg [⟨some 11, none, .fieldA 0 (.tmp 1)⟩, ⟨some 12, none, .load .cp false 1 (.tmp 11)⟩, ⟨some 13, none, .mov .cp (.tmp 2)⟩, ⟨some 14, none, .indexA 1 (.tmp 12) (.tmp 13)⟩, ⟨none, none, .store 1 (.tmp 14) (.con (.str (bs [115, 112, 111, 105, 108, 116])))⟩] (some [1, 2]))) (.reg [⟨some 9, none, .mov .cp (.tmp 2)⟩, ⟨some 10, none, .bin none .add (.tmp 9) (.con (.int .i64 1))⟩, ⟨some 2, none, .mov .tk (.tmp 10)⟩] (some [1, 2]))))))) (.seq (.reg [⟨some 3, none, .mov .tk (.con (.int .i64 0))⟩] (some [1, 3])) (.block 2 (.loop (.seq (.seq (.reg [⟨some 15, none, .mov .cp (.tmp 3)⟩, ⟨some 16, none, .fieldA 1 (.tmp 1)⟩, ⟨some 17, none, .load .cp false 1 (.tmp 16)⟩, ⟨some 18, none, .len false (.tmp 17)⟩, ⟨some 19, none, .bin none .lss (.tmp 15) (.tmp 18)⟩] (some [1, 3, 19])) (.cond (.tmp 19) .skip (.exit 2))) (.seq (.block 3 (.reg [⟨some 22, none, .fieldA 1 (.tmp 1)⟩, ⟨some 23, none, .load .cp false 1 (.tmp 22)⟩, ⟨some 24, none, .mov .cp (.tmp 3)⟩, ⟨some 25, none, .build true [.d (.sc (.int .i64 0)), .d (.sc (.string (bs [])))] [(0, 1, .con (.int .i64 (-9)))]⟩, ⟨some 26, none, .indexA 2 (.tmp 23) (.tmp 24)⟩, ⟨none, none, .store 2 (.tmp 26) (.tmp 25)⟩] (some [1, 3]))) (.reg [⟨some 20, none, .mov .cp (.tmp 3)⟩, ⟨some 21, none, .bin none .add (.tmp 20) (.con (.int .i64 1))⟩, ⟨some 3, none, .mov .tk (.tmp 21)⟩] (some [1, 3]))))))))
def pf75 : PFunc := ⟨1, [.own], g75.un, [], b75⟩
theorem pe75 : prepF Go.Proofs.Try.prog a75 Go.Proofs.Try.f75 = some pf75 := by kernel_rfl
def b88 : IC := .seq (.reg [⟨some 4, none, .mov .tk (.con (.bool false))⟩] (some [0, 1])) (.seq (.reg [⟨some 5, none, .mov .cp (.tmp 0)⟩, ⟨some 6, none, .mov .cp (.tmp 1)⟩, ⟨some 7, none, .callr 107 [.tmp 5, .tmp 6]⟩, ⟨some 8, none, .bin none .geq (.tmp 7) (.con (.int .i64 0))⟩, ⟨some 4, none, .mov .tk (.tmp 8)⟩] (some [4])) .ret)
def pf88 : PFunc := ⟨2, [.ro, .ro], g88.un, [.tmp 4], b88⟩
theorem pe88 : prepF Go.Proofs.Try.prog a88 Go.Proofs.Try.f88 = some pf88 := by kernel_rfl
def b89 : IC := .seq (.reg [⟨some 2, none, .mov .tk (.con (.bool false))⟩] (some [0])) (.seq (.reg [⟨some 3, none, .mov .cp (.tmp 0)⟩, ⟨some 4, none, .callr 90 [.tmp 3]⟩, ⟨some 5, none, .un .not (.tmp 4)⟩, ⟨some 2, none, .mov .tk (.tmp 5)⟩] (some [2])) .ret)
def pf89 : PFunc := ⟨1, [.ro], g89.un, [.tmp 2], b89⟩
theorem pe89 : prepF Go.Proofs.Try.prog a89 Go.Proofs.Try.f89 = some pf89 := by kernel_rfl
def b91 : IC := .seq (.reg [⟨some 4, none, .mov .tk (.con (.bool false))⟩] (some [0, 1])) (.seq (.reg [⟨some 5, none, .mov .cp (.tmp 0)⟩, ⟨some 6, none, .mov .cp (.tmp 1)⟩, ⟨some 7, none, .callr 108 [.tmp 5, .tmp 6]⟩, ⟨some 8, none, .bin none .geq (.tmp 7) (.con (.int .i64 0))⟩, ⟨some 4, none, .mov .tk (.tmp 8)⟩] (some [4])) .ret)
def pf91 : PFunc := ⟨2, [.ro, .ro], g91.un, [.tmp 4], b91⟩
theorem pe91 : prepF Go.Proofs.Try.prog a91 Go.Proofs.Try.f91 = some pf91 := by kernel_rfl
def b92 : IC := .seq (.reg [⟨some 2, none, .box (.tmp 0)⟩, ⟨some 3, none, .mov .tk (.con (.bool false))⟩] (some [1, 2])) (.seq (.reg [⟨some 4, none, .load .cp true 2 (.tmp 1)⟩, ⟨some 5, none, .fieldA 0 (.tmp 2)⟩, ⟨some 6, none, .load .cp false 1 (.tmp 5)⟩, ⟨some 7, none, .callr 61 [.tmp 4, .tmp 6]⟩, ⟨some 8, none, .un .not (.tmp 7)⟩, ⟨some 9, none, .mov .cp (.tmp 8)⟩, ⟨some 10, some (9, false), .fieldA 1 (.tmp 2)⟩, ⟨some 11, some (9, false), .load .cp false 1 (.tmp 10)⟩, ⟨some 12, some (9, false), .callr 90 [.tmp 11]⟩, ⟨some 13, some (9, false), .un .not (.tmp 12)⟩, ⟨some 14, none, .pick (.tmp 9) (.con (.bool true)) (.tmp 13)⟩, ⟨some 3, none, .mov .tk (.tmp 14)⟩] (some [3])) .ret)
def pf92 : PFunc := ⟨2, [.ro, .ro], g92.un, [.tmp 3], b92⟩
theorem pe92 : prepF Go.Proofs.Try.prog a92 Go.Proofs.Try.f92 = some pf92 := by kernel_rfl
def b61 : IC := .seq (.reg [⟨some 2, none, .box (.tmp 0)⟩, ⟨some 4, none, .mov .tk (.con (.bool false))⟩] (some [1, 2])) (.seq (.reg [⟨some 5, none, .mov .cp (.tmp 1)⟩, ⟨some 6, none, .bin none .geq (.tmp 5) (.con (.int .i64 0))⟩, ⟨some 7, none, .mov .cp (.tmp 6)⟩, ⟨some 8, some (7, true), .mov .cp (.tmp 1)⟩, ⟨some 9, some (7, true), .fieldA 0 (.tmp 2)⟩, ⟨some 10, some (7, true), .load .cp false 1 (.tmp 9)⟩, ⟨some 11, some (7, true), .len false (.tmp 10)⟩, ⟨some 12, some (7, true), .bin none .lss (.tmp 8) (.tmp 11)⟩, ⟨some 13, none, .pick (.tmp 7) (.tmp 12) (.con (.bool false))⟩, ⟨some 4, none, .mov .tk (.tmp 13)⟩] (some [4])) .ret)
def pf61 : PFunc := ⟨2, [.ro, .ro], g61.un, [.tmp 4], b61⟩
theorem pe61 : prepF Go.Proofs.Try.prog a61 Go.Proofs.Try.f61 = some pf61 := by kernel_rfl
def b90 : IC := .seq (.reg [⟨some 2, none, .mov .tk (.con (.bool false))⟩] (some [0])) (.seq (.reg [⟨some 3, none, .mov .cp (.tmp 0)⟩, ⟨some 4, none, .len true (.tmp 3)⟩, ⟨some 5, none, .bin none .eql (.tmp 4) (.con (.int .i64 32))⟩, ⟨some 2, none, .mov .tk (.tmp 5)⟩] (some [2])) .ret)
def pf90 : PFunc := ⟨1, [.ro], g90.un, [.tmp 2], b90⟩
theorem pe90 : prepF Go.Proofs.Try.prog a90 Go.Proofs.Try.f90 = some pf90 := by kernel_rfl
def b107 : IC := .seq (.reg [⟨some 4, none, .mov .tk (.con (.int .i64 0))⟩] (some [0, 1])) (.seq (.seq (.reg [⟨some 6, none, .mov .cp (.tmp 0)⟩, ⟨some 7, none, .len false (.tmp 6)⟩, ⟨some 8, none, .mov .cp (.con (.int .i64 0))⟩] (some [0, 1, 7, 8])) (.block 0 (.loop (.seq (.reg [⟨some 9, none, .bin none .lss (.tmp 8) (.tmp 7)⟩] (some [0, 1, 7, 8, 9])) (.seq (.cond (.tmp 9) .skip (.exit 0)) (.seq (.block 1 (.seq (.reg [⟨some 10, none, .mov .cp (.tmp 8)⟩, ⟨some 5, none, .mov .tk (.tmp 10)⟩] (some [0, 1, 5, 7, 8])) (.seq (.reg [⟨some 11, none, .mov .cp (.tmp 1)⟩, ⟨some 12, none, .mov .cp (.tmp 0)⟩, ⟨some 13, none, .mov .cp (.tmp 5)⟩, ⟨some 14, none, .indexA 1 (.tmp 12) (.tmp 13)⟩, ⟨some 15, none, .load .cp false 1 (.tmp 14)⟩, ⟨some 16, none, .callv (.tmp 11) [.tmp 15]⟩] (some [0, 1, 5, 7, 8, 16])) (.cond (.tmp 16) (.seq (.reg [⟨some 17, none, .mov .cp (.tmp 5)⟩, ⟨some 4, none, .mov .tk (.tmp 17)⟩] (some [4])) .ret) .skip)))) (.reg [⟨some 18, none, .bin none .add (.tmp 8) (.con (.int .i64 1))⟩, ⟨some 8, none, .mov .cp (.tmp 18)⟩] (some [0, 1, 7, 8])))))))) (.seq (.reg [⟨some 4, none, .mov .tk (.con (.int .i64 (-1)))⟩] (some [4])) .ret))
def pf107 : PFunc := ⟨2, [.ro, .ro], g107.un, [.tmp 4], b107⟩
theorem pe107 : prepF Go.Proofs.Try.prog a107 Go.Proofs.Try.f107 = some pf107 := by kernel_rfl
def b108 : IC := .seq (.reg [⟨some 4, none, .mov .tk (.con (.int .i64 0))⟩] (some [0, 1])) (.seq (.seq (.reg [⟨some 6, none, .mov .cp (.tmp 0)⟩, ⟨some 7, none, .len false (.tmp 6)⟩, ⟨some 8, none, .mov .cp (.con (.int .i64 0))⟩] (some [0, 1, 7, 8])) (.block 0 (.loop (.seq (.reg [⟨some 9, none, .bin none .lss (.tmp 8) (.tmp 7)⟩] (some [0, 1, 7, 8, 9])) (.seq (.cond (.tmp 9) .skip (.exit 0)) (.seq (.block 1 (.seq (.reg [⟨some 10, none, .mov .cp (.tmp 8)⟩, ⟨some 5, none, .mov .tk (.tmp 10)⟩] (some [0, 1, 5, 7, 8])) (.seq (.reg [⟨some 11, none, .mov .cp (.tmp 1)⟩, ⟨some 12, none, .mov .cp (.tmp 0)⟩, ⟨some 13, none, .mov .cp (.tmp 5)⟩, ⟨some 14, none, .indexA 2 (.tmp 12) (.tmp 13)⟩, ⟨some 15, none, .load .cp true 2 (.tmp 14)⟩, ⟨some 16, none, .callv (.tmp 11) [.tmp 15]⟩] (some [0, 1, 5, 7, 8, 16])) (.cond (.tmp 16) (.seq (.reg [⟨some 17, none, .mov .cp (.tmp 5)⟩, ⟨some 4, none, .mov .tk (.tmp 17)⟩] (some [4])) .ret) .skip)))) (.reg [⟨some 18, none, .bin none .add (.tmp 8) (.con (.int .i64 1))⟩, ⟨some 8, none, .mov .cp (.tmp 18)⟩] (some [0, 1, 7, 8])))))))) (.seq (.reg [⟨some 4, none, .mov .tk (.con (.int .i64 (-1)))⟩] (some [4])) .ret))
def pf108 : PFunc := ⟨2, [.ro, .ro], g108.un, [.tmp 4], b108⟩
theorem pe108 : prepF Go.Proofs.Try.prog a108 Go.Proofs.Try.f108 = some pf108 := by kernel_rfl
def tab : List (Nat × PFunc) := [(4, pf4), (5, pf5), (6, pf6), (7, pf7), (17, pf17), (25, pf25), (26, pf26), (27, pf27), (28, pf28), (29, pf29), (30, pf30), (31, pf31), (32, pf32), (34, pf34), (35, pf35), (36, pf36), (37, pf37), (38, pf38), (39, pf39), (54, pf54), (55, pf55), (56, pf56), (57, pf57), (58, pf58), (59, pf59), (60, pf60), (12, pf12), (65, pf65), (66, pf66), (67, pf67), (68, pf68), (69, pf69), (70, pf70), (71, pf71), (72, pf72), (73, pf73), (74, pf74), (75, pf75), (88, pf88), (89, pf89), (91, pf91), (92, pf92), (61, pf61), (90, pf90), (107, pf107), (108, pf108)]
noncomputable def gv : FuncId → Option (List PM × (List T → Option Res)) := fun f => if f = 64 then some repGiven else if f = 63 then some sreGiven else if f = 93 then some (cloneGiven Try.prog 9) else if f = 94 then some (cloneGiven Try.prog 64) else if f = 33 then some rdGiven else none
noncomputable def G : Prog := { fn := fun f => tab.lookup f, given := gv }
theorem Gpm : G.pm 4 = [.ro] ∧ G.pm 5 = [.ro] ∧ G.pm 6 = [.ro] ∧ G.pm 7 = [.ro] ∧ G.pm 17 = [.ro, .ro] ∧ G.pm 25 = [.ro] ∧ G.pm 26 = [.ro] ∧ G.pm 27 = [.ro, .ro, .ro] ∧ G.pm 28 = [.ro] ∧ G.pm 29 = [.ro] ∧ G.pm 30 = [.ro, .ro] ∧ G.pm 31 = [.ro, .ro] ∧ G.pm 32 = [.ro, .ro] ∧ G.pm 34 = [] ∧ G.pm 35 = [.ro] ∧ G.pm 36 = [.ro, .ro, .ro] ∧ G.pm 37 = [.ro] ∧ G.pm 38 = [.ro, .ro] ∧ G.pm 39 = [.ro, .ro] ∧ G.pm 54 = [.ro] ∧ G.pm 55 = [.ro] ∧ G.pm 56 = [.ro] ∧ G.pm 57 = [.ro] ∧ G.pm 58 = [.io, .ro] ∧ G.pm 59 = [.ro, .ro] ∧ G.pm 60 = [.ro, .ro] ∧ G.pm 12 = [.ro] ∧ G.pm 65 = [.ro] ∧ G.pm 66 = [.ro] ∧ G.pm 67 = [.ro, .ro] ∧ G.pm 68 = [.ro, .ro] ∧ G.pm 69 = [.ro] ∧ G.pm 70 = [.ro, .ro] ∧ G.pm 71 = [.ro] ∧ G.pm 72 = [.ro, .ro, .ro] ∧ G.pm 73 = [.ro, .ro] ∧ G.pm 74 = [.ro] ∧ G.pm 75 = [.own] ∧ G.pm 88 = [.ro, .ro] ∧ G.pm 89 = [.ro] ∧ G.pm 91 = [.ro, .ro] ∧ G.pm 92 = [.ro, .ro] ∧ G.pm 61 = [.ro, .ro] ∧ G.pm 90 = [.ro] ∧ G.pm 107 = [.ro, .ro] ∧ G.pm 108 = [.ro, .ro] ∧ G.pm 64 = [.ro, .ro] ∧ G.pm 63 = [.ro, .ro] ∧ G.pm 93 = [.ro] ∧ G.pm 94 = [.ro] ∧ G.pm 33 = [.ro, .ro] := by refine ⟨rfl, rfl, rfl, rfl, rfl, rfl, rfl, rfl, rfl, rfl, rfl, rfl, rfl, rfl, rfl, rfl, rfl, rfl, rfl, rfl, rfl, rfl, rfl, rfl, rfl, rfl, rfl, rfl, rfl, rfl, rfl, rfl, rfl, rfl, rfl, rfl, rfl, rfl, rfl, rfl, rfl, rfl, rfl, rfl, rfl, rfl, rfl, rfl, rfl, rfl, rfl⟩
attribute [push_cast] Gpm
theorem soundG : Sound Try.prog G :=
  ⟨(sound_tab (P := Try.prog) (l := tab) (⟨⟨_, a4, Try.func4, pe4⟩, ⟨⟨_, a5, Try.func5, pe5⟩, ⟨⟨_, a6, Try.func6, pe6⟩, ⟨⟨_, a7, Try.func7, pe7⟩, ⟨⟨_, a17, Try.func17, pe17⟩, ⟨⟨_, a25, Try.func25, pe25⟩, ⟨⟨_, a26, Try.func26, pe26⟩, ⟨⟨_, a27, Try.func27, pe27⟩, ⟨⟨_, a28, Try.func28, pe28⟩, ⟨⟨_, a29, Try.func29, pe29⟩, ⟨⟨_, a30, Try.func30, pe30⟩, ⟨⟨_, a31, Try.func31, pe31⟩, ⟨⟨_, a32, Try.func32, pe32⟩, ⟨⟨_, a34, Try.func34, pe34⟩, ⟨⟨_, a35, Try.func35, pe35⟩, ⟨⟨_, a36, Try.func36, pe36⟩, ⟨⟨_, a37, Try.func37, pe37⟩, ⟨⟨_, a38, Try.func38, pe38⟩, ⟨⟨_, a39, Try.func39, pe39⟩, ⟨⟨_, a54, Try.func54, pe54⟩, ⟨⟨_, a55, Try.func55, pe55⟩, ⟨⟨_, a56, Try.func56, pe56⟩, ⟨⟨_, a57, Try.func57, pe57⟩, ⟨⟨_, a58, Try.func58, pe58⟩, ⟨⟨_, a59, Try.func59, pe59⟩, ⟨⟨_, a60, Try.func60, pe60⟩, ⟨⟨_, a12, Try.func12, pe12⟩, ⟨⟨_, a65, Try.func65, pe65⟩, ⟨⟨_, a66, Try.func66, pe66⟩, ⟨⟨_, a67, Try.func67, pe67⟩, ⟨⟨_, a68, Try.func68, pe68⟩, ⟨⟨_, a69, Try.func69, pe69⟩, ⟨⟨_, a70, Try.func70, pe70⟩, ⟨⟨_, a71, Try.func71, pe71⟩, ⟨⟨_, a72, Try.func72, pe72⟩, ⟨⟨_, a73, Try.func73, pe73⟩, ⟨⟨_, a74, Try.func74, pe74⟩, ⟨⟨_, a75, Try.func75, pe75⟩, ⟨⟨_, a88, Try.func88, pe88⟩, ⟨⟨_, a89, Try.func89, pe89⟩, ⟨⟨_, a91, Try.func91, pe91⟩, ⟨⟨_, a92, Try.func92, pe92⟩, ⟨⟨_, a61, Try.func61, pe61⟩, ⟨⟨_, a90, Try.func90, pe90⟩, ⟨⟨_, a107, Try.func107, pe107⟩, ⟨⟨_, a108, Try.func108, pe108⟩, trivial⟩⟩⟩⟩⟩⟩⟩⟩⟩⟩⟩⟩⟩⟩⟩⟩⟩⟩⟩⟩⟩⟩⟩⟩⟩⟩⟩⟩⟩⟩⟩⟩⟩⟩⟩⟩⟩⟩⟩⟩⟩⟩⟩⟩⟩⟩)).fns, fun f g hg args r h => by
    simp only [G, gv] at hg
    by_cases e64 : f = 64
    · subst e64; simp only [if_true] at hg; cases hg; exact rep_ok rfl h
    rw [if_neg e64] at hg
    by_cases e63 : f = 63
    · subst e63; simp only [if_true] at hg; cases hg; exact sre_ok rfl h
    rw [if_neg e63] at hg
    by_cases e93 : f = 93
    · subst e93; simp only [if_true] at hg; cases hg; exact clo93_ok rfl h
    rw [if_neg e93] at hg
    by_cases e94 : f = 94
    · subst e94; simp only [if_true] at hg; cases hg; exact clo94_ok rfl h
    rw [if_neg e94] at hg
    by_cases e33 : f = 33
    · subst e33; simp only [if_true] at hg; cases hg; exact rd_ok rfl h
    rw [if_neg e33] at hg
    cases hg⟩

end Go.Mir.Try

/- Walks: may a tape be? -/
set_option linter.unusedVariables false
set_option linter.unusedSimpArgs false
set_option maxRecDepth 100000
namespace Go.Mir.Try
open Go.Proofs Go.Mir.Q

theorem f107 {l : List (List UInt8)} {f : FuncId} {caps : List T} {p : (List UInt8) → Bool} (hl : l.length ≤ 1000000000) (hpm : G.pm f = [.ro] ∨ G.pm f = [.ro, .ro] ∨ G.pm f = [.ro, .ro, .ro] ∨ G.pm f = [.ro, .ro, .ro, .ro]) (hcap : capsData caps = true) (hf : ∀ w ∈ l, Fun G f (.str (bs w) :: caps) (.bool (p w), [])) :
    Fun G 107 [.one (.d (.sl (l.map eS))), .fn f caps] (.int .i64 (idx p l), []) := by
  refine Fun.of_run (g := g107) (pf := pf107) rfl rfl rfl rfl ?_
  have hcap2 := capsRo_data (caps := caps) hcap
  have hcap3 := rootsL_data (caps := caps) hcap
  simp (maxSteps := 1000000) (disch := first | assumption | ((try simp only [LEN, LEN2]); omega)) only [push_cast, Int.reduceToNat, Int.reduceEq, Int.reduceNe, Int.reduceLT, Int.reduceLE, Int.reduceAdd, Int.reduceSub, Int.reduceMul, Int.reduceNeg, Nat.reduceEqDiff, Nat.reduceBEq, Nat.reduceBNe, Nat.reduceAdd, Nat.reduceLeDiff, Nat.reduceLT, Nat.reduceMul, ↓reduceIte, reduceCtorEq, g107, pf107, b107, hcap2, hcap3, List.all_nil]
  refine run_loop' (fun i : Nat => [(0, T.one (.d (.sl (l.map eS)))), (1, T.fn f caps), (7, T.int .i64 l.length), (8, T.int .i64 i)]) (fun i => i ≤ l.length ∧ ∀ x ∈ l.take i, p x = false) (fun i => l.length - i) 0 rfl ⟨Nat.zero_le _, by simp⟩ (fun i hi => ?_)
  obtain ⟨hi, ht⟩ := hi
  simp (maxSteps := 1000000) (disch := first | assumption | ((try simp only [LEN, LEN2]); omega)) only [push_cast, Int.reduceToNat, Int.reduceEq, Int.reduceNe, Int.reduceLT, Int.reduceLE, Int.reduceAdd, Int.reduceSub, Int.reduceMul, Int.reduceNeg, Nat.reduceEqDiff, Nat.reduceBEq, Nat.reduceBNe, Nat.reduceAdd, Nat.reduceLeDiff, Nat.reduceLT, Nat.reduceMul, ↓reduceIte, reduceCtorEq, g107, pf107, b107, hcap2, hcap3, List.all_nil]
  refine If.dec (fun h => ?_) (fun h => ?_)
  · replace h : i < l.length := by omega
    have h2 := hf l[i] (List.getElem_mem h)
    skip
    by_cases hp : p l[i] = true
    · rcases hpm with hpm | hpm | hpm | hpm <;> simp (maxSteps := 1000000) (disch := first | assumption | ((try simp only [LEN, LEN2]); omega)) only [push_cast, Int.reduceToNat, Int.reduceEq, Int.reduceNe, Int.reduceLT, Int.reduceLE, Int.reduceAdd, Int.reduceSub, Int.reduceMul, Int.reduceNeg, Nat.reduceEqDiff, Nat.reduceBEq, Nat.reduceBNe, Nat.reduceAdd, Nat.reduceLeDiff, Nat.reduceLT, Nat.reduceMul, ↓reduceIte, reduceCtorEq, g107, pf107, b107, hcap2, hcap3, List.all_nil, hpm, eS, callT_eq h2, hp] <;> rw [idx_some h ht hp]
    · rw [Bool.not_eq_true] at hp
      rcases hpm with hpm | hpm | hpm | hpm <;> simp (maxSteps := 1000000) (disch := first | assumption | ((try simp only [LEN, LEN2]); omega)) only [push_cast, Int.reduceToNat, Int.reduceEq, Int.reduceNe, Int.reduceLT, Int.reduceLE, Int.reduceAdd, Int.reduceSub, Int.reduceMul, Int.reduceNeg, Nat.reduceEqDiff, Nat.reduceBEq, Nat.reduceBNe, Nat.reduceAdd, Nat.reduceLeDiff, Nat.reduceLT, Nat.reduceMul, ↓reduceIte, reduceCtorEq, g107, pf107, b107, hcap2, hcap3, List.all_nil, hpm, eS, callT_eq h2, hp]
      all_goals
        refine ⟨i + 1, rfl, ⟨by omega, fun x hx => ?_⟩, by omega⟩
        rw [List.take_succ_eq_append_getElem h, List.mem_append, List.mem_singleton] at hx
        rcases hx with hx | rfl
        · exact ht x hx
        · exact hp
  · obtain rfl : i = l.length := by omega
    simp (maxSteps := 1000000) (disch := first | assumption | ((try simp only [LEN, LEN2]); omega)) only [push_cast, Int.reduceToNat, Int.reduceEq, Int.reduceNe, Int.reduceLT, Int.reduceLE, Int.reduceAdd, Int.reduceSub, Int.reduceMul, Int.reduceNeg, Nat.reduceEqDiff, Nat.reduceBEq, Nat.reduceBNe, Nat.reduceAdd, Nat.reduceLeDiff, Nat.reduceLT, Nat.reduceMul, ↓reduceIte, reduceCtorEq, g107, pf107, b107, hcap2, hcap3, List.all_nil]
    rw [idx_none (fun x hx => ht x (by rw [List.take_length]; exact hx))]
theorem f88 {l : List (List UInt8)} {f : FuncId} {caps : List T} {p : (List UInt8) → Bool} (hl : l.length ≤ 1000000000) (hpm : G.pm f = [.ro] ∨ G.pm f = [.ro, .ro] ∨ G.pm f = [.ro, .ro, .ro] ∨ G.pm f = [.ro, .ro, .ro, .ro]) (hcap : capsData caps = true) (hf : ∀ w ∈ l, Fun G f (.str (bs w) :: caps) (.bool (p w), [])) :
    Fun G 88 [.one (.d (.sl (l.map eS))), .fn f caps] (.bool (l.any p), []) := by
  refine Fun.of_run (g := g88) (pf := pf88) rfl rfl rfl rfl ?_
  have hcap2 := capsRo_data (caps := caps) hcap
  have hcap3 := rootsL_data (caps := caps) hcap
  simp (maxSteps := 1000000) (disch := first | assumption | ((try simp only [LEN, LEN2]); omega)) only [push_cast, Int.reduceToNat, Int.reduceEq, Int.reduceNe, Int.reduceLT, Int.reduceLE, Int.reduceAdd, Int.reduceSub, Int.reduceMul, Int.reduceNeg, Nat.reduceEqDiff, Nat.reduceBEq, Nat.reduceBNe, Nat.reduceAdd, Nat.reduceLeDiff, Nat.reduceLT, Nat.reduceMul, ↓reduceIte, reduceCtorEq, g88, pf88, b88, hcap2, hcap3, List.all_nil, callC_eq (f107 hl hpm hcap hf)]
  rw [← idx_nonneg]
theorem f108 {l : List (Put)} {f : FuncId} {caps : List T} {p : (Put) → Bool} (hl : l.length ≤ 1000000000) (hpm : G.pm f = [.ro] ∨ G.pm f = [.ro, .ro] ∨ G.pm f = [.ro, .ro, .ro] ∨ G.pm f = [.ro, .ro, .ro, .ro]) (hcap : capsData caps = true) (hf : ∀ w ∈ l, Fun G f (.vs true (oP w) :: caps) (.bool (p w), [])) :
    Fun G 108 [.one (.d (.sl (l.map eP))), .fn f caps] (.int .i64 (idx p l), []) := by
  refine Fun.of_run (g := g108) (pf := pf108) rfl rfl rfl rfl ?_
  have hcap2 := capsRo_data (caps := caps) hcap
  have hcap3 := rootsL_data (caps := caps) hcap
  simp (maxSteps := 1000000) (disch := first | assumption | ((try simp only [LEN, LEN2]); omega)) only [push_cast, Int.reduceToNat, Int.reduceEq, Int.reduceNe, Int.reduceLT, Int.reduceLE, Int.reduceAdd, Int.reduceSub, Int.reduceMul, Int.reduceNeg, Nat.reduceEqDiff, Nat.reduceBEq, Nat.reduceBNe, Nat.reduceAdd, Nat.reduceLeDiff, Nat.reduceLT, Nat.reduceMul, ↓reduceIte, reduceCtorEq, g108, pf108, b108, hcap2, hcap3, List.all_nil]
  refine run_loop' (fun i : Nat => [(0, T.one (.d (.sl (l.map eP)))), (1, T.fn f caps), (7, T.int .i64 l.length), (8, T.int .i64 i)]) (fun i => i ≤ l.length ∧ ∀ x ∈ l.take i, p x = false) (fun i => l.length - i) 0 rfl ⟨Nat.zero_le _, by simp⟩ (fun i hi => ?_)
  obtain ⟨hi, ht⟩ := hi
  simp (maxSteps := 1000000) (disch := first | assumption | ((try simp only [LEN, LEN2]); omega)) only [push_cast, Int.reduceToNat, Int.reduceEq, Int.reduceNe, Int.reduceLT, Int.reduceLE, Int.reduceAdd, Int.reduceSub, Int.reduceMul, Int.reduceNeg, Nat.reduceEqDiff, Nat.reduceBEq, Nat.reduceBNe, Nat.reduceAdd, Nat.reduceLeDiff, Nat.reduceLT, Nat.reduceMul, ↓reduceIte, reduceCtorEq, g108, pf108, b108, hcap2, hcap3, List.all_nil]
  refine If.dec (fun h => ?_) (fun h => ?_)
  · replace h : i < l.length := by omega
    have h2 := hf l[i] (List.getElem_mem h)
    try simp only [oP] at h2
    by_cases hp : p l[i] = true
    · rcases hpm with hpm | hpm | hpm | hpm <;> simp (maxSteps := 1000000) (disch := first | assumption | ((try simp only [LEN, LEN2]); omega)) only [push_cast, Int.reduceToNat, Int.reduceEq, Int.reduceNe, Int.reduceLT, Int.reduceLE, Int.reduceAdd, Int.reduceSub, Int.reduceMul, Int.reduceNeg, Nat.reduceEqDiff, Nat.reduceBEq, Nat.reduceBNe, Nat.reduceAdd, Nat.reduceLeDiff, Nat.reduceLT, Nat.reduceMul, ↓reduceIte, reduceCtorEq, g108, pf108, b108, hcap2, hcap3, List.all_nil, hpm, eP, callT_eq h2, hp] <;> rw [idx_some h ht hp]
    · rw [Bool.not_eq_true] at hp
      rcases hpm with hpm | hpm | hpm | hpm <;> simp (maxSteps := 1000000) (disch := first | assumption | ((try simp only [LEN, LEN2]); omega)) only [push_cast, Int.reduceToNat, Int.reduceEq, Int.reduceNe, Int.reduceLT, Int.reduceLE, Int.reduceAdd, Int.reduceSub, Int.reduceMul, Int.reduceNeg, Nat.reduceEqDiff, Nat.reduceBEq, Nat.reduceBNe, Nat.reduceAdd, Nat.reduceLeDiff, Nat.reduceLT, Nat.reduceMul, ↓reduceIte, reduceCtorEq, g108, pf108, b108, hcap2, hcap3, List.all_nil, hpm, eP, callT_eq h2, hp]
      all_goals
        refine ⟨i + 1, rfl, ⟨by omega, fun x hx => ?_⟩, by omega⟩
        rw [List.take_succ_eq_append_getElem h, List.mem_append, List.mem_singleton] at hx
        rcases hx with hx | rfl
        · exact ht x hx
        · exact hp
  · obtain rfl : i = l.length := by omega
    simp (maxSteps := 1000000) (disch := first | assumption | ((try simp only [LEN, LEN2]); omega)) only [push_cast, Int.reduceToNat, Int.reduceEq, Int.reduceNe, Int.reduceLT, Int.reduceLE, Int.reduceAdd, Int.reduceSub, Int.reduceMul, Int.reduceNeg, Nat.reduceEqDiff, Nat.reduceBEq, Nat.reduceBNe, Nat.reduceAdd, Nat.reduceLeDiff, Nat.reduceLT, Nat.reduceMul, ↓reduceIte, reduceCtorEq, g108, pf108, b108, hcap2, hcap3, List.all_nil]
    rw [idx_none (fun x hx => ht x (by rw [List.take_length]; exact hx))]
theorem f91 {l : List (Put)} {f : FuncId} {caps : List T} {p : (Put) → Bool} (hl : l.length ≤ 1000000000) (hpm : G.pm f = [.ro] ∨ G.pm f = [.ro, .ro] ∨ G.pm f = [.ro, .ro, .ro] ∨ G.pm f = [.ro, .ro, .ro, .ro]) (hcap : capsData caps = true) (hf : ∀ w ∈ l, Fun G f (.vs true (oP w) :: caps) (.bool (p w), [])) :
    Fun G 91 [.one (.d (.sl (l.map eP))), .fn f caps] (.bool (l.any p), []) := by
  refine Fun.of_run (g := g91) (pf := pf91) rfl rfl rfl rfl ?_
  have hcap2 := capsRo_data (caps := caps) hcap
  have hcap3 := rootsL_data (caps := caps) hcap
  simp (maxSteps := 1000000) (disch := first | assumption | ((try simp only [LEN, LEN2]); omega)) only [push_cast, Int.reduceToNat, Int.reduceEq, Int.reduceNe, Int.reduceLT, Int.reduceLE, Int.reduceAdd, Int.reduceSub, Int.reduceMul, Int.reduceNeg, Nat.reduceEqDiff, Nat.reduceBEq, Nat.reduceBNe, Nat.reduceAdd, Nat.reduceLeDiff, Nat.reduceLT, Nat.reduceMul, ↓reduceIte, reduceCtorEq, g91, pf91, b91, hcap2, hcap3, List.all_nil, callC_eq (f108 hl hpm hcap hf)]
  rw [← idx_nonneg]

set_option maxHeartbeats 2000000 in
theorem f90 {s : List UInt8}  : Fun G 90 [.str (bs s)] (.bool (decide (s.length = 32)), []) := by
  refine Fun.of_run (g := g90) (pf := pf90) rfl rfl rfl rfl ?_
  simp (maxSteps := 1000000) (disch := first | assumption | ((try simp only [LEN, LEN2]); omega)) only [push_cast, Int.reduceToNat, Int.reduceEq, Int.reduceNe, Int.reduceLT, Int.reduceLE, Int.reduceAdd, Int.reduceSub, Int.reduceMul, Int.reduceNeg, Nat.reduceEqDiff, Nat.reduceBEq, Nat.reduceBNe, Nat.reduceAdd, Nat.reduceLeDiff, Nat.reduceLT, Nat.reduceMul, ↓reduceIte, reduceCtorEq, g90, pf90, b90]
  exact boolRes (by omega)
theorem f90c {s : List UInt8}  {g : VG} {F : Fn} {lk : Bool} {e : Env} {dst : Option Nat} {ops : List Ins} {keep : Option (List Nat)} {K : List Fr} : CallC G g F 90 [.str (bs s)] lk e dst ops keep K = ThenL G g F (if lk && !(T.noSl (.bool (decide (s.length = 32)))) then none else e.put g.un dst (.bool (decide (s.length = 32)))) ops keep K := callC_eq (f90 )
attribute [push_cast] f90c
set_option maxHeartbeats 2000000 in
theorem f89 {s : List UInt8}  : Fun G 89 [.str (bs s)] (.bool (!decide (s.length = 32)), []) := by
  refine Fun.of_run (g := g89) (pf := pf89) rfl rfl rfl rfl ?_
  simp (maxSteps := 1000000) (disch := first | assumption | ((try simp only [LEN, LEN2]); omega)) only [push_cast, Int.reduceToNat, Int.reduceEq, Int.reduceNe, Int.reduceLT, Int.reduceLE, Int.reduceAdd, Int.reduceSub, Int.reduceMul, Int.reduceNeg, Nat.reduceEqDiff, Nat.reduceBEq, Nat.reduceBNe, Nat.reduceAdd, Nat.reduceLeDiff, Nat.reduceLT, Nat.reduceMul, ↓reduceIte, reduceCtorEq, g89, pf89, b89]
theorem f89c {s : List UInt8}  {g : VG} {F : Fn} {lk : Bool} {e : Env} {dst : Option Nat} {ops : List Ins} {keep : Option (List Nat)} {K : List Fr} : CallC G g F 89 [.str (bs s)] lk e dst ops keep K = ThenL G g F (if lk && !(T.noSl (.bool (!decide (s.length = 32)))) then none else e.put g.un dst (.bool (!decide (s.length = 32)))) ops keep K := callC_eq (f89 )
attribute [push_cast] f89c

set_option maxHeartbeats 2000000 in
theorem f61 {S : List (List UInt8)} {W : List Put} {i : Int} (h : S.length ≤ 1000000000) : Fun G 61 [.vs true (cT S W), .int .i64 i] (.bool (decide (0 ≤ i ∧ i < S.length)), []) := by
  refine Fun.of_run (g := g61) (pf := pf61) rfl rfl rfl rfl ?_
  by_cases h1 : 0 ≤ i
  · simp (maxSteps := 1000000) (disch := first | assumption | ((try simp only [LEN, LEN2]); omega)) only [push_cast, Int.reduceToNat, Int.reduceEq, Int.reduceNe, Int.reduceLT, Int.reduceLE, Int.reduceAdd, Int.reduceSub, Int.reduceMul, Int.reduceNeg, Nat.reduceEqDiff, Nat.reduceBEq, Nat.reduceBNe, Nat.reduceAdd, Nat.reduceLeDiff, Nat.reduceLT, Nat.reduceMul, ↓reduceIte, reduceCtorEq, g61, pf61, b61, h1]
  · simp (maxSteps := 1000000) (disch := first | assumption | ((try simp only [LEN, LEN2]); omega)) only [push_cast, Int.reduceToNat, Int.reduceEq, Int.reduceNe, Int.reduceLT, Int.reduceLE, Int.reduceAdd, Int.reduceSub, Int.reduceMul, Int.reduceNeg, Nat.reduceEqDiff, Nat.reduceBEq, Nat.reduceBNe, Nat.reduceAdd, Nat.reduceLeDiff, Nat.reduceLT, Nat.reduceMul, ↓reduceIte, reduceCtorEq, g61, pf61, b61, h1]
theorem f61c {S : List (List UInt8)} {W : List Put} {i : Int} (h : S.length ≤ 1000000000) {g : VG} {F : Fn} {lk : Bool} {e : Env} {dst : Option Nat} {ops : List Ins} {keep : Option (List Nat)} {K : List Fr} : CallC G g F 61 [.vs true (cT S W), .int .i64 i] lk e dst ops keep K = ThenL G g F (if lk && !(T.noSl (.bool (decide (0 ≤ i ∧ i < S.length)))) then none else e.put g.un dst (.bool (decide (0 ≤ i ∧ i < S.length)))) ops keep K := callC_eq (f61 h)
attribute [push_cast] f61c

set_option maxHeartbeats 2000000 in
theorem f92 {S : List (List UInt8)} {W : List Put} {p : Put} (h : S.length ≤ 1000000000) : Fun G 92 [.vs true (oP p), .adr [.sl (S.map eS), .sl (W.map eP)]] (.bool (!(decide (0 ≤ p.At ∧ p.At < S.length ∧ p.Text.length = 32))), []) := by
  refine Fun.of_run (g := g92) (pf := pf92) rfl rfl rfl rfl ?_
  by_cases h1 : 0 ≤ p.At ∧ p.At < S.length
  · simp (maxSteps := 1000000) (disch := first | assumption | ((try simp only [LEN, LEN2]); omega)) only [push_cast, Int.reduceToNat, Int.reduceEq, Int.reduceNe, Int.reduceLT, Int.reduceLE, Int.reduceAdd, Int.reduceSub, Int.reduceMul, Int.reduceNeg, Nat.reduceEqDiff, Nat.reduceBEq, Nat.reduceBNe, Nat.reduceAdd, Nat.reduceLeDiff, Nat.reduceLT, Nat.reduceMul, ↓reduceIte, reduceCtorEq, g92, pf92, b92, oP, h1]
  · simp (maxSteps := 1000000) (disch := first | assumption | ((try simp only [LEN, LEN2]); omega)) only [push_cast, Int.reduceToNat, Int.reduceEq, Int.reduceNe, Int.reduceLT, Int.reduceLE, Int.reduceAdd, Int.reduceSub, Int.reduceMul, Int.reduceNeg, Nat.reduceEqDiff, Nat.reduceBEq, Nat.reduceBNe, Nat.reduceAdd, Nat.reduceLeDiff, Nat.reduceLT, Nat.reduceMul, ↓reduceIte, reduceCtorEq, g92, pf92, b92, oP, h1]
    have : ¬ (0 ≤ p.At ∧ p.At < S.length ∧ p.Text.length = 32) := fun h => h1 ⟨h.1, h.2.1⟩
    simp [this]
theorem f92c {S : List (List UInt8)} {W : List Put} {p : Put} (h : S.length ≤ 1000000000) {g : VG} {F : Fn} {lk : Bool} {e : Env} {dst : Option Nat} {ops : List Ins} {keep : Option (List Nat)} {K : List Fr} : CallC G g F 92 [.vs true (oP p), .adr [.sl (S.map eS), .sl (W.map eP)]] lk e dst ops keep K = ThenL G g F (if lk && !(T.noSl (.bool (!(decide (0 ≤ p.At ∧ p.At < S.length ∧ p.Text.length = 32))))) then none else e.put g.un dst (.bool (!(decide (0 ≤ p.At ∧ p.At < S.length ∧ p.Text.length = 32))))) ops keep K := callC_eq (f92 h)
attribute [push_cast] f92c

set_option maxHeartbeats 2000000 in
theorem f56 {S : List (List UInt8)} {W : List Put} (hS : S.length ≤ 1000000000) (hW : W.length ≤ 1000000000) : Fun G 56 [.vs true (cT S W)] (.bool (okT S W), []) := by
  refine Fun.of_run (g := g56) (pf := pf56) rfl rfl rfl rfl ?_
  have h1 := f88 (l := S) (f := 89) (caps := []) (p := fun s => !decide (s.length = 32)) hS (.inl rfl) rfl (fun w _ => f89)
  have h2 := f91 (l := W) (f := 92) (caps := [.adr [.sl (S.map eS), .sl (W.map eP)]]) (p := fun p => !(decide (0 ≤ p.At ∧ p.At < S.length ∧ p.Text.length = 32))) hW (.inr (.inl rfl)) rfl (fun w _ => f92 hS)
  by_cases h3 : (S.length : Int) < 1
  · simp (maxSteps := 1000000) (disch := first | assumption | ((try simp only [LEN, LEN2]); omega)) only [push_cast, Int.reduceToNat, Int.reduceEq, Int.reduceNe, Int.reduceLT, Int.reduceLE, Int.reduceAdd, Int.reduceSub, Int.reduceMul, Int.reduceNeg, Nat.reduceEqDiff, Nat.reduceBEq, Nat.reduceBNe, Nat.reduceAdd, Nat.reduceLeDiff, Nat.reduceLT, Nat.reduceMul, ↓reduceIte, reduceCtorEq, g56, pf56, b56, h3]
    simp [okT]; omega
  by_cases h4 : (512 : Int) < S.length
  · simp (maxSteps := 1000000) (disch := first | assumption | ((try simp only [LEN, LEN2]); omega)) only [push_cast, Int.reduceToNat, Int.reduceEq, Int.reduceNe, Int.reduceLT, Int.reduceLE, Int.reduceAdd, Int.reduceSub, Int.reduceMul, Int.reduceNeg, Nat.reduceEqDiff, Nat.reduceBEq, Nat.reduceBNe, Nat.reduceAdd, Nat.reduceLeDiff, Nat.reduceLT, Nat.reduceMul, ↓reduceIte, reduceCtorEq, g56, pf56, b56, h3, h4]
    simp [okT]; omega
  by_cases h5 : (2048 : Int) < W.length
  · simp (maxSteps := 1000000) (disch := first | assumption | ((try simp only [LEN, LEN2]); omega)) only [push_cast, Int.reduceToNat, Int.reduceEq, Int.reduceNe, Int.reduceLT, Int.reduceLE, Int.reduceAdd, Int.reduceSub, Int.reduceMul, Int.reduceNeg, Nat.reduceEqDiff, Nat.reduceBEq, Nat.reduceBNe, Nat.reduceAdd, Nat.reduceLeDiff, Nat.reduceLT, Nat.reduceMul, ↓reduceIte, reduceCtorEq, g56, pf56, b56, h3, h4, h5]
    simp [okT]; omega
  have e1 : okT S W = (S.all (fun s => decide (s.length = 32)) && W.all (okP S.length)) := by
    simp only [okT]
    rw [show decide (1 ≤ S.length ∧ S.length ≤ 512 ∧ W.length ≤ 2048) = true by simp; omega, Bool.true_and]
  have e2 : (S.any fun s => !decide (s.length = 32)) = !(S.all fun s => decide (s.length = 32)) := by rw [List.not_all_eq_any_not]
  have e3 : (W.any fun p => !decide (0 ≤ p.At ∧ p.At < S.length ∧ p.Text.length = 32)) = !(W.all (okP S.length)) := by rw [List.not_all_eq_any_not]; rfl
  rw [e2] at h1
  rw [e3] at h2
  rw [e1]
  cases h6 : S.all (fun s => decide (s.length = 32))
  · simp only [h6, Bool.not_false] at h1
    simp (maxSteps := 1000000) (disch := first | assumption | ((try simp only [LEN, LEN2]); omega)) only [push_cast, Int.reduceToNat, Int.reduceEq, Int.reduceNe, Int.reduceLT, Int.reduceLE, Int.reduceAdd, Int.reduceSub, Int.reduceMul, Int.reduceNeg, Nat.reduceEqDiff, Nat.reduceBEq, Nat.reduceBNe, Nat.reduceAdd, Nat.reduceLeDiff, Nat.reduceLT, Nat.reduceMul, ↓reduceIte, reduceCtorEq, g56, pf56, b56, h3, h4, h5, callC_eq h1]
  · simp only [h6, Bool.not_true] at h1
    simp (maxSteps := 1000000) (disch := first | assumption | ((try simp only [LEN, LEN2]); omega)) only [push_cast, Int.reduceToNat, Int.reduceEq, Int.reduceNe, Int.reduceLT, Int.reduceLE, Int.reduceAdd, Int.reduceSub, Int.reduceMul, Int.reduceNeg, Nat.reduceEqDiff, Nat.reduceBEq, Nat.reduceBNe, Nat.reduceAdd, Nat.reduceLeDiff, Nat.reduceLT, Nat.reduceMul, ↓reduceIte, reduceCtorEq, g56, pf56, b56, h3, h4, h5, callC_eq h1, callC_eq h2]
    rw [Bool.not_not]
theorem f56c {S : List (List UInt8)} {W : List Put} (hS : S.length ≤ 1000000000) (hW : W.length ≤ 1000000000) {g : VG} {F : Fn} {lk : Bool} {e : Env} {dst : Option Nat} {ops : List Ins} {keep : Option (List Nat)} {K : List Fr} : CallC G g F 56 [.vs true (cT S W)] lk e dst ops keep K = ThenL G g F (if lk && !(T.noSl (.bool (okT S W))) then none else e.put g.un dst (.bool (okT S W))) ops keep K := callC_eq (f56 hS hW)
attribute [push_cast] f56c
end Go.Mir.Try
