/- The law CodeLong answers true, and its input reads behind the call as before, for every input of bulk at most 1048576. The law itself. -/
import Derived.Test.YtnijfjppolamlaaMirCl3
import Derived.Test.YtnijfjppolamlaaRows
import Derived.WalkKit
import Derived.ProofKit
import Derived.OpenShut
import Derived.JoinedCond
import Derived.Below
/- The law CodeLong: where the input's bulk is at most 1048576 the law answers true, and the input reads as it did. -/
set_option linter.unusedVariables false
set_option maxRecDepth 100000
namespace Go.Mir.Try
open Go.Proofs Go.Mir.Q

theorem decW {n : Nat} : Dec Try.prog (n + 2) 84 eW (fun w => okN w.Table) :=
  dec_struct (fun x => (⟨x.1, x.2.1, x.2.2.1, x.2.2.2.1⟩ : Write)) Try.underlying84 (decFs_cons (dec_int Try.underlying3) (decFs_cons (dec_str Try.underlying9) (decFs_cons (dec_str Try.underlying9) (decFs_cons (dec_bool Try.underlying4) decFs_nil)))) (fun _ => by rfl) (fun _ h => by exact h.1)
theorem decR {n : Nat} : Dec Try.prog (n + 4) 32 eR (fun r => okN r.Commit ∧ ∀ w ∈ r.Writes, okN w.Table) :=
  dec_struct (fun x => (⟨x.1, x.2.1⟩ : Record)) Try.underlying32 (decFs_cons (dec_int Try.underlying3) (decFs_cons (dec_slice Try.underlying30 decW) decFs_nil)) (fun _ => by rfl) (fun _ h => by exact ⟨h.1, h.2.1⟩)
theorem decS {n : Nat} : Dec Try.prog (n + 1) 9 eS (fun _ => True) := dec_str Try.underlying9
theorem decN {n : Nat} : Dec Try.prog (n + 1) 3 eN okN := dec_int Try.underlying3
abbrev Ask := List Record × List (List UInt8) × List Int × List (List (List UInt8))
def eAsk (a : Ask) : List D := [.sl (a.1.map eR), .sl (a.2.1.map eS), .sl (a.2.2.1.map eN), .sl (a.2.2.2.map fun l => [.sl (l.map eS)])]
theorem decAsk {n : Nat} : Dec Try.prog (n + 6) 27 eAsk (fun a => (∀ r ∈ a.1, okN r.Commit) ∧ ∀ x ∈ a.2.2.1, okN x) :=
  dec_struct (fun x => (x.1, x.2.1, x.2.2.1, x.2.2.2.1)) Try.underlying27 (decFs_cons (dec_slice Try.underlying22 decR) (decFs_cons (dec_slice Try.underlying23 decS) (decFs_cons (dec_slice Try.underlying24 decN) (decFs_cons (dec_slice Try.underlying25 (dec_slice Try.underlying23 decS)) decFs_nil)))) (fun _ => by rfl) (fun _ h => by exact ⟨fun r hr => (h.1 r hr).1, h.2.2.1⟩)

theorem wt_S {l : List (List UInt8)} (h : wtss (l.map eS) ≤ 1048576) : smS l :=
  ⟨by have := len_wtss (en := eS) (fun x => by simp [eS, wts, D.wt]) l; omega, fun s hs => by have := wtss_map (en := eS) hs; simp only [eS, wts, D.wt, bs_size] at this; omega⟩
theorem wt_W {l : List Write} (h : wtss (l.map eW) ≤ 1048576) : smW l :=
  ⟨by have := len_wtss (en := eW) (fun x => by simp only [eW, wts, D.wt]; omega) l; omega, fun s hs => by have := wtss_map (en := eW) hs; simp only [eW, wts, D.wt, bs_size] at this; omega⟩
theorem wt_R {l : List Record} (h : wtss (l.map eR) ≤ 1048576) (hc : ∀ r ∈ l, okN r.Commit) : smR l :=
  ⟨by have := len_wtss (en := eR) (fun x => by simp only [eR, wts, D.wt]; omega) l; omega, fun r hr => ⟨wt_W (by have := wtss_map (en := eR) hr; simp only [eR, wts, D.wt] at this; omega), hc r hr⟩⟩
theorem wt_L {L : List (List (List UInt8))} (h : wtss (L.map fun l => [.sl (l.map eS)]) ≤ 1048576) : L.length ≤ 1048576 ∧ ∀ l ∈ L, smS l :=
  ⟨by have := len_wtss (en := fun l : List (List UInt8) => [.sl (l.map eS)]) (fun x => by simp only [wts, D.wt]; omega) L; omega, fun l hl => wt_S (by have := wtss_map (en := fun l : List (List UInt8) => [.sl (l.map eS)]) hl; simp only [wts, D.wt] at this; omega)⟩

theorem law9 {ds : List D} (h : Fits Try.prog 8 27 ds) (hw : wts ds ≤ 1048576) : ∃ k, callK G k 9 [.vs true (dsV ds)] = some (.bool true, []) := by
  obtain ⟨⟨R, S, N, L⟩, rfl, hc, _⟩ := decAsk (n := 2) ds h
  simp only [eAsk, wts, D.wt] at hw hc
  have hN := len_wtss (en := eN) (fun x => by simp [eN, wts, D.wt]) N
  exact f9 (R := R) (S := S) (N := N) (L := L) (by omega)
end Go.Mir.Try

namespace Go.Proofs.Ytnijfjppolamlaa.codeLong
open Go.ChangeShapes Go.WideShapes Go.ChangeAt Go.RowKit

theorem own : ownKnob Try.prog.godebug = none := by kernel_rfl
theorem laidOut : laidOutB Try.prog = true := by kernel_rfl

theorem bulk_one {H : Type} (d : DataW H) : 1 ≤ Rows.uptoBulk d := by
  cases d with
  | lit l => cases l <;> simp [Rows.uptoBulk]
  | nil => simp [Rows.uptoBulk]
  | ptr d => simp [Rows.uptoBulk]
  | slice elems spare => simp [Rows.uptoBulk]
  | agg parts => simp [Rows.uptoBulk]
  | iface t d => simp [Rows.uptoBulk]
  | map entries => simp [Rows.uptoBulk]
  | held h => simp [Rows.uptoBulk]
theorem bulk_len {H : Type} (l : List (DataW H)) : l.length ≤ Rows.uptoBulkAll l := by
  induction l with
  | nil => simp [Rows.uptoBulkAll]
  | cons x r ih => have := bulk_one x; simp only [Rows.uptoBulkAll, List.length_cons]; omega
theorem rd_wt {H : Type} {d : DataW H} {ds : List Go.Mir.D} (h : Go.Mir.Rd d ds) : Go.Mir.wts ds ≤ Rows.uptoBulk d :=
  h.wt (BA := Rows.uptoBulkAll) (fun s => by simp [Rows.uptoBulk]) (fun e s => by simp only [Rows.uptoBulk]; omega) (fun p => by simp [Rows.uptoBulk]) (fun _ _ => rfl) bulk_one

theorem contract (H : Type) (enc : TypeId × Value → H) (W : World) (base : Nat) (args : Array Value) (ds gs : List (DataW H)) (before : List MemPlace)
    (hval : ∀ (j : Nat) t v, Try.f9.params[j]? = some t → args[j]? = some v → Value.okWide Try.prog W .any base t v)
    (hW : DataW.Whole enc Try.prog Try.f9.params.toList Rows.codeLongSpec.vars false W args.toList ds gs before) (hk : Rows.uptoSmall H (ds ++ gs) = true) :
    Calls Try.prog 9 args W fun e W' => ∃ v, e = .returned v ∧ Rows.codeLongSpec.post enc Try.prog Try.f9 false true false false W args v W' := by
  have hW' := hW
  obtain ⟨p, q, hA0, hV, rfl, hfz, hnd⟩ := hW
  have hA : DataW.TrodAll enc Try.prog W 0 (fun _ => true) true Try.f9.params.toList args.toList ds p := hA0
  rw [Try.params9] at hA hval
  obtain ⟨v0, vs0, d0, ds0, p0, q0, hargs, rfl, rfl, h0, r0⟩ := trodAll_cons hA
  obtain ⟨rfl, rfl, rfl⟩ := trodAll_nil r0
  obtain rfl : args = #[v0] := by cases args; simp_all
  obtain ⟨rfl, rfl⟩ := trodVars_none hV
  have hb := of_decide_eq_true hk
  have k0 := h0
  have lt0 : ∀ x ∈ p0, x.block < W.heap.size := by obtain ⟨m, hm⟩ := k0; exact DataW.trod_lt m _ _ _ hm
  clear hA0
  refine (Go.Mir.law_calls Go.Mir.Try.soundG (by kernel_rfl) Try.underlying27 (hval 0 27 v0 rfl rfl) h0 (n := 8) fun ds _ hf hr => Go.Mir.Try.law9 hf ?_).mono fun e W' ⟨he, bel⟩ => ?_
  · have := rd_wt hr
    simp only [List.append_nil, Rows.uptoBulkAll] at hb
    omega
  subst he
  exact ⟨_, rfl, _, _, _, [], _, [], hW', trodAll_mk1 (shut_bool Try.underlying4 _), trodAll_cons_mk (Below.trod laidOut (by kernel_rfl) (of_decide_eq_true (by kernel_rfl)) k0 bel lt0) trodAll_mk0, rfl, bel.frame _, fun h => by cases h⟩

theorem lifted (os : Os) (started : os.Started) (H : Type) (enc : TypeId × Value → H) (F : Stop.Interp) :
    ReturnsInHanded {} Try.checked os 9 .any ((Rows.OpenSpec.upto Rows.codeLongSpec).pre6 enc Try.prog Try.f9 Rows.codeLongUptoRow.domain false) (((Rows.OpenSpec.upto Rows.codeLongSpec).at F).post enc Try.prog Try.f9 false true false false) := by
  refine returnsInHanded_of_cond (C := Try.checked) (s := Rows.OpenSpec.upto Rows.codeLongSpec) (k := Rows.uptoSmall) rfl own started (by kernel_rfl) Try.func9
    (OpenSpec.witness (enc := enc) (C := Try.checked) (s := Rows.OpenSpec.upto Rows.codeLongSpec) (k := Rows.uptoSmall) rfl false ⟨#[], #[.agg #[.slice none 0 0, .slice none 0 0, .slice none 0 0, .slice none 0 0]], []⟩ 8 (by kernel_rfl) (by kernel_rfl) (by kernel_rfl)
      (x := ([.agg [.nil, .nil, .nil, .nil]], [], [])) (by kernel_rfl) rfl (by kernel_rfl)) ?_
  intro W base args ds gs before hval hW _ hk _
  exact contract H enc W base args ds gs before hval hW hk

theorem over : Rows.codeLongUptoRow.holds Try.pinned (Rows.OpenSpec.upto Rows.codeLongSpec) :=
  OpenClaim.holds_of_cond 9 Try.f9 rfl rfl rfl rfl rfl rfl rfl ⟨rfl, rfl, rfl, rfl, rfl⟩ rfl rfl rfl rfl rfl (by kernel_rfl) Try.func9 (by kernel_rfl)
    (of_decide_eq_true (by kernel_rfl)) (by unfold Func.isWrapper; first | (rw [if_pos (by decide +kernel)]; kernel_rfl) | (rw [if_neg (by decide +kernel)]; exact ⟨rfl, rfl⟩))
    (fun os started H enc _ F => lifted os started H enc F)
end Go.Proofs.Ytnijfjppolamlaa.codeLong

namespace Go.Proofs.Ytnijfjppolamlaa
/-- The law, for the claim. -/
theorem codeLong_holds : Rows.CodeLongUptoSaid := codeLong.over
end Go.Proofs.Ytnijfjppolamlaa
#print axioms Go.Proofs.Ytnijfjppolamlaa.codeLong_holds
