/- The law CodeLong answers true, and its input reads behind the call as before, for every input of bulk at most 1048576. Part 1 of its proof. -/
import Derived.Test.YtnijfjppolamlaaMirCl0
import Derived.Deep.AppendSrc
import Derived.Lib.ConvBytes
import Derived.Laws.BytesArg
import Derived.Orders
/- The mirror, part R: the remaining instructions without calls. -/
set_option linter.unusedVariables false
set_option linter.unusedSimpArgs false
namespace Go.Mir
open Go.RowKit

section
variable {C : Ctx} {e e' : Env} {tm : Nat → Value} {w : World} {Fs : Nat → Nat → Prop} {o : Oper} {call : FuncId → List T → Option Res} {pm : FuncId → List PM}

theorem ok_un (h : Rel C No e tm w Fs) {t t1 : TypeId} {op : UnOp} {x : Operand} {q : Opd} (hop : o.op = .unOp op t x) (hq : Mir.opd C.P t1 x = some q) (hi : ioI call pm C.rt e o.dst (.un op q) = some e') : Done C o e' tm w := by
  simp only [ioI] at hi
  obtain ⟨v, hv, hput⟩ := Option.bind_eq_some_iff.1 hi
  obtain ⟨F, tx, _⟩ := h.opd hq
  unfold un at hv
  split at hv
  · rename_i k n heq
    cases hv
    rw [heq] at tx
    obtain ⟨hx, _⟩ := VS.sc tx
    obtain ⟨Fs', h'⟩ := h.putSc hput rfl
    exact done_mk (by simp [execOp, hop, hx, Op.unary, Op.intArith]) h'
  · rename_i b heq
    cases hv
    rw [heq] at tx
    obtain ⟨hx, _⟩ := VS.sc tx
    obtain ⟨Fs', h'⟩ := h.putSc hput rfl
    exact done_mk (by simp [execOp, hop, hx, Op.unary]) h'
  · cases hv

theorem ok_conv (h : Rel C No e tm w Fs) {src dst t1 : TypeId} {k k0 : IntKind} {x : Operand} {q : Opd} (hop : o.op = .convert src dst x) (hs : C.P.underlying src = some (.int k0)) (hd : C.P.underlying dst = some (.int k)) (hq : Mir.opd C.P t1 x = some q)
    (hi : ioI call pm C.rt e o.dst (.conv k q) = some e') : Done C o e' tm w := by
  simp only [ioI] at hi
  obtain ⟨⟨k1, n⟩, hn, hput⟩ := Option.bind_eq_some_iff.1 hi
  have hx := h.toInt hq hn
  obtain ⟨Fs', h'⟩ := h.putSc hput rfl
  exact done_mk (by simp [execOp, hop, hx, convert, run_underlying hs, run_underlying hd, Conv.intToInt]) h'

theorem ok_same (h : Rel C No e tm w Fs) {src dst t1 : TypeId} {x : Operand} {q : Opd} (hop : o.op = .convert src dst x) (hs : C.P.underlying src = some .string) (hd : C.P.underlying dst = some .string) (hq : Mir.opd C.P t1 x = some q)
    (hi : ioI call pm C.rt e o.dst (.same q) = some e') : Done C o e' tm w := by
  simp only [ioI] at hi
  obtain ⟨s, hn, hput⟩ := Option.bind_eq_some_iff.1 hi
  have hx := h.toStr hq hn
  obtain ⟨Fs', h'⟩ := h.putSc hput rfl
  exact done_mk (by simp [execOp, hop, hx, convert, run_underlying hs, run_underlying hd]) h'

theorem ok_indexS (h : Rel C No e tm w Fs) {t t1 t2 : TypeId} {x i : Operand} {qx qi : Opd} (hop : o.op = .index t x i) (hu : C.P.underlying t = some .string) (hx : Mir.opd C.P t1 x = some qx) (hy : Mir.opd C.P t2 i = some qi)
    (hi : ioI call pm C.rt e o.dst (.indexS qx qi) = some e') : Done C o e' tm w := by
  simp only [ioI] at hi
  obtain ⟨⟨k, n⟩, hn, hi⟩ := Option.bind_eq_some_iff.1 hi
  obtain ⟨s, hs, hi⟩ := Option.bind_eq_some_iff.1 hi
  simp only at hi
  split at hi
  · rename_i h0
    obtain ⟨b, hb, hput⟩ := Option.bind_eq_some_iff.1 hi
    have hxv := h.toStr hx hs
    have hiv := h.toInt hy hn
    obtain ⟨Fs', h'⟩ := h.putSc hput rfl
    exact done_mk (by simp [execOp, hop, hxv, hiv, Instr.index, asIntOf, run_underlying hu, h0, hb]) h'
  · cases hi

theorem opds_all {P : Program} : ∀ {tys : List TypeId} {os : List Operand} {qs : List Opd}, opds P tys os = some qs → All2 (fun (a : Operand) (b : Opd) => ∃ ty, Mir.opd P ty a = some b) os qs
  | _, [], qs, h => by simp [opds] at h; subst h; exact .nil
  | [], o :: os, qs, h => by
    simp only [opds] at h
    obtain ⟨x, hx, h⟩ := Option.bind_eq_some_iff.1 h
    obtain ⟨xs, hxs, rfl⟩ := Option.map_eq_some_iff.1 h
    exact .cons ⟨_, hx⟩ (opds_all hxs)
  | t :: ts, o :: os, qs, h => by
    simp only [opds] at h
    obtain ⟨x, hx, h⟩ := Option.bind_eq_some_iff.1 h
    obtain ⟨xs, hxs, rfl⟩ := Option.map_eq_some_iff.1 h
    exact .cons ⟨_, hx⟩ (opds_all hxs)

theorem Rel.caps (h : Rel C No e tm w Fs) : ∀ {os : List Operand} {qs : List Opd} {ts : List T}, All2 (fun (a : Operand) (b : Opd) => ∃ ty, Mir.opd C.P ty a = some b) os qs → e.caps qs = some ts →
    ts.length = os.length ∧ ∀ (j : Nat) (t : T) (u : Value), ts[j]? = some t → (os.map (ev tm))[j]? = some u → CapR C.P w (okOf C.X No Fs) e tm t u
  | [], _, ts, .nil, hc => by simp [Env.caps] at hc; subst hc; simp
  | o :: os, _, ts, .cons (b := q) (bs := qs) ⟨ty, hq⟩ hr, hc => by
    simp only [Env.caps] at hc
    obtain ⟨t, ht, hc⟩ := Option.bind_eq_some_iff.1 hc
    split at hc
    · rename_i hok
      obtain ⟨ts', hts, rfl⟩ := Option.map_eq_some_iff.1 hc
      obtain ⟨hl, hall⟩ := Rel.caps h hr hts
      refine ⟨by simp [hl], fun j t' u hj hu => ?_⟩
      cases j with
      | zero =>
        simp at hj hu; subst hj; subst hu
        have := h.cp hq ht
        cases t with
        | vs a cs => exact ⟨hok, this⟩
        | at_ r k p => exact this.2
        | adr c => exact this.2
        | _ => simp [T.capOk] at hok
      | succ j => exact hall j t' u (by simpa using hj) (by simpa using hu)
    · cases hc

theorem ok_mkfn (h : Rel C No e tm w Fs) {f : FuncId} {caps : Array Operand} {qs : List Opd} {tys : List TypeId} {first : Array Operand} (hop : o.op = .makeFunc (.func f) first caps) (hf : first = #[]) (hq : opds C.P tys caps.toList = some qs)
    (hi : ioI call pm C.rt e o.dst (.mkfn f qs) = some e') : Done C o e' tm w := by
  simp only [ioI] at hi
  obtain ⟨ts, hts, hput⟩ := Option.bind_eq_some_iff.1 hi
  obtain ⟨hl, hall⟩ := h.caps (opds_all hq) hts
  subst hf
  obtain ⟨Fs', h'⟩ := h.put (F := No) (x := .func (.func f) #[] (caps.toList.map (ev tm)).toArray) hput ⟨fun _ h => h, _, rfl, by simpa using hl, hall⟩ fun b hb => hb
  refine done_mk (v := .func (.func f) #[] (caps.toList.map (ev tm)).toArray) (w' := w) ?_ (h'.letGo (H' := No) fun b hb => hb.elim)
  simp [execOp, hop, Instr.makeFunc]
  apply Array.toList_inj.1
  simp

theorem adrOf_snoc {w : World} {s : Nat × Nat} : ∀ {p : Pt} {v y : V} {u x : Value} {g : Nat}, valOf w v u p = some x → v.get p = some y → hdBlk x = some g → adrOf w v u (p ++ [s]) = some ⟨g, y.idx s, none⟩
  | [], v, y, u, x, g, h1, h2, h3 => by
    rw [V.get_nil] at h2; cases h2
    simp only [valOf] at h1; cases h1
    simp [adrOf, h3]
  | t :: p, v, y, u, x, g, h1, h2, h3 => by
    rw [V.get_cons] at h2
    obtain ⟨z, hz, h2⟩ := Option.bind_eq_some_iff.1 h2
    simp only [valOf] at h1
    obtain ⟨ad, ha, hc⟩ := Option.bind_eq_some_iff.1 h1
    cases p with
    | nil =>
      rw [V.get_nil] at h2; cases h2
      simp only [adrOf] at ha
      obtain ⟨g', hg', ha⟩ := Option.bind_eq_some_iff.1 ha
      simp at ha; subst ha
      simp only [List.cons_append, List.nil_append]
      rw [adrOf_step hg' hc hz]
      simp [adrOf, h3]
    | cons t' p =>
      cases hb : hdBlk u with
      | none => simp [adrOf, hb] at ha
      | some g' =>
        cases hcc : w.cell? ⟨g', v.idx t, none⟩ with
        | none => simp [adrOf, hb, hcc] at ha
        | some uy =>
          rw [adrOf_step hb hcc hz] at ha
          simp only [List.cons_append]
          rw [adrOf_step hb hcc hz]
          exact adrOf_snoc (p := t' :: p) (by simp only [valOf]; rw [ha]; exact hc) h2 h3

/-- A slice of one's own, seen. -/
theorem Own.elems {P : Program} {w : World} {ok : Nat → Prop} {v : V} {u : Value} {F : Nat → Prop} (h : Own P w ok v u F) {xs : List (List V)} (hv : (∃ el, v = .own el xs) ∨ v = .row xs) :
    ∃ A c, u = .slice A xs.length c ∧ ∃ us G, OwnL P w ok xs.flatten us G ∧ (∀ b, G b → F b) ∧
      (xs = [] ∨ ∃ b sz, 0 < sz ∧ A = some ⟨b, 0, none⟩ ∧ (∀ c ∈ xs, c.length = sz) ∧ ∀ (j : Nat) (u : Value), us[j]? = some u → w.cell? ⟨b, j, none⟩ = some u) := by
  cases h with
  | dead => rcases hv with ⟨_, hv⟩ | hv <;> cases hv
  | d => rcases hv with ⟨_, hv⟩ | hv <;> cases hv
  | @nil el A F hF =>
    rcases hv with ⟨_, hv⟩ | hv
    · cases hv; exact ⟨A, 0, rfl, [], No, OwnL.nil, fun _ h => h.elim, .inl rfl⟩
    · cases hv
  | @blk _ _ g vs cur el fz _ Fc hh hg hc hd hb hF =>
    have hlen := hh.len
    have key : vs = xs.flatten → OwnL P w ok xs.flatten (cur.toList.take vs.length) (fun b => ∃ j, j < vs.length ∧ Fc j b) := fun hvs => by
      subst hvs
      refine ⟨by rw [List.length_take, Nat.min_eq_left (by simpa using hlen)], Fc, fun j z y hz hy => ?_, hd, fun b => Iff.rfl⟩
      rw [List.getElem?_take] at hy
      split at hy
      · exact hc j z y hz (by simpa using hy)
      · cases hy
    have hmem : ∀ (j : Nat) (u : Value), (cur.toList.take vs.length)[j]? = some u → w.cell? ⟨g, j, none⟩ = some u := fun j u hj => by
      rw [List.getElem?_take] at hj
      split at hj
      · simp only [World.cell?, hg]; simpa using hj
      · cases hj
    have hsub : ∀ b, (∃ j, j < vs.length ∧ Fc j b) → F b := fun b hb => (hF b).2 (.inr hb)
    rcases hv with ⟨_, rfl⟩ | rfl
    · obtain ⟨rfl, _, hz, hsz, hvs, cap, rfl, _⟩ := hh
      exact ⟨_, cap, rfl, _, _, key hvs, hsub, .inr ⟨g, _, hz, rfl, hsz, hmem⟩⟩
    · obtain ⟨hsz, hvs, _, _, cap, rfl, _⟩ := hh
      exact ⟨_, cap, rfl, _, _, key hvs, hsub, .inr ⟨g, 1, by omega, rfl, hsz, hmem⟩⟩

theorem RO.elems {P : Program} {w : World} {ok : Nat → Prop} {xs : List (List D)} {u : Value} (h : RO w ok (.sl xs) u) :
    ∃ A c, u = .slice A xs.length c ∧ ∃ us, OwnL P w ok (xs.map (·.map V.d)).flatten us No ∧
      (xs = [] ∨ ∃ b o sz, 0 < sz ∧ A = some ⟨b, o, none⟩ ∧ (∀ c ∈ xs, c.length = sz) ∧ ok b ∧ us.length = xs.length * sz ∧ xs.length ≤ c ∧ (∀ (j : Nat) (u : Value), us[j]? = some u → w.cell? ⟨b, o + j, none⟩ = some u) ∧
        ∀ (j : Nat) (v : D) (u : Value), xs.flatten[j]? = some v → us[j]? = some u → RO w ok v u) := by
  cases h with
  | @nil A c => exact ⟨A, c, rfl, [], by simpa using OwnL.nil, .inl rfl⟩
  | @sl _ b o c sz us h0 hz hsz hc hok hl hu hr =>
    refine ⟨_, c, rfl, us, ?_, .inr ⟨b, o, sz, hz, rfl, hsz, hok, hl, hc, hu, hr⟩⟩
    have hfl : (xs.map (·.map V.d)).flatten = xs.flatten.map V.d := by rw [List.map_flatten]
    rw [hfl]
    refine OwnL.ofData (by rw [List.length_map, flat_len hsz, hl]) fun j v u hv hu => ?_
    rw [List.getElem?_map] at hv
    obtain ⟨d, hd, rfl⟩ := Option.map_eq_some_iff.1 hv
    exact .d (fun _ h => h) (hr j d u hd hu)

/-- **A slice, seen by its elements.** -/
theorem Rel.look {H : Nat → Prop} (h : Rel C H e tm w Fs) {ty : TypeId} {x : Operand} {q : Opd} (hq : Mir.opd C.P ty x = some q) {xs : List (List V)} (hx : e.elems q = some xs) :
    (∃ s, e.opd q = .str s ∧ xs = (bytesT s).map (·.map .d) ∧ ev tm x = .string s) ∨
    ∃ A c, ev tm x = .slice A xs.length c ∧ ∃ us G, OwnL C.P w (okOf C.X H Fs) xs.flatten us G ∧
      (xs = [] ∨ ∃ b o sz, 0 < sz ∧ A = some ⟨b, o, none⟩ ∧ (∀ c ∈ xs, c.length = sz) ∧ ∀ (j : Nat) (u : Value), us[j]? = some u → w.cell? ⟨b, o + j, none⟩ = some u) := by
  obtain ⟨F, ht, _⟩ := h.opd hq
  unfold Env.elems at hx
  split at hx
  · rename_i ys heq
    cases hx
    rw [heq] at ht
    have hro : RO w (okOf C.X H Fs) (.sl ys) (ev tm x) := by
      have := VS.toOne ht
      cases this with
      | d _ hr => exact hr
      | blk _ hh => simp [Shape] at hh
    obtain ⟨A, c, hu, us, ho, hr⟩ := RO.elems (P := C.P) hro
    refine .inr ⟨A, c, by simpa using hu, us, No, ho, ?_⟩
    rcases hr with rfl | ⟨b, o, sz, hz, hA, hsz, _, _, _, hmem, _⟩
    · exact .inl rfl
    · exact .inr ⟨b, o, sz, hz, hA, by simpa using hsz, hmem⟩
  · rename_i el ys heq
    cases hx
    rw [heq] at ht
    obtain ⟨A, c, hu, us, G, ho, _, hr⟩ := (VS.toOne ht).elems (.inl ⟨_, rfl⟩)
    exact .inr ⟨A, c, hu, us, G, ho, hr.imp id fun ⟨b, sz, h1, h2, h3, h4⟩ => ⟨b, 0, sz, h1, h2, h3, by simpa using h4⟩⟩
  · rename_i ys heq
    cases hx
    rw [heq] at ht
    obtain ⟨A, c, hu, us, G, ho, _, hr⟩ := (VS.toOne ht).elems (.inr rfl)
    exact .inr ⟨A, c, hu, us, G, ho, hr.imp id fun ⟨b, sz, h1, h2, h3, h4⟩ => ⟨b, 0, sz, h1, h2, h3, by simpa using h4⟩⟩
  · rename_i r k p heq
    rw [heq] at ht
    have hv : ∃ v, e.cell r k p = some v ∧ ((∃ el, v = .own el xs) ∨ v = .row xs) := by
      cases hc : e.cell r k p with
      | none => simp [hc] at hx
      | some v =>
        rw [hc] at hx
        cases v <;> simp at hx <;> subst hx
        · exact ⟨_, rfl, .inl ⟨_, rfl⟩⟩
        · exact ⟨_, rfl, .inr rfl⟩
    obtain ⟨v, hc, hv⟩ := hv
    have hown : ∃ G, Own C.P w (okOf C.X H Fs) v (ev tm x) G := by
      obtain ⟨a, cs, v0, u0, h1, h2, h3, h4, h5⟩ := ht.2
      obtain ⟨a', cs', v', g1, g2, g3⟩ := Env.cell_some hc
      rw [h1] at g1; cases g1
      rw [h2] at g2; cases g2
      obtain ⟨F', hF', _⟩ := h.root h1 h2 h3
      obtain ⟨ux, Fx, _, _, k1, k2, _⟩ := hF'.hole g3
      rw [h5] at k1; cases k1
      exact ⟨Fx, k2⟩
    obtain ⟨G0, hown⟩ := hown
    obtain ⟨A, c, hu, us, G, ho, _, hr⟩ := hown.elems hv
    exact .inr ⟨A, c, hu, us, G, ho, hr.imp id fun ⟨b, sz, h1, h2, h3, h4⟩ => ⟨b, 0, sz, h1, h2, h3, by simpa using h4⟩⟩
  · rename_i s heq
    cases hx
    rw [heq] at ht
    exact .inl ⟨s, heq, rfl, (VS.sc ht).1⟩
  · cases hx

theorem ok_lenS (h : Rel C No e tm w Fs) {x : Operand} {t t1 : TypeId} {q : Opd} (hop : o.op = .call { callee := .builtin .len, args := #[x], argTypes := #[t] }) (hu : C.P.underlying t = some .string) (hq : Mir.opd C.P t1 x = some q)
    (hi : ioI call pm C.rt e o.dst (.len true q) = some e') : Done C o e' tm w := by
  simp only [ioI] at hi
  obtain ⟨s, hs, hput⟩ := Option.bind_eq_some_iff.1 hi
  have hx := h.toStr hq hs
  obtain ⟨Fs', h'⟩ := h.putSc hput rfl
  exact done_mk (by simp [execOp, hop, hx, resolve, invoke, builtin, Builtin.len_, run_underlying hu, goInt]) h'

theorem ok_len (h : Rel C No e tm w Fs) {x : Operand} {t t1 el : TypeId} {q : Opd} (hop : o.op = .call { callee := .builtin .len, args := #[x], argTypes := #[t] }) (hu : C.P.underlying t = some (.slice el)) (hq : Mir.opd C.P t1 x = some q)
    (hi : ioI call pm C.rt e o.dst (.len false q) = some e') : Done C o e' tm w := by
  simp only [ioI] at hi
  split at hi
  · cases hi
  · rename_i hns
    obtain ⟨xs, hxs, hput⟩ := Option.bind_eq_some_iff.1 hi
    rcases h.look hq hxs with ⟨s, hs, _⟩ | ⟨A, c, hv, _⟩
    · rw [hs] at hns; simp [T.str?] at hns
    · obtain ⟨Fs', h'⟩ := h.putSc hput rfl
      exact done_mk (by simp [execOp, hop, hv, resolve, invoke, builtin, Builtin.len_, run_underlying hu, goInt]) h'

theorem info_of_cells {P : Program} {t : TypeId} (h : 0 < P.cellsOf t) : ∃ i, P.info? t = some i ∧ i.size = P.cellsOf t := by
  cases hi : P.info? t with
  | none => simp [Program.cellsOf, hi] at h
  | some i => exact ⟨i, rfl, by simp [Program.cellsOf, hi]⟩

theorem ok_indexA (h : Rel C No e tm w Fs) {t t1 t2 el : TypeId} {x i : Operand} {qx qi : Opd} (hop : o.op = .indexAddr t x i) (hu : C.P.underlying t = some (.slice el)) (hx : Mir.opd C.P t1 x = some qx) (hy : Mir.opd C.P t2 i = some qi)
    (hi : ioI call pm C.rt e o.dst (.indexA (C.P.cellsOf el) qx qi) = some e') : Done C o e' tm w := by
  simp only [ioI] at hi
  obtain ⟨⟨kk, n⟩, hn, hi2⟩ := Option.bind_eq_some_iff.1 hi
  clear hi
  have hiv := h.toInt hy hn
  have hi := hi2
  clear hi2
  simp only at hi
  split at hi
  · rename_i h0
    have hrun : ∀ {b off len c : Nat}, ev tm x = .slice (some ⟨b, off, none⟩) len c → n < len → 0 < C.P.cellsOf el → (execOp (ev tm) o).run C.P w = .ok (.value (.pointer (some ⟨b, off + n.toNat * C.P.cellsOf el, none⟩))) w := fun hxv hl hz => by
      obtain ⟨inf, hI, hsz⟩ := info_of_cells hz
      simp [execOp, hop, hxv, hiv, Instr.indexAt, asIntOf, run_underlying hu, h0, hl, sizeOf, typeInfo, hI, hsz, add_none]
    obtain ⟨F, ht, hw⟩ := h.opd hx
    have own : ∀ {v : V} {xs : List (List V)} {c : List V} {g : Nat} {u : Value} {F : Nat → Prop}, Own C.P w (okOf C.X No Fs) v u F → ((∃ el, v = .own el xs) ∨ v = .row xs) → xs[n.toNat]? = some c → c.length = C.P.cellsOf el →
        ev tm x = u → ∃ g, hdBlk u = some g ∧ v.idx (n.toNat, 0) = n.toNat * C.P.cellsOf el ∧ (execOp (ev tm) o).run C.P w = .ok (.value (.pointer (some ⟨g, n.toNat * C.P.cellsOf el, none⟩))) w := by
      intro v xs c _ u F ho hv hc hcl hxu
      obtain ⟨A, cp, rfl, us, G, _, _, hr⟩ := ho.elems hv
      rcases hr with rfl | ⟨b, sz, hz, rfl, hsz, _⟩
      · simp at hc
      · have hl := (List.getElem?_eq_some_iff.1 hc).1
        have hzz : sz = C.P.cellsOf el := by rw [← hcl]; exact (hsz c (List.mem_of_getElem? hc)).symm
        refine ⟨b, rfl, ?_, by simpa using hrun hxu (by omega) (by omega)⟩
        rcases hv with ⟨_, rfl⟩ | rfl <;> simp [V.idx, hc, hcl]
    split at hi
    · rename_i xs heq
      obtain ⟨c, hc, hi2⟩ := Option.bind_eq_some_iff.1 hi
      clear hi
      have hi := hi2
      clear hi2
      split at hi
      · rename_i hcl
        rw [heq] at ht
        have hro : RO w (okOf C.X No Fs) (.sl xs) (ev tm x) := by
          have := VS.toOne ht
          cases this with
          | d _ hr => exact hr
          | blk _ hh => simp [Shape] at hh
        obtain ⟨A, cp, hu', us, _, hr⟩ := RO.elems (P := C.P) hro
        rcases hr with rfl | ⟨b, of, sz, hz, rfl, hsz, hok, hl, _, hmem, hrr⟩
        · simp at hc
        · have hlt := (List.getElem?_eq_some_iff.1 hc).1
          have hzz : sz = C.P.cellsOf el := by rw [← hcl]; exact (hsz c (List.mem_of_getElem? hc)).symm
          subst hzz
          have hle : n.toNat * C.P.cellsOf el + C.P.cellsOf el ≤ us.length := by rw [hl, ← Nat.succ_mul]; exact Nat.mul_le_mul_right _ hlt
          have hadr : AdrR w (okOf C.X No Fs) c (.pointer (some ⟨b, of + n.toNat * C.P.cellsOf el, none⟩)) := by
            refine ⟨by intro e; rw [e] at hcl; simp at hcl; omega, b, _, (us.drop (n.toNat * C.P.cellsOf el)).take (C.P.cellsOf el), rfl, hok, by rw [List.length_take, List.length_drop, hcl]; omega, fun j u hj => ?_, fun j d u hd hj => ?_⟩
            · rw [List.getElem?_take] at hj
              split at hj
              · rw [Nat.add_assoc]; exact hmem _ u (by simpa using hj)
              · cases hj
            · rw [List.getElem?_take] at hj
              split at hj
              · exact hrr (n.toNat * C.P.cellsOf el + j) d u (flat_get hsz hc hd) (by simpa using hj)
              · cases hj
          obtain ⟨Fs', h'⟩ := h.put (F := No) hi ⟨fun _ h => h, hadr⟩ fun b hb => hb
          exact done_mk (hrun hu' (by omega) hz) (h'.letGo (H' := No) fun b hb => hb.elim)
      · cases hi
    · rename_i t' el' xs heq
      obtain ⟨c, hc, hi2⟩ := Option.bind_eq_some_iff.1 hi
      clear hi
      have hi := hi2
      clear hi2
      split at hi
      · rename_i hcl
        rw [heq] at ht
        rcases hw with ⟨t2, h1, rfl, _⟩ | ⟨_, _, hnn⟩
        · cases h1
          obtain ⟨g, k1, k2, k3⟩ := own (g := 0) (VS.toOne ht) (.inl ⟨_, rfl⟩) hc hcl rfl
          obtain ⟨Fs', h'⟩ := h.put (F := No) (x := .pointer (some ⟨g, n.toNat * C.P.cellsOf el, none⟩)) hi ⟨fun _ h => h, _, rfl, false, _, _, tm t', heq, rfl, by simp [cellsOf], by simp only [ev] at k1; simp [adrOf, k1, k2]⟩ fun b hb => hb
          exact done_mk k3 (h'.letGo (H' := No) fun b hb => hb.elim)
        · exact (hnn _ rfl).elim
      · cases hi
    · rename_i t' xs heq
      obtain ⟨c, hc, hi2⟩ := Option.bind_eq_some_iff.1 hi
      clear hi
      have hi := hi2
      clear hi2
      split at hi
      · rename_i hcl
        rw [heq] at ht
        rcases hw with ⟨t2, h1, rfl, _⟩ | ⟨_, _, hnn⟩
        · cases h1
          obtain ⟨g, k1, k2, k3⟩ := own (g := 0) (VS.toOne ht) (.inr rfl) hc hcl rfl
          obtain ⟨Fs', h'⟩ := h.put (F := No) (x := .pointer (some ⟨g, n.toNat * C.P.cellsOf el, none⟩)) hi ⟨fun _ h => h, _, rfl, false, _, _, tm t', heq, rfl, by simp [cellsOf], by simp only [ev] at k1; simp [adrOf, k1, k2]⟩ fun b hb => hb
          exact done_mk k3 (h'.letGo (H' := No) fun b hb => hb.elim)
        · exact (hnn _ rfl).elim
      · cases hi
    · rename_i r k p heq
      rw [heq] at ht
      have fin : ∀ (v : V) (xs : List (List V)) (c : List V), e.cell r k p = some v → ((∃ el, v = .own el xs) ∨ v = .row xs) → xs[n.toNat]? = some c → c.length = C.P.cellsOf el → e.put C.rt o.dst (.at_ r k (p ++ [(n.toNat, 0)])) = some e' → Done C o e' tm w := by
        intro v xs c hce hv hc hcl hput
        obtain ⟨a, cs, v0, u0, h1, h2, h3, h4, h5⟩ := ht.2
        obtain ⟨a', cs', v', g1, g2, g3⟩ := Env.cell_some hce
        rw [h1] at g1; cases g1
        rw [h2] at g2; cases g2
        obtain ⟨F', hF', _⟩ := h.root h1 h2 h3
        obtain ⟨ux, Fx, _, _, k1, k2, _⟩ := hF'.hole g3
        rw [h5] at k1; cases k1
        obtain ⟨g, m1, m2, m3⟩ := own (g := 0) k2 hv hc hcl rfl
        obtain ⟨Fs', h'⟩ := h.put (F := No) (x := .pointer (some ⟨g, n.toNat * C.P.cellsOf el, none⟩)) hput ⟨fun _ h => h, _, rfl, a, cs, v0, u0, h1, h2, h3, by rw [adrOf_snoc h5 g3 m1, m2]⟩ fun b hb => hb
        exact done_mk m3 (h'.letGo (H' := No) fun b hb => hb.elim)
      split at hi
      · rename_i el' xs hce
        obtain ⟨c, hc, hi2⟩ := Option.bind_eq_some_iff.1 hi
        clear hi
        have hi := hi2
        clear hi2
        split at hi
        · rename_i hcl; exact fin _ xs c hce (.inl ⟨_, rfl⟩) hc hcl hi
        · cases hi
      · rename_i xs hce
        obtain ⟨c, hc, hi2⟩ := Option.bind_eq_some_iff.1 hi
        clear hi
        have hi := hi2
        clear hi2
        split at hi
        · rename_i hcl; exact fin _ xs c hce (.inr rfl) hc hcl hi
        · cases hi
      · cases hi
    · cases hi
  · cases hi

theorem ok_mn (h : Rel C No e tm w Fs) {x y : Operand} {tys : Array TypeId} {qx qy : Opd} {t1 t2 : TypeId} (hop : o.op = .call { callee := .builtin .min, args := #[x, y], argTypes := tys }) (hx : Mir.opd C.P t1 x = some qx) (hy : Mir.opd C.P t2 y = some qy)
    (hi : ioI call pm C.rt e o.dst (.mn qx qy) = some e') : Done C o e' tm w := by
  simp only [ioI] at hi
  obtain ⟨⟨k, a⟩, ha, hi⟩ := Option.bind_eq_some_iff.1 hi
  obtain ⟨⟨k', b⟩, hb, hput⟩ := Option.bind_eq_some_iff.1 hi
  have hxv := h.toInt hx ha
  have hyv := h.toInt hy hb
  obtain ⟨Fs', h'⟩ := h.putSc hput rfl
  exact done_mk (by simp [execOp, hop, hxv, hyv, resolve, invoke, builtin, run_min_int2]) h'

theorem ok_mx (h : Rel C No e tm w Fs) {x y : Operand} {tys : Array TypeId} {qx qy : Opd} {t1 t2 : TypeId} (hop : o.op = .call { callee := .builtin .max, args := #[x, y], argTypes := tys }) (hx : Mir.opd C.P t1 x = some qx) (hy : Mir.opd C.P t2 y = some qy)
    (hi : ioI call pm C.rt e o.dst (.mx qx qy) = some e') : Done C o e' tm w := by
  simp only [ioI] at hi
  obtain ⟨⟨k, a⟩, ha, hi⟩ := Option.bind_eq_some_iff.1 hi
  obtain ⟨⟨k', b⟩, hb, hput⟩ := Option.bind_eq_some_iff.1 hi
  have hxv := h.toInt hx ha
  have hyv := h.toInt hy hb
  obtain ⟨Fs', h'⟩ := h.putSc hput rfl
  exact done_mk (by simp [execOp, hop, hxv, hyv, resolve, invoke, builtin, run_max_int2]) h'

end
end Go.Mir

/- The mirror, part S: cuts, conversions of texts, append. -/
set_option linter.unusedVariables false
set_option linter.unusedSimpArgs false
namespace Go.Mir
open Go.RowKit

section
variable {C : Ctx} {e e' : Env} {tm : Nat → Value} {w : World} {Fs : Nat → Nat → Prop} {o : Oper} {call : FuncId → List T → Option Res} {pm : FuncId → List PM}

def BoundV (v : Option Value) (d l : Int) : Prop := (v = none ∧ l = d) ∨ ∃ k, v = some (.int k l)

theorem Rel.bound (h : Rel C No e tm w Fs) {lo : Option Operand} {qlo : Option Opd} (hq : optO C.P lo = some qlo) {d l : Int} (hl : e.bound d qlo = some l) : BoundV (lo.map (ev tm)) d l ∧ (qlo.isNone = lo.isNone) := by
  cases lo with
  | none => simp [optO] at hq; subst hq; simp [Env.bound] at hl; exact ⟨.inl ⟨rfl, hl.symm⟩, rfl⟩
  | some x =>
    simp only [optO] at hq
    obtain ⟨q, hq', rfl⟩ := Option.map_eq_some_iff.1 hq
    simp only [Env.bound] at hl
    obtain ⟨⟨k, n⟩, hn, rfl⟩ := Option.map_eq_some_iff.1 hl
    exact ⟨.inr ⟨k, by simp [h.toInt hq' hn]⟩, rfl⟩

theorem run_bounds {P : Program} {w : World} {isS : Bool} {len cap : Nat} {lo hi : Option Value} {l hh : Int} (hlo : BoundV lo 0 l) (hhi : BoundV hi len hh) (h0 : 0 ≤ l) (h1 : l ≤ hh) (h2 : hh ≤ cap) :
    (Instr.sliceBounds isS len cap lo hi none).run P w = .ok (l.toNat, hh.toNat, cap) w := by
  have e1 : (hh.toNat : Int) = hh := Int.toNat_of_nonneg (by omega)
  rcases hlo with ⟨rfl, rfl⟩ | ⟨k, rfl⟩ <;> rcases hhi with ⟨rfl, rfl⟩ | ⟨k', rfl⟩
  · simp [Instr.sliceBounds]
  · simp [Instr.sliceBounds, run_sliceBound, h2, show 0 ≤ hh by omega]
  · simp [Instr.sliceBounds, run_sliceBound, h0, h1]
  · simp [Instr.sliceBounds, run_sliceBound, h0, h1, h2, e1, show 0 ≤ hh by omega]

theorem ok_sliceS (h : Rel C No e tm w Fs) {t t1 : TypeId} {x : Operand} {lo hi : Option Operand} {q : Opd} {ql qh : Option Opd} {sz : Nat} (hop : o.op = .slice t x lo hi none) (hu : C.P.underlying t = some .string) (hq : Mir.opd C.P t1 x = some q) (hl : optO C.P lo = some ql) (hh : optO C.P hi = some qh)
    (hi' : ioI call pm C.rt e o.dst (.slice true sz q ql qh) = some e') : Done C o e' tm w := by
  simp only [ioI] at hi'
  obtain ⟨s, hs, hi1⟩ := Option.bind_eq_some_iff.1 hi'
  obtain ⟨l, hl1, hi2⟩ := Option.bind_eq_some_iff.1 hi1
  obtain ⟨g, hg1, hi3⟩ := Option.bind_eq_some_iff.1 hi2
  clear hi' hi1 hi2
  split at hi3
  · rename_i hc
    have hx := h.toStr hq hs
    have b1 := (h.bound hl hl1).1
    have b2 := (h.bound hh hg1).1
    obtain ⟨Fs', h'⟩ := h.putSc hi3 rfl
    have hr := run_bounds (P := C.P) (w := w) (isS := false) (cap := s.size) b1 b2 hc.1 hc.2.1 hc.2.2
    exact done_mk (by simp [execOp, hop, hx, run_sliceAt_string w t _ _ _ _ hu, Instr.slice, run_underlying hu, hr]) h'
  · cases hi3

theorem Own.take {P : Program} {w : World} {ok : Nat → Prop} {el n c : Nat} {xs : List (List V)} {A : Option Addr} {F : Nat → Prop} (h : Own P w ok (.own el xs) (.slice A n c) F) {m : Nat} (hm : m ≤ xs.length) :
    ∃ F' : Nat → Prop, (∀ b, F' b → F b) ∧ Own P w ok (.own el (xs.take m)) (.slice A m c) F' := by
  cases h with
  | @nil _ A F hF =>
    simp at hm; subst hm
    exact ⟨F, fun b hb => hb, by simpa using Own.nil hF⟩
  | @blk _ _ g vs cur e fz F Fc hh hg hc hd hb hF =>
    obtain ⟨rfl, rfl, hz, hsz, rfl, cap, hu, h1, h2, h3⟩ := hh
    simp only [Value.slice.injEq] at hu
    obtain ⟨rfl, rfl, rfl⟩ := hu
    have hsz' : ∀ d ∈ xs.take m, d.length = P.cellsOf el := fun d hd => hsz d (List.mem_of_mem_take hd)
    have hlen : (xs.take m).length = m := by rw [List.length_take]; omega
    have hfl : ∀ j, j < (xs.take m).flatten.length → (xs.take m).flatten[j]? = xs.flatten[j]? ∧ j < xs.flatten.length := fun j hj => by
      have : xs.flatten = (xs.take m).flatten ++ (xs.drop m).flatten := by rw [← List.flatten_append, List.take_append_drop]
      rw [this, List.getElem?_append_left hj]
      exact ⟨rfl, by rw [List.length_append]; omega⟩
    refine ⟨fun b => b = g ∨ ∃ j, j < (xs.take m).flatten.length ∧ Fc j b, fun b hb => (hF b).2 (hb.imp id fun ⟨j, hj, hb⟩ => ⟨j, (hfl j hj).2, hb⟩), ?_⟩
    refine .blk Fc (fz := (0, 0)) ⟨rfl, rfl, hz, hsz', rfl, c, by rw [hlen], by rw [hlen]; omega, h2, h3⟩ hg (fun j v u hv hu => ?_) (fun i j b hi hj => hd i j b (hfl i hi).2 (hfl j hj).2) (fun j hj => hb j (hfl j hj).2) (fun b => Iff.rfl)
    have hj := (List.getElem?_eq_some_iff.1 hv).1
    rw [(hfl j hj).1] at hv
    exact hc j v u hv hu

theorem drop_flat {α : Type} {sz : Nat} : ∀ {xs : List (List α)} (h : ∀ c ∈ xs, c.length = sz) (l : Nat), (xs.drop l).flatten = xs.flatten.drop (l * sz)
  | xs, h, 0 => by simp
  | [], h, l + 1 => by simp
  | x :: xs, h, l + 1 => by
    rw [List.drop_succ_cons, drop_flat (fun c hc => h c (List.mem_cons_of_mem _ hc)) l, List.flatten_cons, Nat.add_mul, Nat.one_mul, Nat.add_comm, ← List.drop_drop,
      List.drop_left' (h x (by simp))]

theorem RO.cut {w : World} {ok : Nat → Prop} {xs : List (List D)} {A : Option Addr} {n c sz l h : Nat} (hr : RO w ok (.sl xs) (.slice A n c)) (h1 : l ≤ h) (h2 : h ≤ xs.length) (hs : l = 0 ∨ ∀ d ∈ xs, d.length = sz) :
    RO w ok (.sl ((xs.take h).drop l)) (sliced A l h c sz) := by
  have hlen : ((xs.take h).drop l).length = h - l := by rw [List.length_drop, List.length_take]; omega
  by_cases he : h = l
  · subst he
    have : (xs.take h).drop h = [] := List.eq_nil_of_length_eq_zero (by omega)
    rw [this]
    unfold sliced
    rw [Nat.sub_self]
    exact .nil
  · cases hr with
    | nil => simp at h2; omega
    | @sl _ b o _ sz' us h0 hz hsz hc hok hl hu hrr =>
      have hcl : c ≠ l := by omega
      have hszz : l = 0 ∨ sz' = sz := hs.imp id fun hs => by
        cases xs with
        | nil => exact (h0 rfl).elim
        | cons x xs => rw [← hsz x (by simp), hs x (by simp)]
      have hA : (if c = l then (some ⟨b, o, none⟩ : Option Addr) else (some (⟨b, o, none⟩ : Addr)).map (·.add (l * sz))) = some ⟨b, o + l * sz', none⟩ := by
        rw [if_neg hcl]
        rcases hszz with rfl | rfl <;> simp [add_none]
      unfold sliced
      rw [hA, ← hlen]
      have hle : l * sz' + (h - l) * sz' ≤ us.length := by rw [hl, ← Nat.add_mul]; exact Nat.mul_le_mul_right _ (by omega)
      refine .sl (sz := sz') ((us.drop (l * sz')).take ((h - l) * sz')) (by intro e; rw [e] at hlen; simp at hlen; omega) hz (fun d hd => hsz d (List.mem_of_mem_take (List.mem_of_mem_drop hd))) (by rw [hlen]; omega) hok
        (by rw [List.length_take, List.length_drop, hlen]; omega) (fun j u hj => ?_) (fun j v u hv hj => ?_)
      · rw [List.getElem?_take] at hj
        split at hj
        · rw [Nat.add_assoc]; exact hu _ u (by simpa using hj)
        · cases hj
      · rw [List.getElem?_take] at hj
        split at hj
        · refine hrr (l * sz' + j) v u ?_ (by simpa using hj)
          rw [drop_flat (fun d hd => hsz d (List.mem_of_mem_take hd)), List.getElem?_drop] at hv
          have hjl := (List.getElem?_eq_some_iff.1 hv).1
          have : xs.flatten = (xs.take h).flatten ++ (xs.drop h).flatten := by rw [← List.flatten_append, List.take_append_drop]
          rw [this, List.getElem?_append_left hjl]
          exact hv
        · cases hj

theorem ok_slice (h : Rel C No e tm w Fs) {t t1 el : TypeId} {x : Operand} {lo hi : Option Operand} {q : Opd} {ql qh : Option Opd} (hop : o.op = .slice t x lo hi none) (hu : C.P.underlying t = some (.slice el)) (hz : 0 < C.P.cellsOf el) (hq : Mir.opd C.P t1 x = some q) (hl : optO C.P lo = some ql) (hh : optO C.P hi = some qh)
    (hi' : ioI call pm C.rt e o.dst (.slice false (C.P.cellsOf el) q ql qh) = some e') : Done C o e' tm w := by
  simp only [ioI] at hi'
  obtain ⟨inf, hI, hsz⟩ := info_of_cells hz
  have hel : C.P.elem t = el := by simp [Program.elem, hu]
  have hrun : ∀ {A : Option Addr} {n c l g : Nat}, ev tm x = .slice A n c → (Instr.sliceBounds true n c (lo.map (ev tm)) (hi.map (ev tm)) none).run C.P w = .ok (l, g, c) w → (execOp (ev tm) o).run C.P w = .ok (.value (sliced A l g c (C.P.cellsOf el))) w := fun hx hb => by
    simp [execOp, hop, hx, run_sliceAt_slice w t _ _ _ _ (by rw [hel]; exact hu), Instr.slice, run_underlying hu, hb, sizeOf, typeInfo, hI, hsz, sliced]
  split at hi'
  · rename_i xs heq
    obtain ⟨l, hl1, hi2⟩ := Option.bind_eq_some_iff.1 hi'
    obtain ⟨g, hg1, hi3⟩ := Option.bind_eq_some_iff.1 hi2
    clear hi' hi2
    split at hi3
    · rename_i hc
      obtain ⟨F, ht, _⟩ := h.opd hq
      rw [heq] at ht
      have hro : RO w (okOf C.X No Fs) (.sl xs) (ev tm x) := by
        have := VS.toOne ht
        cases this with
        | d _ hr => exact hr
        | blk _ hh => simp [Shape] at hh
      obtain ⟨A, c, hu', us, _, hr⟩ := RO.elems (P := C.P) hro
      rw [hu'] at hro
      have hcap : xs.length ≤ c := by
        cases hro with
        | nil => simp
        | sl _ _ _ _ hc => exact hc
      have b1 := h.bound hl hl1
      have b2 := (h.bound hh hg1).1
      have hrb := run_bounds (P := C.P) (w := w) (isS := true) (cap := c) b1.1 b2 hc.1 hc.2.1 (by omega)
      have hcut := hro.cut (l := l.toNat) (h := g.toNat) (sz := C.P.cellsOf el) (by omega) (by omega) (by
        rcases hc.2.2.2 with hn | hn
        · rw [b1.2] at hn
          rcases b1.1 with ⟨_, rfl⟩ | ⟨k, hk⟩
          · exact .inl rfl
          · cases lo <;> simp at hn hk
        · exact .inr fun d hd => by have := List.all_eq_true.1 hn d hd; simpa using this)
      obtain ⟨Fs', h'⟩ := h.put (F := No) hi3 (VS.ofOne (.d (fun _ h => h) hcut)) fun b hb => hb
      exact done_mk (hrun hu' hrb) (h'.letGo (H' := No) fun b hb => hb.elim)
    · cases hi3
  · rename_i hns
    obtain ⟨⟨a, cs, e1⟩, hv, hi2⟩ := Option.bind_eq_some_iff.1 hi'
    clear hi'
    split at hi2
    · rename_i heq
      simp only [Prod.mk.injEq] at heq
      obtain ⟨rfl, rfl, rfl⟩ := heq
      rename_i _ el' xs
      obtain ⟨g, hg1, hi3⟩ := Option.bind_eq_some_iff.1 hi2
      clear hi2
      split at hi3
      · rename_i hc
        obtain ⟨F, Fs1, h1, h2, h3, h4⟩ := h.vals hq hv
        have hown := VS.toOne h2
        obtain ⟨A, c, hu', _⟩ := hown.elems (.inl ⟨_, rfl⟩)
        rw [hu'] at hown
        have hcap : xs.length ≤ c := by
          cases hown with
          | nil => simp
          | blk _ hh =>
            obtain ⟨_, _, _, _, _, cap, hu2, h1, _⟩ := hh
            simp only [Value.slice.injEq] at hu2
            omega
        obtain ⟨F', hF', ho'⟩ := hown.take (m := g.toNat) (by omega)
        have b2 := (h.bound hh hg1).1
        have hlo : lo = none := by
          cases lo with
          | none => rfl
          | some y =>
            simp only [optO] at hl
            obtain ⟨z, _, rfl⟩ := Option.map_eq_some_iff.1 hl
            simp at hc
        have hrb := run_bounds (P := C.P) (w := w) (isS := true) (cap := c) (lo := lo.map (ev tm)) (l := 0) (.inl ⟨by rw [hlo]; rfl, rfl⟩) b2 (by omega) hc.2.1 (by omega)
        have hsl : sliced A 0 g.toNat c (C.P.cellsOf el) = .slice A g.toNat c := by
          unfold sliced
          simp only [Nat.zero_mul, Nat.sub_zero]
          split
          · rfl
          · cases A <;> simp [Addr.add]
        obtain ⟨Fs', h'⟩ := h1.put hi3 (VS.ofOne ho') fun b hb => .inr (hF' b hb)
        refine done_mk (v := .slice A g.toNat c) (w' := w) ?_ (h'.letGo (H' := No) fun b hb => hb.elim)
        have := hrun hu' hrb
        rw [Int.toNat_zero, hsl] at this
        exact this
      · cases hi3
    · cases hi2

theorem ok_s2b (h : Rel C No e tm w Fs) {src dst el t1 : TypeId} {x : Operand} {q : Opd} (hop : o.op = .convert src dst x) (hs : C.P.underlying src = some .string) (hd : C.P.underlying dst = some (.slice el)) (he : C.P.underlying el = some (.int .u8)) (hq : Mir.opd C.P t1 x = some q)
    (hi : ioI call pm C.rt e o.dst (.s2b q) = some e') : Done C o e' tm w := by
  simp only [ioI] at hi
  obtain ⟨s, hss, hput⟩ := Option.bind_eq_some_iff.1 hi
  have hx := h.toStr hq hss
  have hr := Lib.run_convert_string_bytes (P := C.P) w src dst el s hs hd he
  have hgr : Grow No w (Lib.bytesWorld w el s) := ⟨rfl, rfl, rfl, by rw [Lib.bytesWorld_size]; omega, fun k hk _ => Lib.bytesWorld_at_old w el s k hk⟩
  have h1 : Rel C (fun b => b = w.heap.size) e tm (Lib.bytesWorld w el s) Fs := h.world hgr fun b hb => by subst hb; exact ⟨.inr (Nat.le_refl _), by rw [Lib.bytesWorld_size]; omega⟩
  have hfl : ∀ l : List UInt8, (((l.map fun b => [D.sc (.int .u8 b.toNat)])).map (·.map V.d)).flatten = l.map fun b => V.d (.sc (.int .u8 b.toNat)) := by
    intro l; induction l with
    | nil => rfl
    | cons b l ih => simp only [List.map_cons, List.flatten_cons, ih]; rfl
  have hlen : ((bytesT s).map (·.map V.d)).length = s.size := by simp [bytesT]
  have hcs : s.size ≤ (Lib.bytesCells w el s).size := by simp [Lib.bytesCells]
  have hown : Own C.P (Lib.bytesWorld w el s) (okOf C.X (fun b => b = w.heap.size) Fs) (.row ((bytesT s).map (·.map V.d))) (.slice (some ⟨w.heap.size, 0, none⟩) s.size (grownCap w s.size 0 el)) (fun b => b = w.heap.size) := by
    refine .blk (fun _ => No) (fz := ((Lib.bytesCells w el s).size, (Lib.bytesCells w el s).size + 1)) (vs := ((bytesT s).map (·.map V.d)).flatten) ⟨?_, rfl, by rw [hlen]; exact hcs, fun j hj => ?_, _, by rw [hlen], by rw [hlen]; exact grownCap_ge w s.size 0 el⟩ (Lib.bytesWorld_at_new w el s) (fun j v u hv hu => ?_) (fun _ _ _ _ _ _ h => h.elim) (fun _ _ h => h) (fun b => ⟨.inl, fun h => h.elim id fun ⟨_, _, h⟩ => h.elim⟩)
    · intro c hc
      simp [bytesT] at hc
      obtain ⟨_, _, rfl⟩ := hc
      rfl
    · rw [hlen] at hj; omega
    · unfold bytesT at hv
      rw [hfl, List.getElem?_map] at hv
      obtain ⟨b, hb, rfl⟩ := Option.map_eq_some_iff.1 hv
      have hj : j < s.data.size := by simpa using (List.getElem?_eq_some_iff.1 hb).1
      have : (Lib.bytesCells w el s)[j]? = some (.int .u8 b.toNat) := by
        simp only [Lib.bytesCells]
        rw [Array.getElem?_append_left (by simpa using hj)]
        simp only [Array.getElem?_map]
        rw [← Array.getElem?_toList, hb]
        rfl
      rw [this] at hu; cases hu
      exact .d (fun _ h => h) (.sc rfl)
  obtain ⟨Fs', h'⟩ := h1.put hput (VS.ofOne hown) fun b hb => hb
  exact done_mk (by simp [execOp, hop, hx, hr]) (h'.letGo (H' := No) fun b hb => hb.elim)

theorem byteRow_spec : ∀ {xs : List (List V)}, byteRow xs = true → (∀ c ∈ xs, c.length = 1) ∧ ∀ v ∈ xs.flatten, ∃ n : Int, v = .d (.sc (.int .u8 n))
  | [], _ => by simp
  | [.d (.sc (.int .u8 n))] :: r, h => by
    have ih := byteRow_spec (xs := r) (by simpa only [byteRow] using h)
    refine ⟨fun c hc => ?_, fun v hv => ?_⟩
    · rcases List.mem_cons.1 hc with rfl | hc
      · rfl
      · exact ih.1 c hc
    · rw [List.flatten_cons, List.mem_append, List.mem_singleton] at hv
      rcases hv with rfl | hv
      · exact ⟨n, rfl⟩
      · exact ih.2 v hv

theorem ok_s2s (h : Rel C No e tm w Fs) {src el t1 : TypeId} {x : Operand} {q : Opd} (hop : o.op = .convert src src x) (hs : C.P.underlying src = some (.slice el)) (he : C.P.underlying el = some (.int .u8)) (hq : Mir.opd C.P t1 x = some q)
    (hi : ioI call pm C.rt e o.dst (.s2s q) = some e') : Done C o e' tm w := by
  simp only [ioI] at hi
  obtain ⟨⟨a, cs, e1⟩, hv, hi⟩ := Option.bind_eq_some_iff.1 hi
  split at hi
  · rename_i heq
    simp only [Prod.mk.injEq] at heq
    obtain ⟨rfl, rfl, rfl⟩ := heq
    rename_i el' xs
    split at hi
    · rename_i hc
      obtain ⟨hne, hby⟩ := hc
      obtain ⟨hx1, hx2⟩ := byteRow_spec hby
      obtain ⟨F, Fs1, h1, h2, h3, h4⟩ := h.vals hq hv
      have hown := VS.toOne h2
      generalize hev : ev tm x = u at hown
      cases hown with
      | nil => simp at hne
      | @blk _ _ g vs cur e0 fz F Fc hh hg hcc hd hb hF =>
        obtain ⟨rfl, rfl, hz, hsz, rfl, cap, hu, hl1, hl2, hl3⟩ := hh
        subst hu
        have hwg : (w.freeze ⟨g, cur.size, none⟩ 1).heap = w.heap.modify g fun | .cells c elem (lo, hi) => .cells c elem (if lo == hi then (cur.size, cur.size + 1) else (min lo cur.size, max hi (cur.size + 1))) | o => o := by
          unfold World.freeze; rw [if_neg (by decide)]; rfl
        have hg' : (w.freeze ⟨g, cur.size, none⟩ 1).heap[g]? = some (.cells cur el' (cur.size, cur.size + 1)) := by
          rw [hwg, Array.getElem?_modify, hg]; simp
        have hgr : Grow (fun b => No b ∨ F b) w (w.freeze ⟨g, cur.size, none⟩ 1) :=
          ⟨by unfold World.freeze; rw [if_neg (by decide)], by unfold World.freeze; rw [if_neg (by decide)], by unfold World.freeze; rw [if_neg (by decide)], by rw [hwg]; simp, fun k hk hn => by
            rw [hwg, Array.getElem?_modify, if_neg]
            rintro rfl
            exact hn (.inr ((hF g).2 (.inl rfl)))⟩
        have hgl : g < w.heap.size := (Array.getElem?_eq_some_iff.1 hg).1
        have hsz1 : xs.length ≤ cur.size := by
          have := Nat.mul_le_mul (Nat.le_trans hl1 (Nat.le_refl cap)) hz
          rw [hl3]; omega
        have hr2 := h1.world (H' := fun b => b = g) hgr fun b hb => by subst hb; exact ⟨.inl (.inr ((hF b).2 (.inl rfl))), by rw [hwg]; simpa using hgl⟩
        have ho' : Own C.P (w.freeze ⟨g, cur.size, none⟩ 1) (okOf C.X (fun b => b = g) Fs1) (.row xs) (.slice (some ⟨g, 0, none⟩) xs.length cap) (fun b => b = g) := by
          refine .blk (fun _ => No) (vs := xs.flatten) ⟨hx1, rfl, hsz1, fun j hj => by simp only; omega, cap, rfl, hl1⟩ hg' (fun j v u hv hu => ?_) (fun _ _ _ _ _ _ h => h.elim) (fun _ _ h => h) (fun b => ⟨.inl, fun h => h.elim id fun ⟨_, _, h⟩ => h.elim⟩)
          obtain ⟨n, rfl⟩ := hx2 v (List.mem_of_getElem? hv)
          have := hcc j _ u hv hu
          cases this with
          | d _ hr => cases hr; exact .d (fun _ h => h) (.sc rfl)
          | blk _ hh => simp [Shape] at hh
        obtain ⟨Fs', h'⟩ := hr2.put hi (VS.ofOne ho') fun b hb => hb
        have hsh : w.shape? g = some (el', cur.size) := by unfold World.shape?; rw [hg]
        refine done_mk (v := .slice (some ⟨g, 0, none⟩) xs.length cap) (w' := w.freeze ⟨g, cur.size, none⟩ 1) ?_ (h'.letGo (H' := No) fun b hb => hb.elim)
        simp [execOp, hop, hev, convert, run_underlying hs, run_underlying he, markStringish, hsh]
    · cases hi
  · cases hi

theorem RO.sc_eq {w : World} {ok : Nat → Prop} {v u : Value} (h : RO w ok (.sc v) u) : u = v := by cases h; rfl

theorem bytesD_nums : ∀ {ds : List (List D)} {l : List UInt8}, bytesD ds = some l → (∀ c ∈ ds, c.length = 1) ∧ l.length = ds.length ∧ ∀ (j : Nat) (b : UInt8), l[j]? = some b → ds.flatten[j]? = some (.sc (.int .u8 b.toNat))
  | [], l, h => by simp [bytesD] at h; subst h; simp
  | [.sc (.int .u8 n)] :: ds, l, h => by
    simp only [bytesD] at h
    split at h
    · rename_i hn
      obtain ⟨l', hl, rfl⟩ := Option.map_eq_some_iff.1 h
      obtain ⟨g1, g2, g3⟩ := bytesD_nums hl
      refine ⟨?_, by simp [g2], ?_⟩
      · intro c hc
        rcases List.mem_cons.1 hc with rfl | hc
        · rfl
        · exact g1 c hc
      · intro j b hb
        cases j with
        | zero =>
          simp at hb; subst hb
          simp
          omega
        | succ j => simpa using g3 j b (by simpa using hb)
    · cases h

theorem ok_b2s (h : Rel C No e tm w Fs) {src dst el t1 : TypeId} {x : Operand} {q : Opd} (hop : o.op = .convert src dst x) (hs : C.P.underlying src = some (.slice el)) (hd : C.P.underlying dst = some .string) (he : C.P.underlying el = some (.int .u8)) (hq : Mir.opd C.P t1 x = some q)
    (hi : ioI call pm C.rt e o.dst (.b2s q) = some e') : Done C o e' tm w := by
  simp only [ioI] at hi
  split at hi
  · cases hi
  rename_i hns
  obtain ⟨xs, hxs, hi1⟩ := Option.bind_eq_some_iff.1 hi
  obtain ⟨ds, hds, hi2⟩ := Option.bind_eq_some_iff.1 hi1
  obtain ⟨l, hl, hput⟩ := Option.bind_eq_some_iff.1 hi2
  clear hi hi1 hi2
  obtain ⟨Fs', h'⟩ := h.putSc hput rfl
  obtain ⟨g1, g2, g3⟩ := bytesD_nums hl
  obtain ⟨d1, d2, d3⟩ := toDss_get hds
  obtain ⟨f1, f2⟩ := toDs_get d3
  have hstr : ∀ l : List UInt8, strOfNums (l.map fun b => (b.toNat : Int)) = ⟨l.toArray⟩ := fun l => by
    unfold strOfNums
    rw [List.map_map]
    have : ((fun n : Int => UInt8.ofNat n.toNat) ∘ fun b : UInt8 => (b.toNat : Int)) = id := by funext b; simp
    rw [this, List.map_id]
  rcases h.look hq hxs with ⟨s, hs', rfl, hv⟩ | ⟨A, c, hv, us, G, ho, hr⟩
  · rw [hs'] at hns; simp [T.str?] at hns
  · have hll : l.length = xs.length := by rw [g2, d1]
    rcases hr with rfl | ⟨b, of, sz, hz, rfl, hsz, hmem⟩
    · have : l = [] := List.eq_nil_of_length_eq_zero (by simpa using hll)
      subst this
      refine done_mk ?_ h'
      have hcv : (convert src dst (.slice A 0 c)).run C.P w = .ok (.string ⟨#[]⟩) w := by
        rw [run_convert_bytes_string w src dst el _ 0 c hs he hd]
        cases A <;> simp [Conv.bytesToString, loadCells, loadCellsFrom] <;> rfl
      simp only [List.length_nil] at hv
      simp [execOp, hop, hv, hcv]
    · have hx1 : ∀ c ∈ xs, c.length = 1 := fun c hc => by
        obtain ⟨j, hj, rfl⟩ := List.getElem_of_mem hc
        have hjd : j < ds.length := by omega
        have := d2 j _ _ (List.getElem?_eq_getElem hj) (List.getElem?_eq_getElem hjd)
        rw [← (toDs_get this).1]
        exact g1 _ (List.getElem_mem hjd)
      have hfl := flat_len hx1
      rw [Nat.mul_one] at hfl
      refine done_mk ?_ h'
      have hcv := run_convert_bytes_arg (P := C.P) w src el hs he b of xs.length c (l.map fun b => (b.toNat : Int)) (by simpa using hll) (fun i hi => by
        have hil : i < l.length := by omega
        have hiu : i < us.length := by rw [← ho.1]; omega
        have h1 := g3 i _ (List.getElem?_eq_getElem hil)
        have hix : i < xs.flatten.length := by omega
        have h2 := f2 i _ _ (List.getElem?_eq_getElem hix) h1
        obtain ⟨_, Fc, o1, _, _⟩ := ho.2 |> fun h => (⟨trivial, h⟩ : True ∧ _)
        have h3 := o1 i _ _ (List.getElem?_eq_getElem hix) (List.getElem?_eq_getElem hiu)
        have h4 : us[i] = .int .u8 (l[i]).toNat := by
          cases hvv : xs.flatten[i] with
          | d y =>
            rw [hvv] at h2 h3
            simp [V.toD] at h2
            subst h2
            cases h3 with
            | d _ hr => exact hr.sc_eq
            | blk _ hh => simp [Shape] at hh
          | own el ys => rw [hvv] at h2; simp [V.toD] at h2
          | row ys => rw [hvv] at h2; simp [V.toD] at h2
          | dead => rw [hvv] at h2; simp [V.toD] at h2
          | box c => rw [hvv] at h2; simp [V.toD] at h2
        rw [hmem i _ (List.getElem?_eq_getElem hiu), h4]
        simp [List.getD, hil]) dst hd
      rw [hstr] at hcv
      simp [execOp, hop, hv, hcv]

end
end Go.Mir

/- The mirror, part T: append. -/
set_option linter.unusedVariables false
set_option linter.unusedSimpArgs false
namespace Go.Mir
open Go.RowKit

theorem setCells_row {g : Nat} {el : TypeId} {fz : Nat × Nat} : ∀ (vs : List Value) (o : Nat) (w : World) (cur : Array Value), w.heap[g]? = some (.cells cur el fz) → o + vs.length ≤ cur.size →
    ∃ cur', (w.setCells g o vs).heap[g]? = some (.cells cur' el fz) ∧ cur'.size = cur.size ∧ (∀ j, j < o → cur'[j]? = cur[j]?) ∧ (∀ (j : Nat) (u : Value), vs[j]? = some u → cur'[o + j]? = some u) ∧
      (∀ b, b ≠ g → (w.setCells g o vs).heap[b]? = w.heap[b]?) ∧ (w.setCells g o vs).os = w.os ∧ (w.setCells g o vs).tape = w.tape ∧ (w.setCells g o vs).output = w.output ∧ (w.setCells g o vs).heap.size = w.heap.size
  | [], o, w, cur, h, _ => ⟨cur, h, rfl, fun _ _ => rfl, by simp, fun _ _ => rfl, rfl, rfl, rfl, rfl⟩
  | v :: vs, o, w, cur, h, hl => by
    simp at hl
    have h1 : (w.setCell ⟨g, o, none⟩ v).heap[g]? = some (.cells (cur.setIfInBounds o v) el fz) := heap_setCell_at (w := w) (ad := ⟨g, o, none⟩) (x := v) h rfl
    obtain ⟨cur', k1, k2, k3, k4, k5, k6, k7, k8, k9⟩ := setCells_row vs (o + 1) (w.setCell ⟨g, o, none⟩ v) _ h1 (by simp; omega)
    refine ⟨cur', k1, by simpa using k2, fun j hj => ?_, fun j u hj => ?_, fun b hb => ?_, k6, k7, k8, by rw [World.setCells, k9]; simp⟩
    · rw [k3 j (by omega)]
      exact Array.getElem?_setIfInBounds_ne (by omega)
    · cases j with
      | zero =>
        simp at hj; subst hj
        rw [Nat.add_zero, k3 o (by omega)]
        have ho : o < cur.size := by omega
        simp [ho]
      | succ j =>
        rw [show o + (j + 1) = o + 1 + j by omega]
        exact k4 j u (by simpa using hj)
    · rw [World.setCells, k5 b hb]
      exact Below.heap_setCell w _ v b hb

section
variable {C : Ctx} {e e' : Env} {tm : Nat → Value} {w : World} {Fs : Nat → Nat → Prop} {o : Oper} {call : FuncId → List T → Option Res} {pm : FuncId → List PM}

theorem Src.ofEmpty {P : Program} {w : World} {sz : Nat} {tx e' : TypeId} (hk : P.underlying tx = some (.slice e')) (A : Option Addr) (c : Nat) : Src P sz tx (.slice A 0 c) 0 [] w := by
  cases A with
  | none => exact Src.ofNil w hk c
  | some a => exact Src.ofSlice w hk a 0 c [] (by simp) (by simp) (by simp)

theorem flat_allD {ys : List (List V)} (h : ys.all (·.all V.isD) = true) : ys.flatten.all V.isD = true := by
  rw [List.all_flatten]; exact h

/-- What is appended. -/
theorem Rel.src (h : Rel C No e tm w Fs) {t' ty sz : TypeId} {y : Operand} {q : Opd} {str : Bool} (ht' : if str then C.P.underlying t' = some .string ∧ sz = 1 else ∃ el', C.P.underlying t' = some (.slice el')) (hq : Mir.opd C.P ty y = some q)
    (hs : (e.opd q).str?.isSome = str) {ys : List (List V)} (hys : e.elems q = some ys) (hz : 0 < sz) (hsz : ∀ c ∈ ys, c.length = sz) (hown : ys.all (·.all V.isD) = true ∨ ∃ t el, q = .tmp t ∧ e.opd q = .vs false [.own el ys]) :
    ∃ (F : Nat → Prop) (Fs1 : Nat → Nat → Prop) (us : List Value) (G : Nat → Prop), Rel C (fun b => No b ∨ F b) (e.takeO C.rt q).2 tm w Fs1 ∧ OkMono C No Fs (fun b => No b ∨ F b) Fs1 ∧ OwnL C.P w (okOf C.X (fun b => No b ∨ F b) Fs1) ys.flatten us G ∧ (∀ b, G b → F b) ∧ Src C.P sz t' (ev tm y) ys.length us w := by
  obtain ⟨F, Fs1, h1, h2, _, h4, _⟩ := h.takeO hq (t := (e.takeO C.rt q).1) (e' := (e.takeO C.rt q).2) rfl
  have mk : ∀ {A : Option Addr} {c : Nat} {us : List Value} {ok : Nat → Prop} {G : Nat → Prop}, str = false → ev tm y = .slice A ys.length c → OwnL C.P w ok ys.flatten us G →
      (ys = [] ∨ ∃ b o sz, 0 < sz ∧ A = some ⟨b, o, none⟩ ∧ (∀ c ∈ ys, c.length = sz) ∧ ∀ (j : Nat) (u : Value), us[j]? = some u → w.cell? ⟨b, o + j, none⟩ = some u) → Src C.P sz t' (ev tm y) ys.length us w := by
    intro A c us ok G hst hv ho hr
    rw [hst] at ht'
    simp only [Bool.false_eq_true, if_false] at ht'
    obtain ⟨el', hk⟩ := ht'
    rcases hr with rfl | ⟨b, of, sz', _, rfl, hsz', hmem⟩
    · have : us = [] := List.eq_nil_of_length_eq_zero (by rw [← ho.1]; rfl)
      subst this
      rw [hv]; exact Src.ofEmpty hk A c
    · rw [hv]
      exact Src.ofSlice w hk _ _ c us (by rw [← ho.1, flat_len hsz]) (fun j u hj => by rw [add_none]; exact hmem j u hj) ho.one
  rcases h.look hq hys with ⟨s, he, rfl, hv⟩ | ⟨A, c, hv, us, G, ho, hr⟩
  · have hst : str = true := by rw [← hs, he]; rfl
    subst hst
    simp only [if_true] at ht'
    obtain ⟨hk, rfl⟩ := ht'
    have hfl : ∀ l : List UInt8, (((l.map fun b => [D.sc (.int .u8 b.toNat)])).map (·.map V.d)).flatten = l.map fun b => V.d (.sc (.int .u8 b.toNat)) := by
      intro l; induction l with
      | nil => rfl
      | cons b l ih => simp only [List.map_cons, List.flatten_cons, ih]; rfl
    have hlen : ((bytesT s).map (·.map V.d)).length = s.size := by simp [bytesT]
    refine ⟨F, Fs1, byteCells s, No, h1, h4, ?_, fun _ h => h.elim, by rw [hv, hlen]; exact Src.ofString w hk s⟩
    unfold bytesT byteCells
    rw [hfl]
    refine OwnL.ofData (by simp) fun j v u hv hu => ?_
    rw [List.getElem?_map] at hv hu
    obtain ⟨b, hb, rfl⟩ := Option.map_eq_some_iff.1 hv
    rw [hb] at hu
    cases hu
    exact .d (fun _ h => h) (.sc rfl)
  · have hst : str = false := by
      rw [← hs]
      obtain ⟨F0, ht0, _⟩ := h.opd hq
      cases hc : (e.opd q).str? with
      | none => rfl
      | some s =>
        rw [T.str?_eq hc] at ht0
        have := (VS.sc ht0).1
        rw [hv] at this; cases this
    rcases hown with hd | ⟨t, el, rfl, he⟩
    · have hG := OwnL.noD ho (flat_allD hd)
      exact ⟨F, Fs1, us, No, h1, h4, (ho.ext fun b => ⟨fun h => h.elim, fun h => hG b h⟩).ok h4, fun _ h => h.elim, mk hst hv ho hr⟩
    · have hte : (e.takeO C.rt (.tmp t)).1 = .vs false [.own el ys] := by
        simp only [Env.opd] at he
        simp only [Env.takeO, Env.takeT, he]
        split <;> rfl
      rw [hte] at h2
      obtain ⟨A', c', hv', us', G', ho', hG', hr'⟩ := (VS.toOne h2).elems (.inl ⟨_, rfl⟩)
      exact ⟨F, Fs1, us', G', h1, h4, ho', hG', mk hst hv' ho' (hr'.imp id fun ⟨b, sz, h1, h2, h3, h4⟩ => ⟨b, 0, sz, h1, h2, h3, by simpa using h4⟩)⟩

theorem ok_app (h : Rel C No e tm w Fs) {t t' el t1 t2 : TypeId} {x y : Operand} {qx qy : Opd} {str : Bool} (hop : o.op = .call { callee := .builtin .append, args := #[x, y], argTypes := #[t, t'] }) (hu : C.P.underlying t = some (.slice el))
    (ht' : if str then C.P.underlying t' = some .string ∧ C.P.cellsOf el = 1 else ∃ el', C.P.underlying t' = some (.slice el')) (hz : 0 < C.P.cellsOf el) (hb : 0 < C.P.bytesOf el) {zv : Value} (hzv : (C.P.info? el).bind (·.zero) = some zv) (hzs : zv.cells.size = C.P.cellsOf el)
    (hx : Mir.opd C.P t1 x = some qx) (hy : Mir.opd C.P t2 y = some qy) (hi : ioI call pm C.rt e o.dst (.app str el (C.P.cellsOf el) (C.P.bytesOf el) qx qy) = some e') : Done C o e' tm w := by
  simp only [ioI] at hi
  split at hi
  · rename_i hstr
    obtain ⟨ys, hys, hi1⟩ := Option.bind_eq_some_iff.1 hi
    clear hi
    split at hi1
    case isFalse => cases hi1
    case isTrue hown =>
      obtain ⟨⟨a, cs, e2⟩, hv, hi2⟩ := Option.bind_eq_some_iff.1 hi1
      clear hi1
      split at hi2
      · rename_i _ el' xs e2' heq
        simp only [Prod.mk.injEq] at heq
        obtain ⟨rfl, rfl, rfl⟩ := heq
        split at hi2
        · rename_i hc
          obtain ⟨rfl, hbytes, hall⟩ := hc
          have hsz : ∀ c ∈ ys, c.length = C.P.cellsOf el' := fun c hc => by have := List.all_eq_true.1 hall c hc; simpa using this
          have hown' : ys.all (·.all V.isD) = true ∨ ∃ t el, qy = .tmp t ∧ e.opd qy = .vs false [.own el ys] := by
            by_cases hd : ys.all (·.all V.isD) = true
            · exact .inl hd
            · right
              rw [Bool.or_eq_true] at hown
              have hown := hown.resolve_left hd
              unfold Env.ownTmp at hown
              split at hown
              · rename_i t0 el0 ys0 heq0
                simp only [Env.elems, heq0, Option.some.injEq] at hys
                subst hys
                exact ⟨_, _, rfl, heq0⟩
              · simp at hown
          obtain ⟨Fy, Fs1, us, G, r1, r2, r3, r4, hsrc⟩ := h.src ht' hy hstr hys hz hsz hown'
          obtain ⟨Fx, Fs2, k1, k2, k3, k4⟩ := r1.vals hx hv
          have hownx := VS.toOne k2
          have r3' := r3.ok k4
          obtain ⟨inf, hI, hisz⟩ := info_of_cells hz
          have hiby : inf.bytes = C.P.bytesOf el' := by simp [Program.bytesOf, hI]
          have hz0 : inf.zero = some zv := by rw [hI] at hzv; simpa using hzv
          have hnm : xs.length + ys.length ≤ 140737488355328 := Nat.le_trans (Nat.le_mul_of_pos_right _ hb) hbytes
          have hnm2 : xs.length + ys.length ≤ maxLen := by simp only [maxLen]; omega
          rw [← hisz] at hsrc
          have hul : us.length = ys.length * C.P.cellsOf el' := by rw [← r3.1, flat_len hsz]
          have fin : ∀ {v' : Value} {w' : World} {H : Nat → Prop} {F' : Nat → Prop} {Fs3 : Nat → Nat → Prop}, (Builtin.append_ #[t, t'] o.type #[ev tm x, ev tm y]).run C.P w = .ok v' w' → Rel C H e2 tm w' Fs3 → Own C.P w' (okOf C.X H Fs3) (.own el' (xs ++ ys)) v' F' → (∀ b, F' b → H b) → Done C o e' tm w := by
            intro v' w' H F' Fs3 hr hrel ho hF
            obtain ⟨Fs', h'⟩ := hrel.put hi2 (VS.ofOne ho) hF
            exact done_mk (by simp [execOp, hop, resolve, invoke, builtin, hr]) (h'.letGo (H' := No) fun b hb => hb.elim)
          -- a new row
          have grow : ∀ {A : Option Addr} {cap : Nat} {olds : List Value} {Gx : Nat → Prop}, ev tm x = .slice A xs.length cap → cap < xs.length + ys.length → (Builtin.firstCells inf.size xs.length (.slice A xs.length cap)).run C.P w.drew = .ok olds.toArray w.drew →
              OwnL C.P w (okOf C.X (fun b => (No b ∨ Fy b) ∨ Fx b) Fs2) xs.flatten olds Gx → (∀ b, Gx b → Fx b) → (∀ c ∈ xs, c.length = C.P.cellsOf el') → Done C o e' tm w := by
            intro A cap olds Gx hxv hcap hfc hox hGx hxsz
            have hr := run_append_grow_src (P := C.P) w t t' o.type el' inf zv hu hI hz0 A xs.length cap olds hfc (ev tm y) ys.length us hsrc hcap (by omega) (growslice_fits hcap (by rw [hiby]; exact hbytes))
            have hd := k1.world (H' := fun b => (No b ∨ Fy b) ∨ Fx b) (Grow.drew _ w) fun b hb => ⟨.inl hb, (k1.hn b hb).2.2⟩
            have hall2 : OwnL C.P w.drew (okOf C.X (fun b => (No b ∨ Fy b) ∨ Fx b) Fs2) (xs ++ ys).flatten (olds ++ us) (fun b => Gx b ∨ G b) := by
              rw [List.flatten_append]
              exact (OwnL.append hox r3' fun b hb hh => k3 b (hGx b hb) (.inr (r4 b hh))).frame (fun _ _ => rfl) fun b hb _ => ⟨hb, rfl⟩
            have hcg := grownCap_ge w (xs.length + ys.length) cap el'
            have hol : olds.length = xs.length * C.P.cellsOf el' := by rw [← hox.1, flat_len hxsz]
            obtain ⟨m1, m2⟩ := hd.newBlk hall2 (fun b hb => hb.elim (fun hb => .inr (hGx b hb)) fun hb => .inl (.inr (r4 b hb))) ((olds ++ us).toArray ++ Builtin.zeroCells zv.cells (grownCap w (xs.length + ys.length) cap el' - (xs.length + ys.length)))
              (fun j u hj hu => by rw [Array.getElem?_append_left (by simpa using hj)]; simpa using hu) el' (v := .own el' (xs ++ ys)) (u := .slice (some ⟨w.heap.size, 0, none⟩) (xs.length + ys.length) (grownCap w (xs.length + ys.length) cap el'))
              ⟨rfl, rfl, hz, fun c hc => (List.mem_append.1 hc).elim (hxsz c) (hsz c), rfl, _, by rw [List.length_append]; rfl, by rw [List.length_append]; exact hcg, grownCap_le_maxLen w _ cap el' hnm2, by
                rw [Array.size_append, size_zeroCells, hzs, List.size_toArray, List.length_append, hol, hul, ← Nat.add_mul, ← Nat.add_mul]
                congr 1
                omega⟩
            exact fin (by rw [hxv]; exact hr) m1 m2 fun b hb => by
              rcases hb with rfl | hb | hb
              · exact .inr rfl
              · exact .inl (.inr (hGx b hb))
              · exact .inl (.inl (.inr (r4 b hb)))
          generalize hxv : ev tm x = vx at hownx fin
          cases hownx with
          | @nil _ A F hF =>
            by_cases hm : ys.length = 0
            · have hy0 : ys = [] := List.eq_nil_of_length_eq_zero hm
              subst hy0
              have hus : us = [] := List.eq_nil_of_length_eq_zero (by rw [hul]; simp)
              subst hus
              refine fin (v' := .slice A 0 0) (w' := w) ?_ k1 (Own.nil hF) (fun b hb => (hF b hb).elim)
              have hsc := hsrc.cells
              have hsl := hsrc.len
              simp only [List.length_nil] at hsc hsl
              rcases hsrc.kind with ⟨e', hk⟩ | hk <;> cases A <;> simp [Builtin.append_, run_underlying hu, run_underlying hk, sizeOf, typeInfo, hI, hsl, hsc, storeCells]
            · exact grow (A := A) (cap := 0) (olds := []) (Gx := No) hxv (by simp; omega) (by cases A <;> simp [Builtin.firstCells, loadCells, loadCellsFrom]) OwnL.nil (fun _ h => h.elim) (by simp)
          | @blk _ _ g vs cur el2 fz F Fc hh hg hc hd hbb hF =>
            obtain ⟨rfl, rfl, _, hxsz, rfl, cap, rfl, hc1, hc2, hc3⟩ := hh
            have hxl := flat_len hxsz
            have hkids : OwnL C.P w (okOf C.X (fun b => (No b ∨ Fy b) ∨ Fx b) Fs2) xs.flatten (cur.toList.take xs.flatten.length) (fun b => ∃ j, j < xs.flatten.length ∧ Fc j b) := by
              have hle : xs.flatten.length ≤ cur.size := by rw [hxl, hc3]; exact Nat.mul_le_mul_right _ hc1
              refine ⟨by rw [List.length_take, Nat.min_eq_left (by simpa using hle)], Fc, fun j z y hz hy => ?_, hd, fun b => Iff.rfl⟩
              rw [List.getElem?_take] at hy
              split at hy
              · exact hc j z y hz (by simpa using hy)
              · cases hy
            have hGx : ∀ b, (∃ j, j < xs.flatten.length ∧ Fc j b) → Fx b := fun b hb => (hF b).2 (.inr hb)
            by_cases hroom : xs.length + ys.length ≤ cap
            · have hfit : xs.length * C.P.cellsOf el' + us.length ≤ cur.size := by rw [hul, ← Nat.add_mul, hc3]; exact Nat.mul_le_mul_right _ hroom
              obtain ⟨cur', s1, s2, s3, s4, s5, s6, s7, s8, s9⟩ := setCells_row us (xs.length * C.P.cellsOf el') w cur hg hfit
              have hr := run_append_room_src (P := C.P) w t t' o.type el' inf hu hI g 0 xs.length cap (ev tm y) ys.length us hsrc hroom
                (fun j hj => by simp only [World.cell?, hg, hisz]; simp; omega) (fun j hj => by simp [World.frozen?, hg])
              rw [Nat.zero_add, hisz] at hr
              have hgx : Fx g := (hF g).2 (.inl rfl)
              have hgr : Grow (fun b => (No b ∨ Fy b) ∨ Fx b) w (w.setCells g (xs.length * C.P.cellsOf el') us) := ⟨s6, s7, s8, by omega, fun k _ hk => s5 k fun e => hk (.inr (e ▸ hgx))⟩
              have hrel := k1.world (H' := fun b => (No b ∨ Fy b) ∨ Fx b) hgr fun b hb => ⟨.inl hb, by rw [s9]; exact (k1.hn b hb).2.2⟩
              have hoks : ∀ b, okOf C.X (fun b => (No b ∨ Fy b) ∨ Fx b) Fs2 b → b < w.heap.size → okOf C.X (fun b => (No b ∨ Fy b) ∨ Fx b) Fs2 b ∧ (w.setCells g (xs.length * C.P.cellsOf el') us).heap[b]? = w.heap[b]? := fun b hb _ => ⟨hb, s5 b fun e => hb.2.1 (.inr (e ▸ hgx))⟩
              have hkx : OwnL C.P (w.setCells g (xs.length * C.P.cellsOf el') us) (okOf C.X (fun b => (No b ∨ Fy b) ∨ Fx b) Fs2) xs.flatten (cur.toList.take xs.flatten.length) (fun b => ∃ j, j < xs.flatten.length ∧ Fc j b) :=
                hkids.frame (fun b ⟨j, hj, hb⟩ => s5 b fun e => hbb j hj (e ▸ hb)) hoks
              have hky : OwnL C.P (w.setCells g (xs.length * C.P.cellsOf el') us) (okOf C.X (fun b => (No b ∨ Fy b) ∨ Fx b) Fs2) ys.flatten us G :=
                r3'.frame (fun b hb => s5 b fun e => k3 g hgx (.inr (e ▸ r4 b hb))) hoks
              have hboth := OwnL.append hkx hky fun b hb hh => k3 b (hGx b hb) (.inr (r4 b hh))
              rw [← List.flatten_append] at hboth
              obtain ⟨hbl, Fb, b1, b2, b3⟩ := hboth
              have hlt : (cur.toList.take xs.flatten.length).length = xs.length * C.P.cellsOf el' := by rw [← hkids.1, hxl]
              refine fin hr hrel (.blk Fb (fz := (0, 0)) ⟨rfl, rfl, hz, fun c hc => (List.mem_append.1 hc).elim (hxsz c) (hsz c), rfl, cap, by rw [List.length_append], by rw [List.length_append]; exact hroom, hc2, by rw [s2, hc3]⟩ s1 (fun j v u hv hu => ?_) b2 (fun j hj hh => ?_) (fun b => Iff.rfl)) fun b hb => ?_
              · refine b1 j v u hv ?_
                have hj := (List.getElem?_eq_some_iff.1 hv).1
                rcases Nat.lt_or_ge j (xs.length * C.P.cellsOf el') with hjx | hjx
                · rw [List.getElem?_append_left (by omega), List.getElem?_take, if_pos (by omega)]
                  rw [s3 j hjx] at hu
                  simpa using hu
                · obtain ⟨i, rfl⟩ : ∃ i, j = xs.length * C.P.cellsOf el' + i := ⟨j - xs.length * C.P.cellsOf el', by omega⟩
                  rw [List.getElem?_append_right (by omega), hlt, Nat.add_sub_cancel_left]
                  have hiu : i < us.length := by
                    rw [hbl, List.length_append, hlt] at hj; omega
                  rw [s4 i us[i] (List.getElem?_eq_getElem hiu)] at hu
                  rw [List.getElem?_eq_getElem hiu]; exact hu
              · have := (b3 g).2 ⟨j, hj, hh⟩
                rcases this with ⟨i, hi, hh⟩ | hh
                · exact hbb i hi hh
                · exact k3 g hgx (.inr (r4 g hh))
              · rcases hb with rfl | hb
                · exact .inr hgx
                · rcases (b3 b).2 hb with hb | hb
                  · exact .inr (hGx b hb)
                  · exact .inl (.inr (r4 b hb))
            · refine grow (A := some ⟨g, 0, none⟩) (cap := cap) hxv (by omega) ?_ hkids hGx hxsz
              have hlt : (cur.toList.take xs.flatten.length).length = xs.length * C.P.cellsOf el' := by rw [← hkids.1, hxl]
              exact run_firstCells_some (P := C.P) w.drew inf.size xs.length ⟨g, 0, none⟩ xs.length cap _ (by rw [hlt, hisz]) fun j u hj => by
                rw [List.getElem?_take] at hj
                split at hj
                · rw [add_none, Nat.zero_add]
                  simp only [World.cell?, show w.drew.heap = w.heap from rfl, hg]
                  simpa using hj
                · cases hj
        · cases hi2
      · cases hi2
  · cases hi

end
end Go.Mir

/- The mirror, part U: what is handed in to a call. -/
set_option linter.unusedVariables false
set_option linter.unusedSimpArgs false
namespace Go.Mir
open Go.RowKit

theorem V.get_append : ∀ {p q : Pt} {v : V}, v.get (p ++ q) = (v.get p).bind fun x => x.get q
  | [], q, v => by rw [V.get_nil]; rfl
  | s :: p, q, v => by
    rw [List.cons_append, V.get_cons, V.get_cons]
    cases v.kid s with
    | none => rfl
    | some x => exact V.get_append

/-- Less is told, nothing else. -/
def V.sub (v v0 : V) : Prop := ∀ p, (v.get p).isSome → (v0.get p).isSome ∧ ∀ w u, adrOf w v u p = adrOf w v0 u p

theorem V.sub_refl (v : V) : v.sub v := fun p h => ⟨h, fun _ _ => rfl⟩
theorem V.sub_trans {a b c : V} (h : a.sub b) (k : b.sub c) : a.sub c := fun p hp => ⟨(k p (h p hp).1).1, fun w u => ((h p hp).2 w u).trans ((k p (h p hp).1).2 w u)⟩

theorem V.sub_set {p : Pt} {v v1 : V} (h : v.set p .dead = some v1) : v1.sub v := by
  intro q hq
  have hn : ¬ (p <+: q ∧ p ≠ q) := by
    rintro ⟨⟨r, rfl⟩, hne⟩
    rw [V.get_append, V.get_set h] at hq
    cases r with
    | nil => exact hne (by simp)
    | cons s r => simp [V.get] at hq
  refine ⟨?_, fun w u => adrOf_set w h hn⟩
  by_cases h1 : p <+: q
  · have : p = q := Classical.byContradiction fun hne => hn ⟨h1, hne⟩
    subst this
    obtain ⟨x, hx⟩ := V.get_of_set h
    simp [hx]
  · by_cases h2 : q <+: p
    · obtain ⟨r, rfl⟩ := h2
      obtain ⟨x, hx⟩ := V.get_of_set h
      rw [V.get_append] at hx
      cases hg : v.get q with
      | none => simp [hg] at hx
      | some y => rfl
    · rw [← V.get_set_other h h1 h2]; exact hq

def Env.sub (e1 e : Env) : Prop := ∀ r a cs, e1.get r = .vs a cs → ∃ cs0, e.get r = .vs a cs0 ∧ cs.length = cs0.length ∧ ∀ (k : Nat) (v : V), cs[k]? = some v → ∃ v0, cs0[k]? = some v0 ∧ v.sub v0

theorem Env.sub_refl (e : Env) : e.sub e := fun r a cs h => ⟨cs, h, rfl, fun k v hv => ⟨v, hv, V.sub_refl v⟩⟩
theorem Env.sub_trans {a b c : Env} (h : a.sub b) (k : b.sub c) : a.sub c := fun r g cs hr => by
  obtain ⟨cs0, h1, h2, h3⟩ := h r g cs hr
  obtain ⟨cs1, k1, k2, k3⟩ := k r g cs0 h1
  refine ⟨cs1, k1, h2.trans k2, fun i v hv => ?_⟩
  obtain ⟨v0, g1, g2⟩ := h3 i v hv
  obtain ⟨v1, m1, m2⟩ := k3 i v0 g1
  exact ⟨v1, m1, V.sub_trans g2 m2⟩

theorem Env.sub_plv {w : World} {e e1 : Env} {tm : Nat → Value} {r k : Nat} {p : Pt} {x : Value} (h : e1.sub e) (hp : PlV w e tm r k p x) (hc : (e1.cell r k p).isSome) : PlV w e1 tm r k p x := by
  obtain ⟨a, cs, v, u, h1, h2, h3, h4, h5⟩ := hp
  obtain ⟨y, hy⟩ := Option.isSome_iff_exists.1 hc
  obtain ⟨a', cs', v', g1, g2, g3⟩ := Env.cell_some hy
  obtain ⟨cs0, k1, k2, k3⟩ := h r a' cs' g1
  rw [h1] at k1; cases k1
  obtain ⟨v0, m1, m2⟩ := k3 k v' g2
  rw [h2] at m1; cases m1
  refine ⟨a, cs', v', u, g1, g2, h3, by rw [g3]; rfl, ?_⟩
  cases p with
  | nil => exact h5
  | cons s p => simp only [valOf] at h5 ⊢; rw [(m2 _ (by rw [g3]; rfl)).2]; exact h5

theorem T.killR_vs {r : Nat} {t : T} {a : Bool} {cs : List V} (h : t.killR r = .vs a cs) : t = .vs a cs := by
  unfold T.killR at h; split at h
  · cases h
  · exact h
theorem T.kill_vs {r k : Nat} {q : Pt} {t : T} {a : Bool} {cs : List V} (h : t.kill r k q = .vs a cs) : t = .vs a cs := by
  cases t <;> simp only [T.kill] at h <;> (try split at h) <;> first | exact h | cases h

theorem Env.sub_dead (rt : Views) (e : Env) (t : Nat) : Env.sub ((t, .dead) :: e.killR rt t) e := by
  intro r a cs hr
  simp only [Env.get] at hr
  split at hr
  · cases hr
  · unfold Env.killR at hr
    rw [Env.get_over] at hr
    have : e.get r = .vs a cs := by split at hr; exact T.killR_vs hr; exact hr
    exact ⟨cs, this, rfl, fun k v hv => ⟨v, hv, V.sub_refl v⟩⟩

theorem Env.sub_takePl {rt : Views} {e e1 : Env} {r k : Nat} {p : Pt} {v : V} (h : e.takePl rt r k p = some (v, e1)) : e1.sub e := by
  unfold Env.takePl at h
  obtain ⟨y, _, h⟩ := Option.bind_eq_some_iff.1 h
  obtain ⟨e2, he, h⟩ := Option.map_eq_some_iff.1 h
  simp only [Prod.mk.injEq] at h
  obtain ⟨_, rfl⟩ := h
  obtain ⟨a, cs, v0, v1, hr, hc, hs, rfl⟩ := Env.setCell_some he
  intro r' a' cs' hr'
  unfold Env.kill at hr'
  rw [Env.get_over] at hr'
  have h1 : Env.get ((r, T.vs a (cs.set k v1)) :: e) r' = .vs a' cs' := by split at hr'; exact T.kill_vs hr'; exact hr'
  simp only [Env.get] at h1
  split at h1
  · rename_i hrr
    subst hrr
    cases h1
    refine ⟨cs, hr, by simp, fun i z hz => ?_⟩
    by_cases hi : i = k
    · subst hi
      rw [List.getElem?_set_self (List.getElem?_eq_some_iff.1 hc).1] at hz; cases hz
      exact ⟨v0, hc, V.sub_set hs⟩
    · rw [List.getElem?_set_ne (Ne.symm hi)] at hz
      exact ⟨z, hz, V.sub_refl z⟩
  · exact ⟨cs', h1, rfl, fun i z hz => ⟨z, hz, V.sub_refl z⟩⟩

theorem Env.sub_takeO (rt : Views) (e : Env) (o : Opd) : (e.takeO rt o).2.sub e := by
  cases o with
  | tmp t =>
    simp only [Env.takeO, Env.takeT]
    split
    · split
      · exact Env.sub_refl e
      · exact Env.sub_dead rt e t
    · split
      · exact Env.sub_refl e
      · exact Env.sub_dead rt e t
    · exact Env.sub_refl e
  | con x => exact Env.sub_refl e
  | fn f => exact Env.sub_refl e

theorem Env.sub_takeAt {rt : Views} {r k : Nat} {p : Pt} : ∀ {n : Nat} {e e1 : Env} {i : Nat} {cs : List V}, Env.takeAt rt r k p e i n = some (cs, e1) → e1.sub e
  | 0, e, e1, i, cs, h => by simp [Env.takeAt] at h; obtain ⟨_, rfl⟩ := h; exact Env.sub_refl _
  | n + 1, e, e1, i, cs, h => by
    simp only [Env.takeAt] at h
    obtain ⟨q, _, h⟩ := Option.bind_eq_some_iff.1 h
    obtain ⟨⟨v, e2⟩, h1, h⟩ := Option.bind_eq_some_iff.1 h
    obtain ⟨⟨vs, e3⟩, h2, h⟩ := Option.map_eq_some_iff.1 h
    simp only [Prod.mk.injEq] at h
    obtain ⟨_, rfl⟩ := h
    exact Env.sub_trans (Env.sub_takeAt h2) (Env.sub_takePl h1)

theorem Env.sub_vals {rt : Views} {e e1 : Env} {o : Opd} {a : Bool} {cs : List V} (h : e.vals rt o = some (a, cs, e1)) : e1.sub e := by
  have h0 := Env.sub_takeO rt e o
  unfold Env.vals at h
  split at h
  · rename_i heq
    rw [heq] at h0
    simp only [Option.some.injEq, Prod.mk.injEq] at h
    obtain ⟨_, _, rfl⟩ := h
    exact h0
  · rename_i heq
    rw [heq] at h0
    obtain ⟨⟨v, e2⟩, hp, h⟩ := Option.map_eq_some_iff.1 h
    simp only [Prod.mk.injEq] at h
    obtain ⟨_, _, rfl⟩ := h
    exact Env.sub_trans (Env.sub_takePl hp) h0
  · rename_i heq
    rw [heq] at h0
    obtain ⟨⟨v, e2⟩, hp, h⟩ := Option.map_eq_some_iff.1 h
    simp only [Prod.mk.injEq] at h
    obtain ⟨_, _, rfl⟩ := h
    exact Env.sub_trans (Env.sub_takeAt hp) h0
  · cases h

/-- A value that hangs on no temporary. -/
abbrev TRe (P : Program) (w : World) (ok : Nat → Prop) (t : T) (u : Value) (F : Nat → Prop) : Prop := TR P w ok [] (fun _ => undef) t u F

section
variable {C : Ctx} {tm : Nat → Value} {w : World}

theorem Own.rest {P : Program} {ok : Nat → Prop} {y : V} {uy : Value} {Fy : Nat → Prop} (h : Own P w ok y uy Fy) {c : List V} {i j : Nat} (hy : (∃ el xs, y = .own el xs ∧ xs[i]? = some c) ∨ (∃ xs, y = .row xs ∧ xs[i]? = some c) ∨ (y = .box c ∧ i = 0)) (hj : j < c.length)
    {ds : List D} (hd : toDs (c.drop j) = some ds) : ∃ g, hdBlk uy = some g ∧ AdrR w (fun b => ok b ∨ Fy b) ds (.pointer (some ⟨g, y.idx (i, j), none⟩)) := by
  cases h with
  | dead => rcases hy with ⟨_, _, h, _⟩ | ⟨_, h, _⟩ | ⟨h, _⟩ <;> cases h
  | d => rcases hy with ⟨_, _, h, _⟩ | ⟨_, h, _⟩ | ⟨h, _⟩ <;> cases h
  | nil => rcases hy with ⟨_, _, h, h2⟩ | ⟨_, h, _⟩ | ⟨h, _⟩ <;> first | (cases h; simp at h2) | cases h
  | @blk _ _ g vs cur e fz F Fc hh hg hc hdj hb hF =>
    refine ⟨g, hh.blk, ?_⟩
    have hidx : ∀ (m : Nat) (v : V), c[j + m]? = some v → vs[y.idx (i, j) + m]? = some v := by
      intro m v hv
      have hk : y.kid (i, j + m) = some v := by
        rcases hy with ⟨el, xs, rfl, hx⟩ | ⟨xs, rfl, hx⟩ | ⟨rfl, rfl⟩ <;> simp [V.kid, *]
      rw [← V.kid_idx hk]
      exact hh.kid hk
    obtain ⟨hl, hget⟩ := toDs_get hd
    have hlen : (c.drop j).length = c.length - j := List.length_drop
    have hvl := hh.len
    have hin : ∀ m, m < c.length - j → y.idx (i, j) + m < vs.length := fun m hm => by
      have := hidx m c[j + m] (List.getElem?_eq_getElem (by omega))
      exact (List.getElem?_eq_some_iff.1 this).1
    refine ⟨by intro e; rw [e] at hl; simp at hl; omega, g, _, (cur.toList.drop (y.idx (i, j))).take (c.length - j), rfl, .inr ((hF g).2 (.inl rfl)), ?_, fun m u hu => ?_, fun m d u hd' hu => ?_⟩
    · rw [List.length_take, List.length_drop, hl, hlen]
      have := hin (c.length - j - 1) (by omega)
      simp; omega
    · rw [List.getElem?_take] at hu
      split at hu
      · simp only [World.cell?, hg]; simpa using hu
      · cases hu
    · rw [List.getElem?_take] at hu
      split at hu
      · rename_i hm
        have hv : c[j + m]? = some c[j + m] := List.getElem?_eq_getElem (by omega)
        have hd2 := hget m c[j + m] d (by rw [List.getElem?_drop]; exact hv) hd'
        have hu' : cur[y.idx (i, j) + m]? = some u := by simpa using hu
        have hown := hc _ _ _ (hidx m _ hv) hu'
        exact (hown.freeze hd2).mono fun b hb' _ => ⟨hb'.imp id fun hb' => (hF b).2 (.inr ⟨_, hin m hm, hb'⟩), rfl⟩
      · cases hu

/-- A variable of the caller's, looked at. -/
theorem Rel.restAt {H : Nat → Prop} {e : Env} {Fs : Nat → Nat → Prop} (h : Rel C H e tm w Fs) {r k : Nat} {p : Pt} {ad : Addr} {vs : List V} {ds : List D} (hp : PlA w e tm r k p ad) (hr : e.restAt r k p = some vs) (hd : toDs vs = some ds) :
    AdrR w (fun b => ¬ H b) ds (.pointer (some ad)) := by
  unfold Env.restAt at hr
  cases hl : p.getLast? with
  | none => simp [hl] at hr
  | some s =>
    obtain ⟨i, j⟩ := s
    rw [hl] at hr
    simp only at hr
    have hpp : p = p.dropLast ++ [(i, j)] := by
      rw [List.getLast?_eq_some_iff] at hl
      obtain ⟨q, rfl⟩ := hl
      simp
    cases hc : e.cell r k p.dropLast with
    | none => simp [hc] at hr
    | some y =>
      rw [hc] at hr
      obtain ⟨a, cs, v, u, h1, h2, h3, h4⟩ := hp
      obtain ⟨a', cs', v', g1, g2, g3⟩ := Env.cell_some hc
      rw [h1] at g1; cases g1
      rw [h2] at g2; cases g2
      obtain ⟨F, hF, hs⟩ := h.root h1 h2 h3
      obtain ⟨uy, Fy, _, _, k1, k2, _, _, k3, _⟩ := hF.hole g3
      have key : ∀ c, ((∃ el xs, y = .own el xs ∧ xs[i]? = some c) ∨ (∃ xs, y = .row xs ∧ xs[i]? = some c) ∨ (y = .box c ∧ i = 0)) → j < c.length → vs = c.drop j → AdrR w (fun b => ¬ H b) ds (.pointer (some ad)) := by
        rintro c hy hj rfl
        obtain ⟨g, m1, m2⟩ := k2.rest hy hj hd
        have := adrOf_snoc (s := (i, j)) k1 g3 m1
        rw [← hpp, h4] at this
        cases this
        exact m2.mono fun b hb _ => ⟨hb.elim (fun hb => hb.2.1) fun hb => (h.hx r b (hs b ((k3 b).2 (.inr hb)))).2, rfl⟩
      cases y with
      | own el xs =>
        simp only at hr
        obtain ⟨c, hcx, hr⟩ := Option.bind_eq_some_iff.1 hr
        split at hr
        · rename_i hj; cases hr; exact key c (.inl ⟨_, _, rfl, hcx⟩) hj rfl
        · cases hr
      | row xs =>
        simp only at hr
        obtain ⟨c, hcx, hr⟩ := Option.bind_eq_some_iff.1 hr
        split at hr
        · rename_i hj; cases hr; exact key c (.inr (.inl ⟨_, rfl, hcx⟩)) hj rfl
        · cases hr
      | box c =>
        simp only at hr
        split at hr
        · rename_i hj; cases hr; exact key c (.inr (.inr ⟨rfl, hj.1⟩)) hj.2 rfl
        · cases hr
      | _ => simp at hr

theorem TR.env {P : Program} {ok : Nat → Prop} {e : Env} {t : T} {u : Value} {F : Nat → Prop} (h : TR P w ok e tm t u F) (ht : ∃ a cs, t = .vs a cs) : TRe P w ok t u F := by
  obtain ⟨a, cs, rfl⟩ := ht; exact h

/-- What is captured, handed on to be read. -/
theorem Rel.capsRo {H : Nat → Prop} {e : Env} {Fs : Nat → Nat → Prop} (h : Rel C H e tm w Fs) : ∀ {caps us : List T} {vs : List Value} {b : Bool}, caps.length = vs.length → (∀ (j : Nat) (t : T) (u : Value), caps[j]? = some t → vs[j]? = some u → CapR C.P w (okOf C.X H Fs) e tm t u) →
    Mir.capsRo e caps = some (us, b) → us.length = vs.length ∧ (∀ t ∈ us, (∃ a cs, t = .vs a cs ∧ cs.all V.isD = true) ∨ ∃ c, t = .adr c) ∧
      ∀ (j : Nat) (t : T) (u : Value), us[j]? = some t → vs[j]? = some u → TRe C.P w (fun b => ¬ H b) t u No ∧ (b = false → TRe C.P w (okOf C.X H Fs) t u No)
  | [], us, vs, b, hl, _, hc => by
    simp [Mir.capsRo] at hc
    obtain ⟨rfl, rfl⟩ := hc
    exact ⟨hl, by simp, by simp⟩
  | c :: caps, us, [], b, hl, _, _ => by simp at hl
  | c :: caps, us, v :: vs, b, hl, hall, hc => by
    have h0 := hall 0 c v rfl rfl
    have hr : ∀ (j : Nat) (t : T) (u : Value), caps[j]? = some t → vs[j]? = some u → CapR C.P w (okOf C.X H Fs) e tm t u := fun j t u h1 h2 => hall (j + 1) t u (by simpa using h1) (by simpa using h2)
    have hnh : ∀ b, okOf C.X H Fs b → ¬ H b := fun b hb => hb.2.1
    cases c with
    | at_ r k p =>
      simp only [Mir.capsRo] at hc
      obtain ⟨rs, hrs, hc⟩ := Option.bind_eq_some_iff.1 hc
      obtain ⟨ds, hds, hc⟩ := Option.bind_eq_some_iff.1 hc
      obtain ⟨⟨us', b'⟩, hus, hc⟩ := Option.map_eq_some_iff.1 hc
      simp only [Prod.mk.injEq] at hc
      obtain ⟨rfl, rfl⟩ := hc
      obtain ⟨g1, g2, g3⟩ := Rel.capsRo h (by simpa using hl) hr hus
      obtain ⟨ad, rfl, hp⟩ := h0
      refine ⟨by simp [g1], fun t ht => ?_, fun j t u hj hu => ⟨?_, fun hb => by cases hb⟩⟩
      · rcases List.mem_cons.1 ht with rfl | ht
        · exact .inr ⟨_, rfl⟩
        · exact g2 t ht
      · cases j with
        | zero => simp at hj hu; subst hj; subst hu; exact ⟨fun _ h => h, h.restAt hp hrs hds⟩
        | succ j => exact (g3 j t u (by simpa using hj) (by simpa using hu)).1
    | vs a cs =>
      simp only [Mir.capsRo] at hc
      split at hc
      · rename_i hd
        obtain ⟨⟨us', b'⟩, hus, hc⟩ := Option.map_eq_some_iff.1 hc
        simp only [Prod.mk.injEq] at hc
        obtain ⟨rfl, rfl⟩ := hc
        obtain ⟨g1, g2, g3⟩ := Rel.capsRo h (by simpa using hl) hr hus
        refine ⟨by simp [g1], fun t ht => ?_, fun j t u hj hu => ?_⟩
        · rcases List.mem_cons.1 ht with rfl | ht
          · exact .inl ⟨_, _, rfl, hd⟩
          · exact g2 t ht
        · cases j with
          | zero => simp at hj hu; subst hj; subst hu; exact ⟨VS.okMono h0.2 hnh, fun _ => h0.2⟩
          | succ j => exact g3 j t u (by simpa using hj) (by simpa using hu)
      · cases hc
    | adr c =>
      simp only [Mir.capsRo] at hc
      obtain ⟨⟨us', b'⟩, hus, hc⟩ := Option.map_eq_some_iff.1 hc
      simp only [Prod.mk.injEq] at hc
      obtain ⟨rfl, rfl⟩ := hc
      obtain ⟨g1, g2, g3⟩ := Rel.capsRo h (by simpa using hl) hr hus
      refine ⟨by simp [g1], fun t ht => ?_, fun j t u hj hu => ?_⟩
      · rcases List.mem_cons.1 ht with rfl | ht
        · exact .inr ⟨_, rfl⟩
        · exact g2 t ht
      · cases j with
        | zero => simp at hj hu; subst hj; subst hu; exact ⟨⟨fun _ h => h, h0.mono fun b hb _ => ⟨hnh b hb, rfl⟩⟩, fun _ => ⟨fun _ h => h, h0⟩⟩
        | succ j => exact g3 j t u (by simpa using hj) (by simpa using hu)
    | _ => exact h0.elim

end
end Go.Mir

/- The mirror, part V: arguments. -/
set_option linter.unusedVariables false
set_option linter.unusedSimpArgs false
namespace Go.Mir
open Go.RowKit

theorem Env.sub_cell {e1 e : Env} {r k : Nat} {p : Pt} (h : e1.sub e) (hc : (e1.cell r k p).isSome) : (e.cell r k p).isSome := by
  obtain ⟨y, hy⟩ := Option.isSome_iff_exists.1 hc
  obtain ⟨a', cs', v', g1, g2, g3⟩ := Env.cell_some hy
  obtain ⟨cs0, k1, k2, k3⟩ := h r a' cs' g1
  obtain ⟨v0, m1, m2⟩ := k3 k v' g2
  obtain ⟨z, hz⟩ := Option.isSome_iff_exists.1 (m2 p (by rw [g3]; rfl)).1
  simp only [Env.cell, k1, m1, Option.bind_some, hz]
  rfl

/-- What the first look makes of an argument. -/
def A1R (C : Ctx) (H1 : Nat → Prop) (e1 : Env) (tm : Nat → Value) (w : World) (Fs1 : Nat → Nat → Prop) (m : PM) (a : Option Arg) (u : Value) (F : Nat → Prop) : Prop :=
  match a with
  | none => (∀ b, ¬ F b) ∧ m.isIo = false
  | some a => TRe C.P w (okOf C.X H1 Fs1) a.t u F ∧ a.look = false ∧ (∃ ag cs, a.t = .vs ag cs) ∧
    match a.back with
    | none => m.isIo = false
    | some (r, k, p) => m.isIo = true ∧ ((e1.cell r k p).isSome → PlV w e1 tm r k p u)

theorem A1R.mono {C : Ctx} {H1 H2 : Nat → Prop} {e1 e2 : Env} {tm : Nat → Value} {w : World} {Fs1 Fs2 : Nat → Nat → Prop} {m : PM} {a : Option Arg} {u : Value} {F : Nat → Prop} (h : A1R C H1 e1 tm w Fs1 m a u F)
    (hs : e2.sub e1) (ho : OkMono C H1 Fs1 H2 Fs2) : A1R C H2 e2 tm w Fs2 m a u F := by
  cases a with
  | none => exact h
  | some a =>
    obtain ⟨t, look, back⟩ := a
    obtain ⟨h1, h2, h3, h4⟩ := h
    refine ⟨h1.okMono ho, h2, h3, ?_⟩
    cases back with
    | none => exact h4
    | some b => obtain ⟨r, k, p⟩ := b; exact ⟨h4.1, fun hc => Env.sub_plv hs (h4.2 (Env.sub_cell hs hc)) hc⟩

theorem cells_spec {f : Nat → Option V} : ∀ {n i : Nat} {vs : List V}, cells f i n = some vs → vs.length = n ∧ ∀ (j : Nat) (v : V), vs[j]? = some v → f (i + j) = some v
  | 0, i, vs, h => by simp [cells] at h; subst h; simp
  | n + 1, i, vs, h => by
    simp only [cells] at h
    obtain ⟨v, hv, h⟩ := Option.bind_eq_some_iff.1 h
    obtain ⟨vs', hvs, rfl⟩ := Option.map_eq_some_iff.1 h
    obtain ⟨g1, g2⟩ := cells_spec hvs
    refine ⟨by simp [g1], fun j y hj => ?_⟩
    cases j with
    | zero => simp at hj; subst hj; exact hv
    | succ j => rw [show i + (j + 1) = i + 1 + j by omega]; exact g2 j y (by simpa using hj)

section
variable {C : Ctx} {tm : Nat → Value} {w : World}

theorem Rel.arg1 {H : Nat → Prop} {e e1 : Env} {Fs : Nat → Nat → Prop} (h : Rel C H e tm w Fs) {ty : TypeId} {x : Operand} {q : Opd} (hq : Mir.opd C.P ty x = some q) {m : PM} {a : Option Arg} (ha : e.arg1 C.rt m q = some (a, e1)) :
    ∃ (F : Nat → Prop) (Fs1 : Nat → Nat → Prop), Rel C (fun b => H b ∨ F b) e1 tm w Fs1 ∧ OkMono C H Fs (fun b => H b ∨ F b) Fs1 ∧ (∀ b, F b → ¬ H b) ∧ e1.sub e ∧ A1R C (fun b => H b ∨ F b) e1 tm w Fs1 m a (ev tm x) F := by
  have noop : m = .ro → (a, e1) = (none, e) → ∃ (F : Nat → Prop) (Fs1 : Nat → Nat → Prop), Rel C (fun b => H b ∨ F b) e1 tm w Fs1 ∧ OkMono C H Fs (fun b => H b ∨ F b) Fs1 ∧ (∀ b, F b → ¬ H b) ∧ e1.sub e ∧ A1R C (fun b => H b ∨ F b) e1 tm w Fs1 m a (ev tm x) F := fun hm he => by
    simp only [Prod.mk.injEq] at he
    obtain ⟨rfl, rfl⟩ := he
    obtain ⟨h1, h2⟩ := h.noH (G := No) (fun _ h => h)
    exact ⟨No, Fs, h1, h2, fun _ h => h.elim, Env.sub_refl _, fun _ h => h, by rw [hm]; rfl⟩
  obtain ⟨F0, ht, hw⟩ := h.opd hq
  cases m with
  | ro =>
    simp only [Env.arg1] at ha
    split at ha
    · rename_i t ag cs heq
      split at ha
      · simp only [Option.some.injEq] at ha; exact noop rfl ha.symm
      · split at ha
        · rename_i hnd _ ds hds
          simp only [Option.some.injEq, Prod.mk.injEq] at ha
          obtain ⟨rfl, rfl⟩ := ha
          rcases hw with ⟨t2, h1, rfl, hFt⟩ | ⟨_, _, hn⟩
          · cases h1
            rw [heq] at ht
            obtain ⟨k1, k2, k3⟩ := h.empty t hFt
            have k4 := k1.letGo (H' := fun b => H b ∨ No b) fun b hb => hb.elim .inl fun h => h.elim
            refine ⟨No, _, k4, fun b hb => ?_, fun _ h => h.elim, Env.sub_dead _ _ _, ?_, rfl, ⟨_, _, rfl⟩, rfl⟩
            · have := k2 b hb
              exact ⟨this.1, fun hh => this.2.1 (hh.elim .inl fun h => h.elim), this.2.2⟩
            · refine VS.freeze ht hds fun b hb => ?_
              rcases hb with hb | hb
              · have := k2 b hb
                exact ⟨this.1, fun hh => this.2.1 (hh.elim .inl fun h => h.elim), this.2.2⟩
              · refine ⟨(h.hx t b ((hFt b).1 hb)).1, fun hh => hh.elim (h.hx t b ((hFt b).1 hb)).2 fun h => h, fun t' => ?_⟩
                by_cases e1 : t' = t
                · simp [e1]
                · simp only [e1, if_false]; exact fun hh => h.dj t' t b e1 hh ((hFt b).1 hb)
          · exact (hn _ rfl).elim
        · simp only [Option.some.injEq] at ha; exact noop rfl ha.symm
    · simp only [Option.some.injEq] at ha; exact noop rfl ha.symm
  | own =>
    simp only [Env.arg1] at ha
    obtain ⟨⟨ag, cs, e2⟩, hv, heq⟩ := Option.map_eq_some_iff.1 ha
    simp only [Prod.mk.injEq] at heq
    obtain ⟨rfl, rfl⟩ := heq
    obtain ⟨F, Fs1, h1, h2, h3, h4⟩ := h.vals hq hv
    exact ⟨F, Fs1, h1, h4, h3, Env.sub_vals hv, h2, rfl, ⟨_, _, rfl⟩, rfl⟩
  | io =>
    simp only [Env.arg1] at ha
    split at ha
    · rename_i t v0 heq
      obtain ⟨⟨v, e2⟩, hv, he⟩ := Option.map_eq_some_iff.1 ha
      simp only [Prod.mk.injEq] at he
      obtain ⟨rfl, rfl⟩ := he
      rcases hw with ⟨t2, h1, rfl, hFt⟩ | ⟨_, _, hn⟩
      · cases h1
        have hpv : PlV w e tm t 0 [] (tm t) := ⟨false, _, _, tm t, heq, rfl, by simp [Mir.cellsOf], by simp [V.get_nil], rfl⟩
        obtain ⟨F, Fs1, k1, k2, k3, k4, k5, _⟩ := h.takeRef hpv hv
        exact ⟨F, Fs1, k1, k4, k3, Env.sub_takePl hv, VS.ofOne k2, rfl, ⟨_, _, rfl⟩, rfl, fun _ => k5⟩
      · exact (hn _ rfl).elim
    · rename_i r k p _ heq
      obtain ⟨⟨v, e2⟩, hv, he⟩ := Option.map_eq_some_iff.1 ha
      simp only [Prod.mk.injEq] at he
      obtain ⟨rfl, rfl⟩ := he
      rw [heq] at ht
      obtain ⟨F, Fs1, k1, k2, k3, k4, k5, _⟩ := h.takeRef ht.2 hv
      exact ⟨F, Fs1, k1, k4, k3, Env.sub_takePl hv, VS.ofOne k2, rfl, ⟨_, _, rfl⟩, rfl, fun _ => k5⟩
    · rename_i r k p heq
      split at ha
      · rename_i hlast
        obtain ⟨⟨v, e2⟩, hv, he⟩ := Option.bind_eq_some_iff.1 ha
        simp only at he
        split at he
        · rename_i c
          simp only [Option.some.injEq, Prod.mk.injEq] at he
          obtain ⟨rfl, rfl⟩ := he
          rw [heq] at ht
          obtain ⟨_, ad, hx, hpa⟩ := ht
          have hpp : p = p.dropLast ++ [(0, 0)] := by
            rw [List.getLast?_eq_some_iff] at hlast
            obtain ⟨q, rfl⟩ := hlast
            simp
          obtain ⟨Fs', Fx, ux, g1, g2, g3, g4, g5, g6, g7, _⟩ := h.takePl hv
          have hux : ux = ev tm x := by
            rw [hx]
            obtain ⟨a1, cs1, v1, u1, m1, m2, m3, m4, m5⟩ := g3
            obtain ⟨a2, cs2, v2, u2, n1, n2, n3, n4⟩ := hpa
            rw [m1] at n1; cases n1
            rw [m2] at n2; cases n2
            rw [m3] at n3; cases n3
            have hcell : ∃ y, v1.get p.dropLast = some y ∧ y = .box c := by
              unfold Env.takePl at hv
              obtain ⟨y, hy, hv⟩ := Option.bind_eq_some_iff.1 hv
              obtain ⟨z, _, hv⟩ := Option.map_eq_some_iff.1 hv
              simp only [Prod.mk.injEq] at hv
              simp only [Env.cell, m1, m2, Option.bind_some] at hy
              exact ⟨y, hy, hv.1⟩
            obtain ⟨_, hy, rfl⟩ := hcell
            cases g2 with
            | blk _ hh =>
              obtain ⟨_, _, _, rfl⟩ := hh
              have := adrOf_snoc (s := (0, 0)) m5 hy rfl
              rw [← hpp, n4] at this
              simp [V.idx] at this
              rw [this]
          subst hux
          obtain ⟨F, Fs1, k1, k2, k3, k4, k5, _⟩ := h.takeRef g3 hv
          exact ⟨F, Fs1, k1, k4, k3, Env.sub_takePl hv, VS.ofOne k2, rfl, ⟨_, _, rfl⟩, rfl, fun _ => k5⟩
        · cases he
      · cases ha
    · cases ha

theorem Rel.args1 : ∀ {ms : List PM} {os : List Operand} {qs : List Opd} {H : Nat → Prop} {e e1 : Env} {Fs : Nat → Nat → Prop} {l : List (Option Arg)}, Rel C H e tm w Fs → All2 (fun (a : Operand) (b : Opd) => ∃ ty, Mir.opd C.P ty a = some b) os qs →
    Env.args1 C.rt ms e qs = some (l, e1) →
    ∃ (Fl Fs1 : Nat → Nat → Prop), Rel C (fun b => H b ∨ ∃ j, j < os.length ∧ Fl j b) e1 tm w Fs1 ∧ OkMono C H Fs (fun b => H b ∨ ∃ j, j < os.length ∧ Fl j b) Fs1 ∧ l.length = os.length ∧ os.length ≤ ms.length ∧
      (∀ i j b, i < os.length → j < os.length → i ≠ j → Fl i b → ¬ Fl j b) ∧ (∀ j b, j < os.length → Fl j b → ¬ H b) ∧ e1.sub e ∧
      ∀ (j : Nat) (m : PM) (a : Option Arg) (x : Operand), ms[j]? = some m → l[j]? = some a → os[j]? = some x → A1R C (fun b => H b ∨ ∃ j, j < os.length ∧ Fl j b) e1 tm w Fs1 m a (ev tm x) (Fl j)
  | ms, [], _, H, e, e1, Fs, l, h, .nil, ha => by
    have : l = [] ∧ e1 = e := by cases ms <;> simp [Env.args1] at ha <;> exact ⟨ha.1, ha.2.symm⟩
    obtain ⟨rfl, rfl⟩ := this
    exact ⟨fun _ => No, Fs, h.letGo (fun b hb => hb.elim id fun ⟨_, hj, _⟩ => by simp at hj), fun b hb => ⟨hb.1, fun hh => hh.elim hb.2.1 fun ⟨_, hj, _⟩ => by simp at hj, hb.2.2⟩, rfl, by simp, by simp, by simp, Env.sub_refl _, by simp⟩
  | ms, x :: os, _, H, e, e2, Fs, l, h, .cons (b := q) (bs := qs) ⟨ty, hq⟩ hr, ha => by
    cases ms with
    | nil => simp [Env.args1] at ha
    | cons m ms =>
      simp only [Env.args1] at ha
      obtain ⟨⟨a, e1⟩, ha1, ha⟩ := Option.bind_eq_some_iff.1 ha
      obtain ⟨⟨l', e3⟩, ha2, heq⟩ := Option.map_eq_some_iff.1 ha
      simp only [Prod.mk.injEq] at heq
      obtain ⟨rfl, rfl⟩ := heq
      obtain ⟨F, Fs1, g1, g2, g3, g4, g5⟩ := h.arg1 hq ha1
      obtain ⟨Fl, Fs2, k1, k2, k3, k4, k5, k6, k7, k8⟩ := Rel.args1 g1 hr ha2
      have hH : ∀ b, (H b ∨ ∃ j, j < (x :: os).length ∧ (match j with | 0 => F | j + 1 => Fl j) b) ↔ ((H b ∨ F b) ∨ ∃ j, j < os.length ∧ Fl j b) := by
        intro b
        constructor
        · rintro (hb | ⟨j, hj, hb⟩)
          · exact .inl (.inl hb)
          · cases j with
            | zero => exact .inl (.inr hb)
            | succ j => exact .inr ⟨j, by simpa using hj, hb⟩
        · rintro ((hb | hb) | ⟨j, hj, hb⟩)
          · exact .inl hb
          · exact .inr ⟨0, by simp, hb⟩
          · exact .inr ⟨j + 1, by simpa using hj, hb⟩
      have hok : ∀ b, okOf C.X (fun b => (H b ∨ F b) ∨ ∃ j, j < os.length ∧ Fl j b) Fs2 b → okOf C.X (fun b => H b ∨ ∃ j, j < (x :: os).length ∧ (match j with | 0 => F | j + 1 => Fl j) b) Fs2 b := fun b hb => ⟨hb.1, fun hh => hb.2.1 ((hH b).1 hh), hb.2.2⟩
      refine ⟨fun j => match j with | 0 => F | j + 1 => Fl j, Fs2, k1.ext hH, fun b hb => hok b (k2 b (g2 b hb)), by simp [k3], by simp; omega, fun i j b hi hj hij h1 h2 => ?_, fun j b hj hb => ?_, Env.sub_trans k7 g4, fun j m' a' x' hm ha' hx' => ?_⟩
      · cases i with
        | zero =>
          cases j with
          | zero => exact hij rfl
          | succ j => exact k6 j b (by simpa using hj) h2 (.inr h1)
        | succ i =>
          cases j with
          | zero => exact k6 i b (by simpa using hi) h1 (.inr h2)
          | succ j => exact k5 i j b (by simpa using hi) (by simpa using hj) (by omega) h1 h2
      · cases j with
        | zero => exact g3 b hb
        | succ j => exact fun hh => k6 j b (by simpa using hj) hb (.inl hh)
      · cases j with
        | zero =>
          simp at hm ha' hx'; subst hm; subst ha'; subst hx'
          exact g5.mono k7 fun b hb => hok b (k2 b hb)
        | succ j => exact (k8 j m' a' x' (by simpa using hm) (by simpa using ha') (by simpa using hx')).mono (Env.sub_refl _) hok

/-- What the second look makes of an argument that was left. -/
theorem Rel.arg2 {H : Nat → Prop} {e : Env} {Fs : Nat → Nat → Prop} (h : Rel C H e tm w Fs) {ty : TypeId} {x : Operand} {q : Opd} (hq : Mir.opd C.P ty x = some q) {a : Arg} (ha : e.arg2 q none = some a) :
    a.back = none ∧ ((∃ ag cs, a.t = .vs ag cs) ∨ (∃ c, a.t = .adr c) ∨ ∃ f us, a.t = .fn f us) ∧ TRe C.P w (fun b => ¬ H b) a.t (ev tm x) No ∧ (a.look = false → TRe C.P w (okOf C.X H Fs) a.t (ev tm x) No) := by
  obtain ⟨F, ht, hw⟩ := h.opd hq
  have hnh : ∀ b, okOf C.X H Fs b → ¬ H b := fun b hb => hb.2.1
  simp only [Env.arg2, Env.argV] at ha
  split at ha
  · rename_i t c heq
    obtain ⟨ds, hds, ha⟩ := Option.bind_eq_some_iff.1 ha
    split at ha
    · cases ha
    · rename_i hne
      simp only [Option.some.injEq] at ha
      subst ha
      rw [heq] at ht
      have hown := VS.toOne ht
      have hc0 : 0 < c.length := by
        rw [← (toDs_get hds).1]
        exact List.length_pos_iff.2 (by simpa using hne)
      obtain ⟨g, m1, m2⟩ := hown.rest (i := 0) (j := 0) (.inr (.inr ⟨rfl, rfl⟩)) hc0 hds
      have hg : ev tm x = .pointer (some ⟨g, 0, none⟩) := by
        cases hown with
        | blk _ hh => obtain ⟨_, _, _, hu⟩ := hh; rw [hu] at m1 ⊢; simp [hdBlk] at m1; subst m1; rfl
      rcases hw with ⟨t2, h1, rfl, hFt⟩ | ⟨_, _, hn⟩
      · cases h1
        refine ⟨rfl, .inr (.inl ⟨_, rfl⟩), ⟨fun _ h => h, ?_⟩, fun hl => by cases hl⟩
        rw [hg]
        exact m2.mono fun b hb _ => ⟨hb.elim (hnh b) fun hb => (h.hx t b ((hFt b).1 hb)).2, rfl⟩
      · exact (hn _ rfl).elim
  · rename_i t el xs heq
    obtain ⟨d, hd, rfl⟩ := Option.map_eq_some_iff.1 ha
    rw [heq] at ht
    have hown := VS.toOne ht
    rcases hw with ⟨t2, h1, rfl, hFt⟩ | ⟨_, _, hn⟩
    · cases h1
      exact ⟨rfl, .inl ⟨_, _, rfl⟩, VS.ofOne (.d (fun _ h => h) ((hown.freeze hd).mono fun b hb _ => ⟨hb.elim (hnh b) fun hb => (h.hx t b ((hFt b).1 hb)).2, rfl⟩)), fun hl => by cases hl⟩
    · exact (hn _ rfl).elim
  · rename_i ag cs _ _ heq
    split at ha
    · rename_i hd
      simp only [Option.some.injEq] at ha
      subst ha
      rw [heq] at ht
      have hv : VS C.P w (okOf C.X H Fs) ag cs (ev tm x) No := VS.ext ht fun b => ⟨fun h => h.elim, fun hb => OwnL.noD ht.2 hd b hb⟩
      exact ⟨rfl, .inl ⟨_, _, rfl⟩, VS.okMono hv hnh, fun _ => hv⟩
    · cases ha
  · rename_i r k p heq
    obtain ⟨v, hv, ha⟩ := Option.bind_eq_some_iff.1 ha
    obtain ⟨d, hd, rfl⟩ := Option.map_eq_some_iff.1 ha
    rw [heq] at ht
    obtain ⟨a1, cs1, v1, u1, m1, m2, m3, m4, m5⟩ := ht.2
    obtain ⟨a2, cs2, v2, n1, n2, n3⟩ := Env.cell_some hv
    rw [m1] at n1; cases n1
    rw [m2] at n2; cases n2
    obtain ⟨F', hF', hs⟩ := h.root m1 m2 m3
    obtain ⟨ux, Fx, _, _, k1, k2, _, _, k3, _⟩ := hF'.hole n3
    rw [m5] at k1; cases k1
    exact ⟨rfl, .inl ⟨_, _, rfl⟩, VS.ofOne (.d (fun _ h => h) ((k2.freeze hd).mono fun b hb _ => ⟨hb.elim (hnh b) fun hb => (h.hx r b (hs b ((k3 b).2 (.inr hb)))).2, rfl⟩)), fun hl => by cases hl⟩
  · rename_i r k p _ heq
    obtain ⟨vs, hvs, ha⟩ := Option.bind_eq_some_iff.1 ha
    obtain ⟨ds, hds, rfl⟩ := Option.map_eq_some_iff.1 ha
    rw [heq] at ht
    obtain ⟨_, ad, hx, hp⟩ := ht
    exact ⟨rfl, .inr (.inl ⟨_, rfl⟩), ⟨fun _ h => h, by rw [hx]; exact h.restAt hp hvs hds⟩, fun hl => by cases hl⟩
  · rename_i c _ heq
    simp only [Option.some.injEq] at ha
    subst ha
    rw [heq] at ht
    exact ⟨rfl, .inr (.inl ⟨_, rfl⟩), ⟨fun _ h => h, ht.2.mono fun b hb _ => ⟨hnh b hb, rfl⟩⟩, fun _ => ⟨fun _ h => h, ht.2⟩⟩
  · rename_i _ r k p n heq
    obtain ⟨vs, hvs, ha⟩ := Option.bind_eq_some_iff.1 ha
    obtain ⟨ds, hds, rfl⟩ := Option.map_eq_some_iff.1 ha
    rw [heq] at ht
    obtain ⟨_, hn, arr, hx, hs, hall⟩ := ht
    refine ⟨rfl, .inl ⟨_, _, rfl⟩, ⟨fun _ => ⟨arr, hx⟩, ?_⟩, fun hl => by cases hl⟩
    obtain ⟨hl, hget⟩ := cells_spec hvs
    obtain ⟨hdl, hdg⟩ := toDs_get hds
    rw [hx]
    refine OwnL.ofData (by simp [dsV, Mir.cellsOf, hdl, hl, hs]) fun j v u hv hu => ?_
    simp only [dsV, List.getElem?_map] at hv
    obtain ⟨y, hy, rfl⟩ := Option.map_eq_some_iff.1 hv
    have hjl : j < vs.length := by rw [← hdl]; exact (List.getElem?_eq_some_iff.1 hy).1
    have hvj := List.getElem?_eq_getElem hjl
    have hyd := hdg j _ y hvj hy
    have hc := hget j _ hvj
    obtain ⟨q, hq, hc⟩ := Option.bind_eq_some_iff.1 hc
    simp only [Nat.zero_add] at hq
    obtain ⟨q', hq', hpv⟩ := hall j u (by simpa [Mir.cellsOf] using hu)
    rw [hq] at hq'; cases hq'
    obtain ⟨a1, cs1, v1, u1, m1, m2, m3, m4, m5⟩ := hpv
    obtain ⟨a2, cs2, v2, n1, n2, n3⟩ := Env.cell_some hc
    rw [m1] at n1; cases n1
    rw [m2] at n2; cases n2
    obtain ⟨F', hF', hs'⟩ := h.root m1 m2 m3
    obtain ⟨ux, Fx, _, _, k1, k2, _, _, k3, _⟩ := hF'.hole n3
    rw [m5] at k1; cases k1
    exact .d (fun _ h => h) ((k2.freeze hyd).mono fun b hb _ => ⟨hb.elim (hnh b) fun hb => (h.hx r b (hs' b ((k3 b).2 (.inr hb)))).2, rfl⟩)
  · rename_i f caps heq
    obtain ⟨⟨us, b⟩, hus, rfl⟩ := Option.map_eq_some_iff.1 ha
    rw [heq] at ht
    obtain ⟨_, vs, hx, hl, hall⟩ := ht
    obtain ⟨g1, g2, g3⟩ := h.capsRo hl hall hus
    have mk : ∀ {ok : Nat → Prop}, (∀ (j : Nat) (t : T) (u : Value), us[j]? = some t → vs[j]? = some u → TRe C.P w ok t u No) → TRe C.P w ok (.fn f us) (ev tm x) No := fun hh => by
      refine ⟨fun _ h => h, vs, hx, g1, fun j t u hj hu => ?_⟩
      have h1 := hh j t u hj hu
      rcases g2 t (List.mem_of_getElem? hj) with ⟨ag, cs, rfl, hd⟩ | ⟨c, rfl⟩
      · exact ⟨hd, h1⟩
      · exact h1.2
    exact ⟨rfl, .inr (.inr ⟨_, _, rfl⟩), mk fun j t u hj hu => (g3 j t u hj hu).1, fun hb => mk fun j t u hj hu => (g3 j t u hj hu).2 hb⟩
  · cases ha

end
end Go.Mir

/- The mirror, part Wa: who looked into a variable that was lent looks into it again. -/
set_option linter.unusedVariables false
set_option linter.unusedSimpArgs false
namespace Go.Mir
open Go.RowKit

/-- A dead temporary looks into a place (again). -/
theorem Rel.revive {C : Ctx} {H : Nat → Prop} {e : Env} {tm : Nat → Value} {w : World} {Fs : Nat → Nat → Prop} (h : Rel C H e tm w Fs) {u r k : Nat} {p : Pt} {ad : Addr} (hd : e.get u = .dead) (hp : PlA w e tm r k p ad) (hx : tm u = .pointer (some ad)) (hv : (u, r) ∈ C.rt) (hne : r ≠ u) :
    Rel C H ((u, .at_ r k p) :: e) tm w Fs := by
  have hget : ∀ t, Env.get ((u, .at_ r k p) :: e) t = if u = t then .at_ r k p else e.get t := fun t => rfl
  have hpa : ∀ r' k' q ad', PlA w e tm r' k' q ad' → PlA w ((u, .at_ r k p) :: e) tm r' k' q ad' := fun r' k' q ad' ⟨a, cs, v, x, g1, g2⟩ => by
    refine ⟨a, cs, v, x, ?_, g2⟩
    rw [hget, if_neg]
    · exact g1
    · rintro rfl; rw [hd] at g1; cases g1
  have hpv : ∀ r' k' q y, PlV w e tm r' k' q y → PlV w ((u, .at_ r k p) :: e) tm r' k' q y := fun r' k' q y ⟨a, cs, v, x, g1, g2⟩ => by
    refine ⟨a, cs, v, x, ?_, g2⟩
    rw [hget, if_neg]
    · exact g1
    · rintro rfl; rw [hd] at g1; cases g1
  have hF : ∀ b, ¬ Fs u b := fun b hb => by
    have := h.tr u
    rw [hd] at this
    exact this b hb
  refine ⟨fun t => ?_, h.dj, h.hx, fun t r' hr => ?_, h.gr, h.nw, h.hn⟩
  · rw [hget]
    split
    · rename_i he
      subst he
      exact ⟨hF, ad, hx, hpa r k p ad hp⟩
    · exact (h.tr t).change (fun _ _ => rfl) (fun _ hb _ => ⟨hb, rfl⟩) (fun r' k' q ad' _ _ hq => hpa r' k' q ad' hq) (fun r' k' q y _ _ hq => hpv r' k' q y hq)
  · rw [hget] at hr
    split at hr
    · rename_i he
      subst he
      simp [T.roots] at hr
      subst hr
      exact ⟨hv, hne⟩
    · exact h.vw t r' hr

/-- Where a place inside a variable lies. -/
theorem adrOf_snoc_inv {w : World} {s : Nat × Nat} : ∀ {p : Pt} {v : V} {u : Value} {ad : Addr}, adrOf w v u (p ++ [s]) = some ad → (∃ y, v.get p = some y) → ∃ x y g, valOf w v u p = some x ∧ v.get p = some y ∧ hdBlk x = some g ∧ ad = ⟨g, y.idx s, none⟩
  | [], v, u, ad, h, _ => by
    simp only [List.nil_append, adrOf] at h
    obtain ⟨g, hg, h⟩ := Option.bind_eq_some_iff.1 h
    simp at h
    exact ⟨u, v, g, rfl, by simp [V.get_nil], hg, h.symm⟩
  | t :: p, v, u, ad, h, hy => by
    obtain ⟨y, hy⟩ := hy
    rw [V.get_cons] at hy
    obtain ⟨v', hk, hy⟩ := Option.bind_eq_some_iff.1 hy
    have h' : ((hdBlk u).bind fun g => (w.cell? ⟨g, v.idx t, none⟩).bind fun u' => (v.kid t).bind fun v' => adrOf w v' u' (p ++ [s])) = some ad := by cases p <;> exact h
    obtain ⟨g, hg, h'⟩ := Option.bind_eq_some_iff.1 h'
    obtain ⟨u', hc, h'⟩ := Option.bind_eq_some_iff.1 h'
    obtain ⟨v'', hk', h'⟩ := Option.bind_eq_some_iff.1 h'
    rw [hk] at hk'; cases hk'
    obtain ⟨x, y', g', k1, k2, k3, k4⟩ := adrOf_snoc_inv h' ⟨y, hy⟩
    refine ⟨x, y', g', ?_, by rw [V.get_cons, hk]; exact k2, k3, k4⟩
    simp only [valOf]
    cases p with
    | nil =>
      simp only [valOf, Option.some.injEq] at k1
      subst k1
      simp [adrOf, hg, hc]
    | cons t2 p2 =>
      rw [adrOf_step hg hc hk]
      exact k1

theorem Rel.again {C : Ctx} {H H0 : Nat → Prop} {e0 : Env} {tm : Nat → Value} {w0 w : World} {Fs0 : Nat → Nat → Prop} (h0 : Rel C H0 e0 tm w0 Fs0) {r k : Nat} {p : Pt} {c0 c : List V} (hb0 : e0.cell r k p = some (.box c0)) {x : Value} (hx0 : ∀ y, PlV w0 e0 tm r k p y → y = x) :
    ∀ {us : List Nat} {e : Env} {Fs : Nat → Nat → Prop}, Rel C H e tm w Fs → e.cell r k p = some (.box c) → PlV w e tm r k p x → Rel C H (Env.again C.rt e0 r k p us e) tm w Fs
  | [], e, Fs, h, hb, hx => h
  | u :: us, e, Fs, h, hb, hx => by
    simp only [Env.again]
    split
    · rename_i r' k' q hg hd
      split
      · rename_i j hl
        split
        · rename_i hc
          obtain ⟨rfl, rfl, rfl, hv, hne⟩ := hc
          have ht := h0.tr u
          rw [hg] at ht
          obtain ⟨_, ad, htm, a, cs, v, u0, g1, g2, g3, g4⟩ := ht
          obtain ⟨a', cs', v', m1, m2, m3⟩ := Env.cell_some hb0
          rw [g1] at m1; cases m1
          rw [g2] at m2; cases m2
          obtain ⟨x0, y0, g, k1, k2, k3, k4⟩ := adrOf_snoc_inv g4 ⟨_, m3⟩
          rw [m3] at k2; cases k2
          obtain rfl := hx0 x0 ⟨a, cs, v, u0, g1, g2, g3, by rw [m3]; rfl, k1⟩
          obtain ⟨a1, cs1, v1, u1, n1, n2, n3, n4, n5⟩ := hx
          obtain ⟨a2, cs2, v2, q1, q2, q3⟩ := Env.cell_some hb
          rw [n1] at q1; cases q1
          rw [n2] at q2; cases q2
          have hpa : PlA w e tm r' k' (p ++ [(0, j)]) ad := ⟨a1, cs1, v1, u1, n1, n2, n3, by rw [k4]; exact (adrOf_snoc (s := (0, j)) n5 q3 k3 : adrOf w v1 u1 (p ++ [(0, j)]) = some ⟨g, (V.box c).idx (0, j), none⟩)⟩
          have hr : Env.get ((u, .at_ r' k' (p ++ [(0, j)])) :: e) r' = e.get r' := by
            simp only [Env.get]; rw [if_neg (Ne.symm hne)]
          refine Rel.again (c := c) h0 hb0 hx0 (h.revive hd hpa htm hv hne) ?_ ?_
          · simp only [Env.cell, hr, n1, n2, Option.bind_some, q3]
          · exact ⟨a1, cs1, v1, u1, by rw [hr]; exact n1, n2, n3, n4, n5⟩
        · exact Rel.again h0 hb0 hx0 h hb hx
      · exact Rel.again h0 hb0 hx0 h hb hx
    · exact Rel.again h0 hb0 hx0 h hb hx

theorem PlV.uniq {w : World} {e : Env} {tm : Nat → Value} {r k : Nat} {p : Pt} {x y : Value} (h : PlV w e tm r k p x) (h' : PlV w e tm r k p y) : x = y := by
  obtain ⟨a, cs, v, u, h1, h2, h3, _, h5⟩ := h
  obtain ⟨a', cs', v', u', k1, k2, k3, _, k5⟩ := h'
  rw [h1] at k1; cases k1
  rw [h2] at k2; cases k2
  rw [h3] at k3; cases k3
  rw [h5] at k5; exact Option.some.inj k5

/-- A place that was filled reads as before. -/
theorem PlV.filled {w : World} {e e1 : Env} {tm : Nat → Value} {rt : Views} {r k : Nat} {p : Pt} {y : V} {x : Value} (hs : e.setCell r k p y = some e1) (hv : PlV w e tm r k p x) :
    (e1.kill rt r k p).cell r k p = some y ∧ PlV w (e1.kill rt r k p) tm r k p x := by
  obtain ⟨a, cs, v, v1, hr, hc, hset, rfl⟩ := Env.setCell_some hs
  obtain ⟨a', cs', v', u, hr', hc', hu, _, hval⟩ := hv
  rw [hr] at hr'; cases hr'
  rw [hc] at hc'; cases hc'
  have hk : k < cs.length := (List.getElem?_eq_some_iff.1 hc).1
  have hg : Env.get (Env.kill rt ((r, .vs a (cs.set k v1)) :: e) r k p) r = .vs a (cs.set k v1) := by
    unfold Env.kill
    rw [Env.get_over]
    have : Env.get ((r, T.vs a (cs.set k v1)) :: e) r = .vs a (cs.set k v1) := by simp [Env.get]
    rw [this]
    split <;> rfl
  have hgv : v1.get p = some y := V.get_set hset
  refine ⟨?_, a, cs.set k v1, v1, u, hg, List.getElem?_set_self hk, hu, by rw [hgv]; rfl, ?_⟩
  · simp only [Env.cell, hg, List.getElem?_set_self hk, Option.bind_some, hgv]
  · rw [← hval]
    cases p with
    | nil => rfl
    | cons s p => simp only [valOf]; rw [adrOf_set w hset fun hh => hh.2 rfl]

end Go.Mir

/- The mirror, part W: a call. -/
set_option linter.unusedVariables false
set_option linter.unusedSimpArgs false
namespace Go.Mir
open Go.RowKit

def ioVals : List PM → List Value → List Value
  | m :: ms, u :: us => if m.isIo then u :: ioVals ms us else ioVals ms us
  | _, _ => []

def T.isVal : T → Bool
  | .vs _ _ => true
  | .tup _ => true
  | _ => false

/-- **What a function does**: handed these, it answers that, and hands that back. -/
def CallR (P : Program) (pm : FuncId → List PM) (f : FuncId) (args : List T) (r : Res) : Prop :=
  (∃ fn, P.funcs[f]? = some fn ∧ (fn.name == "runtime.NumGoroutine") = false ∧ fn.body.isNone = false) ∧ r.1.isVal = true ∧
  ∀ (X : Nat → Prop) (w : World) (us : List Value) (Fa : Nat → Nat → Prop), (∀ b, X b → b < w.heap.size) → args.length = us.length →
    (∀ (j : Nat) (t : T) (u : Value), args[j]? = some t → us[j]? = some u → TRe P w (fun b => ¬ X b ∧ ∀ j, j < args.length → ¬ Fa j b) t u (Fa j)) →
    (∀ i j b, i < args.length → j < args.length → i ≠ j → Fa i b → ¬ Fa j b) → (∀ j b, j < args.length → Fa j b → ¬ X b) →
    Calls P f us.toArray w fun en w' => ∃ v, en = .returned v ∧ Grow (fun b => ∃ j, j < args.length ∧ Fa j b) w w' ∧ ∃ Fr Fo : Nat → Prop,
      TRe P w' (fun b => ¬ X b ∧ ¬ Fr b ∧ ¬ Fo b) r.1 v Fr ∧ OwnL P w' (fun b => ¬ X b ∧ ¬ Fr b ∧ ¬ Fo b) r.2 (ioVals (pm f) us) Fo ∧ (∀ b, Fr b → ¬ Fo b) ∧
      ∀ b, Fr b ∨ Fo b → ¬ X b ∧ ((∃ j, j < args.length ∧ Fa j b) ∨ w.heap.size ≤ b)

/-- What hangs on no 'ok'. -/
theorem RO.any {w : World} {ok ok' : Nat → Prop} {x : D} {u : Value} (h : RO w ok x u) (hn : V.noSl (.d x) = true) : RO w ok' x u := by
  cases h with
  | sc h => exact .sc h
  | nil => exact .nil
  | sl us h0 => simp [V.noSl] at hn; exact (h0 hn).elim

theorem noSls_get : ∀ {cs : List V}, noSls cs = true → ∀ (j : Nat) (v : V), cs[j]? = some v → v.noSl = true
  | [], _, j, v, h => by simp at h
  | c :: cs, hn, j, v, h => by
    simp only [noSls, Bool.and_eq_true] at hn
    cases j with
    | zero => simp at h; subst h; exact hn.1
    | succ j => exact noSls_get hn.2 j v (by simpa using h)

theorem noSls_append : ∀ {a b : List V}, noSls (a ++ b) = (noSls a && noSls b)
  | [], b => by simp [noSls]
  | c :: a, b => by simp only [List.cons_append, noSls, noSls_append (a := a), Bool.and_assoc]

theorem noSlss_flat : ∀ {xs : List (List V)}, noSlss xs = true → noSls xs.flatten = true
  | [], _ => rfl
  | c :: xs, h => by
    simp only [noSlss, Bool.and_eq_true] at h
    rw [List.flatten_cons, noSls_append, h.1, noSlss_flat h.2]; rfl

theorem Own.any {P : Program} {w : World} {ok ok' : Nat → Prop} {v : V} {u : Value} {F : Nat → Prop} (h : Own P w ok v u F) (hn : v.noSl = true) : Own P w ok' v u F := by
  induction h with
  | dead h1 hF => exact .dead h1 hF
  | d hF hr => exact .d hF (hr.any hn)
  | nil hF => exact .nil hF
  | @blk v u g vs cur e fz F Fs hh hg hc hd hb hF ih =>
    refine .blk Fs hh hg (fun j v' u' hv hu => ih j v' u' hv hu ?_) hd hb hF
    have hvs : noSls vs = true := by
      cases v <;> simp only [Shape] at hh
      · obtain ⟨_, _, _, _, rfl, _⟩ := hh; exact noSlss_flat (by simpa [V.noSl] using hn)
      · obtain ⟨_, rfl, _⟩ := hh; exact noSlss_flat (by simpa [V.noSl] using hn)
      · obtain ⟨_, rfl, _⟩ := hh; simpa [V.noSl] using hn
    exact noSls_get hvs j v' hv

theorem OwnL.any {P : Program} {w : World} {ok ok' : Nat → Prop} {cs : List V} {us : List Value} {F : Nat → Prop} (h : OwnL P w ok cs us F) (hn : noSls cs = true) : OwnL P w ok' cs us F := by
  obtain ⟨hl, Fs, g1, g2, g3⟩ := h
  exact ⟨hl, Fs, fun j v u hv hu => (g1 j v u hv hu).any (noSls_get hn j v hv), g2, g3⟩

theorem TRe.any {P : Program} {w : World} {ok ok' : Nat → Prop} {t : T} {u : Value} {F : Nat → Prop} (h : TRe P w ok t u F) (hn : t.noSl = true) : TRe P w ok' t u F := by
  cases t with
  | vs a cs => exact ⟨h.1, h.2.any hn⟩
  | tup ts =>
    obtain ⟨xs, hx, hl, Fs, g1, g2, g3⟩ := h
    simp only [T.noSl, List.all_eq_true] at hn
    exact ⟨xs, hx, hl, Fs, fun j c x hc hx => ⟨(g1 j c x hc hx).1, (g1 j c x hc hx).2.any (hn c (List.mem_of_getElem? hc))⟩, g2, g3⟩
  | _ => simp [T.noSl] at hn

theorem TRe.env {P : Program} {w : World} {ok : Nat → Prop} {e : Env} {tm : Nat → Value} {t : T} {u : Value} {F : Nat → Prop} (h : TRe P w ok t u F) (hv : t.isVal = true) : TR P w ok e tm t u F := by
  cases t with
  | vs a cs => exact h
  | tup ts => exact h
  | _ => simp [T.isVal] at hv

section
variable {C : Ctx} {e e' : Env} {tm : Nat → Value} {w : World} {Fs : Nat → Nat → Prop} {o : Oper} {call : FuncId → List T → Option Res} {pm : FuncId → List PM}

theorem Rel.args2 {H : Nat → Prop} (h : Rel C H e tm w Fs) : ∀ {os : List Operand} {qs : List Opd} {l : List (Option Arg)} {ags : List Arg}, All2 (fun (a : Operand) (b : Opd) => ∃ ty, Mir.opd C.P ty a = some b) os qs → Env.args2 e qs l = some ags →
    ags.length = os.length ∧ ∀ (j : Nat) (a : Arg) (x : Operand), ags[j]? = some a → os[j]? = some x → l[j]? = some (some a) ∨ (l[j]? = some none ∧ a.back = none ∧ TRe C.P w (fun b => ¬ H b) a.t (ev tm x) No ∧ (a.look = false → TRe C.P w (okOf C.X H Fs) a.t (ev tm x) No))
  | [], _, l, ags, .nil, ha => by
    cases l with
    | nil => simp [Env.args2] at ha; subst ha; simp
    | cons a l => simp [Env.args2] at ha
  | x :: os, _, l, ags, .cons (b := q) (bs := qs) ⟨ty, hq⟩ hr, ha => by
    cases l with
    | nil => simp [Env.args2] at ha
    | cons a0 l =>
      simp only [Env.args2] at ha
      obtain ⟨a, ha1, ha⟩ := Option.bind_eq_some_iff.1 ha
      obtain ⟨as', has, rfl⟩ := Option.map_eq_some_iff.1 ha
      obtain ⟨g1, g2⟩ := Rel.args2 h hr has
      refine ⟨by simp [g1], fun j a' x' hj hx => ?_⟩
      cases j with
      | zero =>
        simp at hj hx; subst hj; subst hx
        cases a0 with
        | some b => simp [Env.arg2] at ha1; subst ha1; exact .inl rfl
        | none =>
          obtain ⟨k1, _, k2, k3⟩ := h.arg2 hq ha1
          exact .inr ⟨rfl, k1, k2, k3⟩
      | succ j => exact g2 j a' x' (by simpa using hj) (by simpa using hx)

theorem Rel.worldPlV {H : Nat → Prop} (h : Rel C H e tm w Fs) {w' : World} (hg : Grow H w w') {r k : Nat} {p : Pt} {x : Value} (hp : PlV w e tm r k p x) : PlV w' e tm r k p x := by
  obtain ⟨a, cs, v, u, h1, h2, h3, h5, h4⟩ := hp
  obtain ⟨F, hF, hs⟩ := h.root h1 h2 h3
  have hf : ∀ b, F b → w'.heap[b]? = w.heap[b]? := fun b hb => hg.block b ((h.tr r).lt b (hs b hb)) (h.hx r b (hs b hb)).2
  refine ⟨a, cs, v, u, h1, h2, h3, h5, ?_⟩
  cases p with
  | nil => exact h4
  | cons s p =>
    simp only [valOf] at h4 ⊢
    rw [adrOf_frame hF hf]
    obtain ⟨ad, ha, hc⟩ := Option.bind_eq_some_iff.1 h4
    rw [ha]
    exact (World.cell?_of_block (w := w) (hf _ (adrOf_mem hF h5 ha).1)).trans hc

theorem ioVals_none : ∀ {ms : List PM} {us : List Value}, (∀ (j : Nat) (m : PM), j < us.length → ms[j]? = some m → m.isIo = false) → ioVals ms us = []
  | [], us, _ => by cases us <;> rfl
  | m :: ms, [], _ => rfl
  | m :: ms, u :: us, h => by
    have h0 := h 0 m (by simp) rfl
    simp only [ioVals, h0, Bool.false_eq_true, if_false]
    exact ioVals_none fun j m hj hm => h (j + 1) m (by simpa using hj) (by simpa using hm)

/-- The backs of arguments and the values of what is lent go together. -/
theorem backs_io : ∀ {ags : List Arg} {us : List Value} {ms : List PM}, ags.length ≤ us.length → ags.length ≤ ms.length → (∀ (j : Nat) (a : Arg) (m : PM), ags[j]? = some a → ms[j]? = some m → (a.back.isSome = m.isIo)) →
    (∀ (j : Nat) (m : PM), ags.length ≤ j → j < us.length → ms[j]? = some m → m.isIo = false) →
    (ags.filterMap (·.back) = [] → ioVals ms us = []) ∧ ∀ b, ags.filterMap (·.back) = [b] → ∃ (j : Nat) (a : Arg) (u : Value), ags[j]? = some a ∧ a.back = some b ∧ us[j]? = some u ∧ ioVals ms us = [u]
  | [], us, ms, _, _, _, h => by
    refine ⟨fun _ => ioVals_none fun j m hj hm => h j m (by simp) hj hm, fun b hb => by simp at hb⟩
  | a :: ags, [], ms, h1, _, _, _ => by simp at h1
  | a :: ags, u :: us, [], _, h2, _, _ => by simp at h2
  | a :: ags, u :: us, m :: ms, h1, h2, h3, h4 => by
    have h0 := h3 0 a m rfl rfl
    obtain ⟨g1, g2⟩ := backs_io (ags := ags) (us := us) (ms := ms) (by simpa using h1) (by simpa using h2) (fun j a m hj hm => h3 (j + 1) a m (by simpa using hj) (by simpa using hm))
      (fun j m hl hj hm => h4 (j + 1) m (by simpa using hl) (by simpa using hj) (by simpa using hm))
    cases hb : a.back with
    | none =>
      rw [hb] at h0
      have hm : m.isIo = false := h0.symm
      have hf : List.filterMap (·.back) (a :: ags) = List.filterMap (·.back) ags := by simp [List.filterMap_cons, hb]
      rw [hf]
      simp only [ioVals, hm, Bool.false_eq_true, if_false]
      exact ⟨g1, fun b hb => by obtain ⟨j, a', u', k1, k2, k3, k4⟩ := g2 b hb; exact ⟨j + 1, a', u', by simpa using k1, k2, by simpa using k3, k4⟩⟩
    | some bk =>
      rw [hb] at h0
      have hm : m.isIo = true := h0.symm
      have hf : List.filterMap (·.back) (a :: ags) = bk :: List.filterMap (·.back) ags := by simp [List.filterMap_cons, hb]
      rw [hf]
      simp only [ioVals, hm, if_true]
      refine ⟨fun h => by simp at h, fun b hbb => ?_⟩
      simp only [List.cons.injEq] at hbb
      obtain ⟨rfl, hbb⟩ := hbb
      exact ⟨0, a, u, rfl, hb, rfl, by rw [g1 hbb]⟩

theorem All2.length {α β : Type} {R : α → β → Prop} {ags : List α} {bs : List β} (h : All2 R ags bs) : ags.length = bs.length := by
  induction h with
  | nil => rfl
  | cons _ _ ih => simp [ih]

theorem Env.backs_cases {rt : Views} {e e2 : Env} {ags : List Arg} {outs : List V} (h : e.backs rt ags outs = some e2) :
    (ags.filterMap (·.back) = [] ∧ outs = [] ∧ e2 = e) ∨ ∃ r k p v e1, ags.filterMap (·.back) = [(r, k, p)] ∧ outs = [v] ∧ e.cell r k p = some .dead ∧ e.setCell r k p v = some e1 ∧ e2 = e1.kill rt r k p := by
  unfold Env.backs at h
  generalize ags.filterMap (·.back) = l at h
  match l, outs, h with
  | [], [], h => simp only [Option.some.injEq] at h; exact .inl ⟨rfl, rfl, h.symm⟩
  | [(r, k, p)], [v], h =>
    simp only at h
    split at h
    · rename_i hd
      obtain ⟨e1, h1, h2⟩ := Option.map_eq_some_iff.1 h
      exact .inr ⟨r, k, p, v, e1, rfl, rfl, hd, h1, h2.symm⟩
    · cases h

/-- What the function value holds. -/
def capVals (C : Ctx) (tm : Nat → Value) (f : FuncId) (cx : Option Opd) (cv : List Value) : Prop :=
  match cx with
  | none => cv = []
  | some q => ∃ x ty, Mir.opd C.P ty x = some q ∧ ev tm x = .func (.func f) #[] cv.toArray

theorem Rel.capsOf {H : Nat → Prop} (h : Rel C H e tm w Fs) {f : FuncId} {cx : Option Opd} {cv : List Value} {caps : List T} (hcx : capVals C tm f cx cv) (hc : e.capsOf f cx = some caps) :
    caps.length = cv.length ∧ ∀ (j : Nat) (t : T) (u : Value), caps[j]? = some t → cv[j]? = some u → CapR C.P w (okOf C.X H Fs) e tm t u := by
  cases cx with
  | none =>
    simp only [capVals] at hcx
    simp only [Env.capsOf, Option.some.injEq] at hc
    subst hcx; subst hc
    simp
  | some q =>
    obtain ⟨x, ty, hq, hx⟩ := hcx
    simp only [Env.capsOf] at hc
    obtain ⟨F, ht, _⟩ := h.opd hq
    split at hc
    · rename_i g caps' heq
      split at hc
      · rename_i hg
        simp only [Option.some.injEq] at hc
        subst hc; subst hg
        rw [heq] at ht
        obtain ⟨_, vs, hx', hl, hall⟩ := ht
        rw [hx] at hx'
        simp only [Value.func.injEq, true_and] at hx'
        have : cv = vs := by simpa using hx'
        subst this
        exact ⟨hl, hall⟩
      · cases hc
    · cases hc

/-- A call, carried out: behind the looks at what is handed in. -/
theorem ok_callG {f : FuncId} {cx : Option Opd} {os : List Operand} {qs : List Opd} (hq : All2 (fun (a : Operand) (b : Opd) => ∃ ty, Mir.opd C.P ty a = some b) os qs) {cv : List Value} (hcx : capVals C tm f cx cv)
    (hcall : ∀ args r, call f args = some r → CallR C.P pm f args r) {dst : Option Nat} {e1 : Env} {l : List (Option Arg)} {Fl Fs1 : Nat → Nat → Prop} {ags : List Arg} {caps cs : List T} {bl : Bool} {t : T} {outs : List V}
    (g1 : Rel C (fun b => No b ∨ ∃ j, j < os.length ∧ Fl j b) e1 tm w Fs1) (g3' : os.length ≤ (pm f).length) (g4 : ∀ i j b, i < os.length → j < os.length → i ≠ j → Fl i b → ¬ Fl j b)
    (g7 : ∀ (j : Nat) (m : PM) (a : Option Arg) (x : Operand), (pm f)[j]? = some m → l[j]? = some a → os[j]? = some x → A1R C (fun b => No b ∨ ∃ j, j < os.length ∧ Fl j b) e1 tm w Fs1 m a (ev tm x) (Fl j))
    (hdrop : ((List.drop qs.length (pm f)).all fun m => !m.isIo) = true) (ha2 : Env.args2 e1 qs l = some ags) (hcaps : e1.capsOf f cx = some caps) (hc : Mir.capsRo e1 caps = some (cs, bl)) (hr : call f (ags.map (·.t) ++ cs) = some (t, outs))
    {e0 : Env} {Fs0 : Nat → Nat → Prop} (h0 : Rel C No e0 tm w Fs0) (hsub : e1.sub e0)
    (hlook : ¬ ((bl || ags.any (·.look)) && !(t.noSl && noSls outs)) = true) (hi4 : ((Env.backs C.rt e1 ags outs).bind fun e2 => (e0.regain C.rt e2 ags outs).put C.rt dst t) = some e') :
    (∃ fn, C.P.funcs[f]? = some fn ∧ (fn.name == "runtime.NumGoroutine") = false ∧ fn.body.isNone = false) ∧
    Calls C.P f (os.map (ev tm) ++ cv).toArray w fun en w' => ∃ v Fs', en = .returned v ∧ Rel C No e' (setTm tm dst v) w' Fs' := by
  obtain ⟨k1, k2⟩ := g1.args2 hq ha2
  obtain ⟨c0, c0'⟩ := g1.capsOf hcx hcaps
  obtain ⟨c1, c2, c3⟩ := g1.capsRo c0 c0' hc
  obtain ⟨hfn, hval, hcr⟩ := hcall _ _ hr
  refine ⟨hfn, ?_⟩
  have hql : os.length = qs.length := hq.length
  -- what is lent
  obtain ⟨lk, hlk⟩ : ∃ lk : Bool, lk = (bl || ags.any (·.look)) := ⟨_, rfl⟩
  obtain ⟨X', hX1, hX2⟩ : ∃ X' : Nat → Prop, (lk = true → ∀ b, ¬ X' b) ∧ (lk = false → ∀ b, X' b ↔ (C.X b ∨ ∃ t, Fs1 t b)) := by
    cases lk with
    | true => exact ⟨No, fun _ _ h => h, fun h => by cases h⟩
    | false => exact ⟨fun b => C.X b ∨ ∃ t, Fs1 t b, fun h => (by cases h), fun _ _ => Iff.rfl⟩
  obtain ⟨Fa, hFaI⟩ : ∃ Fa : Nat → Nat → Prop, ∀ j b, Fa j b ↔ (j < os.length ∧ Fl j b) := ⟨fun j b => j < os.length ∧ Fl j b, fun _ _ => Iff.rfl⟩
  have hFaLt : ∀ j b, Fa j b → j < os.length ∧ Fl j b := fun j b => (hFaI j b).1
  have hFaOf : ∀ j b, j < os.length → Fl j b → Fa j b := fun j b hj hb => (hFaI j b).2 ⟨hj, hb⟩
  have hlen : (ags.map (·.t) ++ cs).length = (os.map (ev tm) ++ cv).length := by simp [k1, c1]
  have hX'ok : ∀ b, okOf C.X (fun b => No b ∨ ∃ j, j < os.length ∧ Fl j b) Fs1 b → ¬ X' b ∧ ∀ j, j < (ags.map (·.t) ++ cs).length → ¬ Fa j b := fun b hb => by
    refine ⟨?_, fun j _ hj => ?_⟩
    · cases hl : lk with
      | true => exact hX1 hl b
      | false => exact fun hx => ((hX2 hl b).1 hx).elim hb.1 fun ⟨t, h1⟩ => hb.2.2 t h1
    · obtain ⟨h1, h2⟩ := hFaLt j b hj
      exact hb.2.1 (.inr ⟨j, h1, h2⟩)
  have hNH : lk = true → ∀ b, ¬ (No b ∨ ∃ j, j < os.length ∧ Fl j b) → ¬ X' b ∧ ∀ j, j < (ags.map (·.t) ++ cs).length → ¬ Fa j b := fun hl b hb => by
    refine ⟨hX1 hl b, fun j _ hj => ?_⟩
    obtain ⟨h1, h2⟩ := hFaLt j b hj
    exact hb (.inr ⟨j, h1, h2⟩)
  have hX'lt : ∀ b, X' b → b < w.heap.size := fun b hb => by
    cases hl : lk with
    | true => exact (hX1 hl b hb).elim
    | false =>
      rcases (hX2 hl b).1 hb with h1 | ⟨t, h1⟩
      · have := C.hX b h1; have := g1.gr.size; omega
      · exact (g1.tr t).lt b h1
  have hargs : ∀ (j : Nat) (t : T) (u : Value), (ags.map (·.t) ++ cs)[j]? = some t → (os.map (ev tm) ++ cv)[j]? = some u → TRe C.P w (fun b => ¬ X' b ∧ ∀ j, j < (ags.map (·.t) ++ cs).length → ¬ Fa j b) t u (Fa j) := by
    intro j t u hj hu
    by_cases hjo : j < os.length
    · rw [List.getElem?_append_left (by simpa [k1] using hjo)] at hj
      rw [List.getElem?_append_left (by simpa using hjo)] at hu
      rw [List.getElem?_map] at hj hu
      obtain ⟨a, haj, rfl⟩ := Option.map_eq_some_iff.1 hj
      obtain ⟨x, hxj, rfl⟩ := Option.map_eq_some_iff.1 hu
      have hms : ∃ m, (pm f)[j]? = some m := ⟨_, List.getElem?_eq_getElem (by omega)⟩
      obtain ⟨m, hm⟩ := hms
      rcases k2 j a x haj hxj with h1 | ⟨h1, h2, h3, h4⟩
      · have := g7 j m _ x hm h1 hxj
        refine TR.ext (this.1.okMono hX'ok) fun b => ⟨fun hb => (hFaLt j b hb).2, hFaOf j b hjo⟩
      · have hn := (g7 j m _ x hm h1 hxj).1
        cases hl : lk with
        | true => exact TR.ext (h3.okMono (hNH hl)) fun b => ⟨fun hb => (hn b (hFaLt j b hb).2).elim, fun hb => hb.elim⟩
        | false =>
          have hal : a.look = false := by
            have : ags.any (·.look) = false := by
              cases h5 : ags.any (·.look)
              · rfl
              · rw [h5, hl] at hlk; simp at hlk
            have h6 := List.any_eq_false.1 this a (List.mem_of_getElem? haj)
            simpa using h6
          exact TR.ext ((h4 hal).okMono hX'ok) fun b => ⟨fun hb => (hn b (hFaLt j b hb).2).elim, fun hb => hb.elim⟩
    · rw [List.getElem?_append_right (by simpa [k1] using hjo)] at hj
      rw [List.getElem?_append_right (by simpa using hjo)] at hu
      have hll : (ags.map (·.t)).length = (os.map (ev tm)).length := by simp [k1]
      rw [hll] at hj
      obtain ⟨d1, d2⟩ := c3 _ t u hj hu
      cases hl : lk with
      | true => exact TR.ext (d1.okMono (hNH hl)) fun b => ⟨fun hb => (hjo (hFaLt j b hb).1).elim, fun hb => hb.elim⟩
      | false =>
        have hbl : bl = false := by
          cases h5 : bl
          · rfl
          · rw [h5, hl] at hlk; simp at hlk
        exact TR.ext ((d2 hbl).okMono hX'ok) fun b => ⟨fun hb => (hjo (hFaLt j b hb).1).elim, fun hb => hb.elim⟩
  have hFaX : ∀ j b, j < (ags.map (·.t) ++ cs).length → Fa j b → ¬ X' b := fun j b _ hb hx => by
    obtain ⟨h1, h2⟩ := hFaLt j b hb
    cases hl : lk with
    | true => exact hX1 hl b hx
    | false =>
      rcases (hX2 hl b).1 hx with h3 | ⟨t, h3⟩
      · exact (g1.hn b (.inr ⟨j, h1, h2⟩)).1 h3
      · exact (g1.hx t b h3).2 (.inr ⟨j, h1, h2⟩)
  have hbig := hcr X' w (os.map (ev tm) ++ cv) Fa hX'lt hlen hargs
    (fun i j b _ _ hij h1 h2 => g4 i j b (hFaLt i b h1).1 (hFaLt j b h2).1 hij (hFaLt i b h1).2 (hFaLt j b h2).2) hFaX
  refine hbig.mono fun en w' ⟨v, hen, hgr, Fr, Fo, hv, ho, hdj, hin⟩ => ?_
  have hgr' : Grow (fun b => No b ∨ ∃ j, j < os.length ∧ Fl j b) w w' := hgr.mono fun b _ ⟨j, _, hb⟩ => .inr ⟨j, hFaLt j b hb⟩
  have R2 : Rel C (fun b => Fr b ∨ Fo b) e1 tm w' Fs1 := g1.world hgr' fun b hb => by
    refine ⟨?_, hb.elim (hv.lt b) (ho.lt b)⟩
    rcases (hin b hb).2 with ⟨j, _, h1⟩ | h1
    · exact .inl (.inr ⟨j, hFaLt j b h1⟩)
    · exact .inr h1
  have hokk : lk = false → ∀ b, (¬ X' b ∧ ¬ Fr b ∧ ¬ Fo b) → okOf C.X (fun b => Fr b ∨ Fo b) Fs1 b := fun hl b hb => by
    have h1 : ¬ (C.X b ∨ ∃ t, Fs1 t b) := fun hh => hb.1 ((hX2 hl b).2 hh)
    exact ⟨fun hx => h1 (.inl hx), fun hh => hh.elim hb.2.1 hb.2.2, fun t ht => h1 (.inr ⟨t, ht⟩)⟩
  have hsl : lk = true → t.noSl = true ∧ noSls outs = true := fun hl => by
    have h1 := hlook
    rw [← hlk, hl] at h1
    simpa using h1
  have hv' : TRe C.P w' (okOf C.X (fun b => Fr b ∨ Fo b) Fs1) t v Fr := by
    cases hl : lk with
    | true => exact hv.any (hsl hl).1
    | false => exact hv.okMono (hokk hl)
  have ho' : OwnL C.P w' (okOf C.X (fun b => Fr b ∨ Fo b) Fs1) outs (ioVals (pm f) (os.map (ev tm) ++ cv)) Fo := by
    cases hl : lk with
    | true => exact ho.any (hsl hl).2
    | false => exact ho.frame (fun _ _ => rfl) fun b hb _ => ⟨hokk hl b hb, rfl⟩
  obtain ⟨e2, hb2, hput⟩ := Option.bind_eq_some_iff.1 hi4
  have hbk := backs_io (ags := ags) (us := os.map (ev tm) ++ cv) (ms := pm f) (by simp [k1]) (by omega) (fun j a m haj hm => by
      have hjo : j < os.length := by have := (List.getElem?_eq_some_iff.1 haj).1; omega
      have hxj := List.getElem?_eq_getElem hjo
      rcases k2 j a _ haj hxj with h1 | ⟨h1, h2, _, _⟩
      · have := (g7 j m _ _ hm h1 hxj).2.2.2
        cases hab : a.back with
        | none => rw [hab] at this; simp only at this; rw [this]; rfl
        | some b => rw [hab] at this; obtain ⟨r, k, p⟩ := b; simp only at this; rw [this.1]; rfl
      · have hn := (g7 j m _ _ hm h1 hxj).2
        rw [h2, hn]; rfl)
    (fun j m hl hj hm => by
      have := List.all_eq_true.1 hdrop m (by
        rw [List.mem_drop_iff_getElem]
        obtain ⟨h1, h2⟩ := List.getElem?_eq_some_iff.1 hm
        exact ⟨j - qs.length, by omega, by rw [← h2]; congr 1; omega⟩)
      simpa using this)
  rcases Env.backs_cases hb2 with ⟨hfm, hou, rfl⟩ | ⟨r, k, p, vo, e3, hfm, hou, hdead, hset, rfl⟩
  · rw [hou] at ho'
    have hFo : ∀ b, ¬ Fo b := fun b hb => by
      obtain ⟨_, Fq, _, _, h3⟩ := ho'
      obtain ⟨j, hj, _⟩ := (h3 b).1 hb
      simp at hj
    have hreg : ∀ e9 : Env, e0.regain C.rt e9 ags outs = e9 := fun e9 => by simp [Env.regain, hfm]
    rw [hreg] at hput
    obtain ⟨Fs', h'⟩ := R2.put hput (TRe.env hv' hval) fun b hb => .inl hb
    exact ⟨v, Fs', hen, h'.letGo fun b hb => hb.elim⟩
  · rw [hou] at ho'
    obtain ⟨j, a, u, q1, q2, q3, q4⟩ := hbk.2 _ hfm
    have hjo : j < os.length := by have := (List.getElem?_eq_some_iff.1 q1).1; omega
    have hxj := List.getElem?_eq_getElem hjo
    have hu : u = ev tm os[j] := by
      rw [List.getElem?_append_left (by simpa using hjo), List.getElem?_map, hxj] at q3
      exact (Option.some.inj q3).symm
    have hms : ∃ m, (pm f)[j]? = some m := ⟨_, List.getElem?_eq_getElem (by omega)⟩
    obtain ⟨m, hm⟩ := hms
    have hpl : PlV w e1 tm r k p u := by
      rcases k2 j a _ q1 hxj with h1 | ⟨h1, h2, _, _⟩
      · have := (g7 j m _ _ hm h1 hxj).2.2.2
        rw [q2] at this
        rw [hu]
        exact this.2 (by rw [hdead]; rfl)
      · rw [q2] at h2; cases h2
    have hpl' : PlV w' e1 tm r k p u := g1.worldPlV hgr' hpl
    rw [q4] at ho'
    obtain ⟨_, Fq, f1, f2, f3⟩ := ho'
    have hown := f1 0 vo u rfl rfl
    obtain ⟨Fs2, R3, hok3⟩ := R2.backPl hdead hset hpl' hown fun b hb => .inr ((f3 b).2 ⟨0, by simp, hb⟩)
    have hFrH : ∀ b, Fr b → (Fr b ∨ Fo b) ∧ ¬ Fq 0 b := fun b hb => ⟨.inl hb, fun hq => hdj b hb ((f3 b).2 ⟨0, by simp, hq⟩)⟩
    have R4 : Rel C (fun b => (Fr b ∨ Fo b) ∧ ¬ Fq 0 b) (e0.regain C.rt (e3.kill C.rt r k p) ags outs) tm w' Fs2 := by
      unfold Env.regain
      split
      · rename_i r' k' p' c hfm' hou'
        rw [hfm] at hfm'
        simp only [List.cons.injEq, Prod.mk.injEq, and_true] at hfm'
        obtain ⟨rfl, rfl, rfl⟩ := hfm'
        simp only [List.cons.injEq, and_true] at hou
        subst hou
        split
        · rename_i c0 hb0
          obtain ⟨d1, d2⟩ := PlV.filled (rt := C.rt) hset hpl'
          exact Rel.again h0 hb0 (fun y hy => (Env.sub_plv hsub hy (by rw [hdead]; rfl)).uniq hpl) R3 d1 d2
        · exact R3
      · exact R3
    obtain ⟨Fs', h'⟩ := R4.put hput (TRe.env (hv'.okMono hok3) hval) hFrH
    refine ⟨v, Fs', hen, h'.letGo fun b hb => hb.elim⟩


/-- **A call, carried out.** -/
theorem ok_callF (h : Rel C No e tm w Fs) {f : FuncId} {cx : Option Opd} {os : List Operand} {qs : List Opd} (hq : All2 (fun (a : Operand) (b : Opd) => ∃ ty, Mir.opd C.P ty a = some b) os qs) {cv : List Value} (hcx : capVals C tm f cx cv)
    (hcall : ∀ args r, call f args = some r → CallR C.P pm f args r) {dst : Option Nat} (hi : Env.callF call pm C.rt e dst f cx qs = some e') :
    (∃ fn, C.P.funcs[f]? = some fn ∧ (fn.name == "runtime.NumGoroutine") = false ∧ fn.body.isNone = false) ∧
    Calls C.P f (os.map (ev tm) ++ cv).toArray w fun en w' => ∃ v Fs', en = .returned v ∧ Rel C No e' (setTm tm dst v) w' Fs' := by
  unfold Env.callF at hi
  split at hi
  case isFalse => cases hi
  case isTrue hdrop =>
    obtain ⟨⟨l, e1⟩, ha1, hi1⟩ := Option.bind_eq_some_iff.1 hi
    obtain ⟨ags, ha2, hi2⟩ := Option.bind_eq_some_iff.1 hi1
    obtain ⟨caps, hcaps, hi25⟩ := Option.bind_eq_some_iff.1 hi2
    obtain ⟨⟨cs, bl⟩, hc, hi3⟩ := Option.bind_eq_some_iff.1 hi25
    obtain ⟨⟨t, outs⟩, hr, hi4⟩ := Option.bind_eq_some_iff.1 hi3
    clear hi hi1 hi2 hi25 hi3
    obtain ⟨Fl, Fs1, g1, g2, g3, g3', g4, g5, g6, g7⟩ := h.args1 hq ha1
    simp only at ha2 hcaps hc hr hi4
    split at hi4
    case isTrue => cases hi4
    case isFalse hlook => exact ok_callG hq hcx hcall g1 g3' g4 g7 hdrop ha2 hcaps hc hr h g6 hlook hi4

/-- A call that only looks, carried out. -/
theorem ok_callR (h : Rel C No e tm w Fs) {f : FuncId} {os : List Operand} {qs : List Opd} (hq : All2 (fun (a : Operand) (b : Opd) => ∃ ty, Mir.opd C.P ty a = some b) os qs)
    (hcall : ∀ args r, call f args = some r → CallR C.P pm f args r) {dst : Option Nat} (hi : Env.callR call pm C.rt e dst f qs = some e') :
    (∃ fn, C.P.funcs[f]? = some fn ∧ (fn.name == "runtime.NumGoroutine") = false ∧ fn.body.isNone = false) ∧
    Calls C.P f (os.map (ev tm) ++ []).toArray w fun en w' => ∃ v Fs', en = .returned v ∧ Rel C No e' (setTm tm dst v) w' Fs' := by
  unfold Env.callR at hi
  split at hi
  case isFalse => cases hi
  case isTrue hpm =>
    obtain ⟨ags, ha2, hi2⟩ := Option.bind_eq_some_iff.1 hi
    obtain ⟨⟨t, outs⟩, hr, hi4⟩ := Option.bind_eq_some_iff.1 hi2
    clear hi hi2
    simp only at ha2 hr hi4
    split at hi4
    case isTrue => cases hi4
    case isFalse hlook =>
      split at hi4
      case isFalse => cases hi4
      case isTrue hout =>
        have hout' : outs = [] := by simpa using hout
        subst hout'
        have hql := hq.length
        refine ok_callG (cx := none) (cv := []) (l := qs.map fun _ => none) (Fl := fun _ => No) (Fs1 := Fs) (caps := []) (cs := []) (bl := false) hq rfl hcall
          (h.letGo fun b hb => hb.elim id fun ⟨_, _, hj⟩ => hj) (by omega) (fun _ _ _ _ _ _ h1 => h1.elim) (fun j m a x hm ha hx => ?_) ?_ ha2 rfl rfl (by simpa using hr) h (Env.sub_refl _) (by simpa using hlook) ?_
        · rw [List.getElem?_map] at ha
          obtain ⟨_, _, rfl⟩ := Option.map_eq_some_iff.1 ha
          refine ⟨fun _ h => h, ?_⟩
          have := List.all_eq_true.1 hpm.1 m (List.mem_of_getElem? hm)
          simpa using this
        · rw [List.all_eq_true]
          exact fun m hm => List.all_eq_true.1 hpm.1 m (List.mem_of_mem_drop hm)
        · have hb : ∀ {ags : List Arg} {l : List Opd}, Env.args2 e l (l.map fun _ => none) = some ags → ags.filterMap (·.back) = [] := by
            intro ags l
            induction l generalizing ags with
            | nil => intro h; simp [Env.args2] at h; subst h; rfl
            | cons o l ih =>
              intro h
              simp only [List.map_cons, Env.args2] at h
              obtain ⟨a, ha, h⟩ := Option.bind_eq_some_iff.1 h
              obtain ⟨as', has, rfl⟩ := Option.map_eq_some_iff.1 h
              have hback : a.back = none := by
                simp only [Env.arg2, Env.argV] at ha
                split at ha
                · obtain ⟨ds, _, ha⟩ := Option.bind_eq_some_iff.1 ha
                  split at ha
                  · cases ha
                  · cases ha; rfl
                · obtain ⟨d, _, rfl⟩ := Option.map_eq_some_iff.1 ha; rfl
                · split at ha
                  · cases ha; rfl
                  · cases ha
                · obtain ⟨v, _, ha⟩ := Option.bind_eq_some_iff.1 ha
                  obtain ⟨d, _, rfl⟩ := Option.map_eq_some_iff.1 ha; rfl
                · obtain ⟨v, _, ha⟩ := Option.bind_eq_some_iff.1 ha
                  obtain ⟨d, _, rfl⟩ := Option.map_eq_some_iff.1 ha; rfl
                · cases ha; rfl
                · obtain ⟨v, _, ha⟩ := Option.bind_eq_some_iff.1 ha
                  obtain ⟨d, _, rfl⟩ := Option.map_eq_some_iff.1 ha; rfl
                · obtain ⟨d, _, rfl⟩ := Option.map_eq_some_iff.1 ha; rfl
                · cases ha
              rw [List.filterMap_cons, hback, ih has]
          simp only [Env.backs, hb ha2, Option.bind_some, Env.regain]
          exact hi4

end
end Go.Mir

/- The mirror, part Wb: append that leaves what it was put behind. -/
set_option linter.unusedVariables false
set_option linter.unusedSimpArgs false
namespace Go.Mir
open Go.RowKit
section
variable {C : Ctx} {e e' : Env} {tm : Nat → Value} {w : World} {Fs : Nat → Nat → Prop} {o : Oper} {call : FuncId → List T → Option Res} {pm : FuncId → List PM}
theorem toDss_append : ∀ {xs ys : List (List V)} {ds es : List (List D)}, toDss xs = some ds → toDss ys = some es → toDss (xs ++ ys) = some (ds ++ es)
  | [], ys, ds, es, h1, h2 => by simp [toDss] at h1; subst h1; simpa using h2
  | x :: xs, ys, ds, es, h1, h2 => by
    simp only [toDss] at h1
    obtain ⟨a, ha, h1⟩ := Option.bind_eq_some_iff.1 h1
    obtain ⟨b, hb, rfl⟩ := Option.map_eq_some_iff.1 h1
    simp [toDss, ha, toDss_append hb h2]

theorem toDss_len : ∀ {xs : List (List V)} {ds : List (List D)}, toDss xs = some ds → ds.length = xs.length
  | [], ds, h => by simp [toDss] at h; subst h; rfl
  | x :: xs, ds, h => by
    simp only [toDss] at h
    obtain ⟨a, ha, h⟩ := Option.bind_eq_some_iff.1 h
    obtain ⟨b, hb, rfl⟩ := Option.map_eq_some_iff.1 h
    simp [toDss_len hb]

theorem ok_appd (h : Rel C No e tm w Fs) {t t' el t1 t2 : TypeId} {x y : Operand} {qx qy : Opd} (hop : o.op = .call { callee := .builtin .append, args := #[x, y], argTypes := #[t, t'] }) (hu : C.P.underlying t = some (.slice el))
    (ht' : ∃ el', C.P.underlying t' = some (.slice el')) (hz : 0 < C.P.cellsOf el) (hb : 0 < C.P.bytesOf el) {zv : Value} (hzv : (C.P.info? el).bind (·.zero) = some zv) (hzs : zv.cells.size = C.P.cellsOf el)
    (hx : Mir.opd C.P t1 x = some qx) (hy : Mir.opd C.P t2 y = some qy) (hi : ioI call pm C.rt e o.dst (.appd el (C.P.cellsOf el) (C.P.bytesOf el) qx qy) = some e') : Done C o e' tm w := by
  simp only [ioI] at hi
  split at hi
  · rename_i hstr
    obtain ⟨ys, hys, hi1⟩ := Option.bind_eq_some_iff.1 hi
    clear hi
    split at hi1
    case isFalse => cases hi1
    case isTrue hown =>
      split at hi1
      case h_2 => cases hi1
      rename_i r k p heqx
      obtain ⟨⟨v0, e2⟩, hv, hi2⟩ := Option.bind_eq_some_iff.1 hi1
      clear hi1
      split at hi2
      · rename_i el' xs e2' heq
        simp only [Prod.mk.injEq] at heq
        obtain ⟨rfl, rfl⟩ := heq
        split at hi2
        · rename_i hc
          obtain ⟨rfl, hbytes, hall⟩ := hc
          obtain ⟨ds, hds, hi3⟩ := Option.bind_eq_some_iff.1 hi2
          obtain ⟨dys, hdys, hi4⟩ := Option.bind_eq_some_iff.1 hi3
          obtain ⟨e3, he3, hi2⟩ := Option.bind_eq_some_iff.1 hi4
          clear hi3 hi4
          have hsz : ∀ c ∈ ys, c.length = C.P.cellsOf el' := fun c hc => by have := List.all_eq_true.1 hall c hc; simpa using this
          obtain ⟨Fy, Fs1, us, G, r1, r2, r3, r4, hsrc⟩ := h.src (str := false) (by simpa using ht') hy hstr hys hz hsz (.inl hown)
          obtain ⟨F0, ht0, _⟩ := r1.opd hx
          rw [heqx] at ht0
          obtain ⟨Fs2, Fx, ux, k1, hownx, kp, k3, kiff, kp2, kdead, _⟩ := r1.takePl hv
          have hux : ev tm x = ux := kp.det ht0.2 |>.symm
          have k4 : OkMono C (fun b => No b ∨ Fy b) Fs1 (fun b => (No b ∨ Fy b) ∨ Fx b) Fs2 := fun b hb => ⟨hb.1, fun hh => by
            have := (kiff b).1 (hh.elim .inl fun h => .inr (.inl h))
            exact this.elim hb.2.1 fun ⟨t, ht⟩ => hb.2.2 t ht, fun t ht => by
            have := (kiff b).1 (.inr (.inr ⟨t, ht⟩))
            exact this.elim hb.2.1 fun ⟨t, ht⟩ => hb.2.2 t ht⟩
          have r3' := r3.ok k4
          obtain ⟨inf, hI, hisz⟩ := info_of_cells hz
          have hiby : inf.bytes = C.P.bytesOf el' := by simp [Program.bytesOf, hI]
          have hz0 : inf.zero = some zv := by rw [hI] at hzv; simpa using hzv
          have hnm : xs.length + ys.length ≤ 140737488355328 := Nat.le_trans (Nat.le_mul_of_pos_right _ hb) hbytes
          have hnm2 : xs.length + ys.length ≤ maxLen := by simp only [maxLen]; omega
          rw [← hisz] at hsrc
          have hul : us.length = ys.length * C.P.cellsOf el' := by rw [← r3.1, flat_len hsz]
          have fin : ∀ {v' : Value} {w' : World} {H : Nat → Prop} {F' : Nat → Prop}, (Builtin.append_ #[t, t'] o.type #[ux, ev tm y]).run C.P w = .ok v' w' → Rel C H e2 tm w' Fs2 → Own C.P w' (okOf C.X H Fs2) (.own el' (xs ++ ys)) v' F' → (∀ b, F' b → H b) →
              PlV w' e2 tm r k p ux → RO w' (fun b => okOf C.X H Fs2 b ∨ H b) (.sl ds) ux → Done C o e' tm w := by
            intro v' w' H F' hr hrel ho hF hpl hro
            rw [← hux] at hr
            have hok : ∀ b, okOf C.X H Fs2 b ∨ H b → okOf C.X No Fs2 b := fun b hb => hb.elim (fun hb => ⟨hb.1, fun h => h, hb.2.2⟩) fun hb => ⟨(hrel.hn b hb).1, fun h => h, fun t ht => (hrel.hx t b ht).2 hb⟩
            have htd : (V.own el' (xs ++ ys)).toD = some (.sl (ds ++ dys)) := by simp only [V.toD, toDss_append hds hdys]; rfl
            have hro2 := (ho.freeze htd).mono (w' := w') (ok' := okOf C.X No Fs2) fun b hb _ => ⟨hok b (hb.imp id (hF b)), rfl⟩
            obtain ⟨Fs3, q1, q2⟩ := (hrel.letGo (H' := No) fun b hb => hb.elim).backPl (Fy := No) kdead he3 hpl (.d (fun _ h => h) (hro.mono fun b hb _ => ⟨hok b hb, rfl⟩)) fun b hb => hb.elim
            obtain ⟨Fs', h'⟩ := q1.put (F := No) hi2 (VS.ofOne (.d (fun _ h => h) (hro2.mono fun b hb _ => ⟨q2 b hb, rfl⟩))) fun b hb => hb.elim
            exact done_mk (by simp [execOp, hop, resolve, invoke, builtin, hr]) (h'.letGo (H' := No) fun b hb => hb.elim)
          have htd0 : (V.own el' xs).toD = some (.sl ds) := by simp only [V.toD, hds]; rfl
          have hroW := hownx.freeze htd0
          -- a new row
          have grow : ∀ {A : Option Addr} {cap : Nat} {olds : List Value} {Gx : Nat → Prop}, ux = .slice A xs.length cap → cap < xs.length + ys.length → (Builtin.firstCells inf.size xs.length (.slice A xs.length cap)).run C.P w.drew = .ok olds.toArray w.drew →
              OwnL C.P w (okOf C.X (fun b => (No b ∨ Fy b) ∨ Fx b) Fs2) xs.flatten olds Gx → (∀ b, Gx b → Fx b) → (∀ c ∈ xs, c.length = C.P.cellsOf el') → Done C o e' tm w := by
            intro A cap olds Gx hxv hcap hfc hox hGx hxsz
            have hr := run_append_grow_src (P := C.P) w t t' o.type el' inf zv hu hI hz0 A xs.length cap olds hfc (ev tm y) ys.length us hsrc hcap (by omega) (growslice_fits hcap (by rw [hiby]; exact hbytes))
            have hd := k1.world (H' := fun b => (No b ∨ Fy b) ∨ Fx b) (Grow.drew _ w) fun b hb => ⟨.inl hb, (k1.hn b hb).2.2⟩
            have hall2 : OwnL C.P w.drew (okOf C.X (fun b => (No b ∨ Fy b) ∨ Fx b) Fs2) (xs ++ ys).flatten (olds ++ us) (fun b => Gx b ∨ G b) := by
              rw [List.flatten_append]
              exact (OwnL.append hox r3' fun b hb hh => k3 b (hGx b hb) (.inr (r4 b hh))).frame (fun _ _ => rfl) fun b hb _ => ⟨hb, rfl⟩
            have hcg := grownCap_ge w (xs.length + ys.length) cap el'
            have hol : olds.length = xs.length * C.P.cellsOf el' := by rw [← hox.1, flat_len hxsz]
            obtain ⟨m1, m2⟩ := hd.newBlk hall2 (fun b hb => hb.elim (fun hb => .inr (hGx b hb)) fun hb => .inl (.inr (r4 b hb))) ((olds ++ us).toArray ++ Builtin.zeroCells zv.cells (grownCap w (xs.length + ys.length) cap el' - (xs.length + ys.length)))
              (fun j u hj hu => by rw [Array.getElem?_append_left (by simpa using hj)]; simpa using hu) el' (v := .own el' (xs ++ ys)) (u := .slice (some ⟨w.heap.size, 0, none⟩) (xs.length + ys.length) (grownCap w (xs.length + ys.length) cap el'))
              ⟨rfl, rfl, hz, fun c hc => (List.mem_append.1 hc).elim (hxsz c) (hsz c), rfl, _, by rw [List.length_append]; rfl, by rw [List.length_append]; exact hcg, grownCap_le_maxLen w _ cap el' hnm2, by
                rw [Array.size_append, size_zeroCells, hzs, List.size_toArray, List.length_append, hol, hul, ← Nat.add_mul, ← Nat.add_mul]
                congr 1
                omega⟩
            refine fin (by rw [hxv]; exact hr) m1 m2 (fun b hb => ?_) (k1.worldPlV ((Grow.drew _ w).trans (Grow.alloc _ _ _)) kp2) (hroW.mono fun b hb hlt => ⟨?_, Below.heap_alloc w.drew _ b hlt⟩)
            · rcases hb with rfl | hb | hb
              · exact .inr rfl
              · exact .inl (.inr (hGx b hb))
              · exact .inl (.inl (.inr (r4 b hb)))
            · rcases hb with hb | hb
              · exact .inl ⟨hb.1, fun hh => hh.elim hb.2.1 fun h => by have : b < w.drew.heap.size := hlt; omega, hb.2.2⟩
              · exact .inr (.inl (.inr hb))
          cases hownx with
          | @nil _ A F hF =>
            by_cases hm : ys.length = 0
            · have hy0 : ys = [] := List.eq_nil_of_length_eq_zero hm
              subst hy0
              have hus : us = [] := List.eq_nil_of_length_eq_zero (by rw [hul]; simp)
              subst hus
              refine fin (v' := .slice A 0 0) (w' := w) ?_ k1 (Own.nil hF) (fun b hb => (hF b hb).elim) kp2 (by
                simp only [toDss, Option.some.injEq] at hds; subst hds; exact .nil)
              have hsc := hsrc.cells
              have hsl := hsrc.len
              simp only [List.length_nil] at hsc hsl
              rcases hsrc.kind with ⟨e', hk⟩ | hk <;> cases A <;> simp [Builtin.append_, run_underlying hu, run_underlying hk, sizeOf, typeInfo, hI, hsl, hsc, storeCells]
            · exact grow (A := A) (cap := 0) (olds := []) (Gx := No) rfl (by simp; omega) (by cases A <;> simp [Builtin.firstCells, loadCells, loadCellsFrom]) OwnL.nil (fun _ h => h.elim) (by simp)
          | @blk _ _ g vs cur el2 fz F Fc hh hg hc hd hbb hF =>
            obtain ⟨rfl, rfl, _, hxsz, rfl, cap, rfl, hc1, hc2, hc3⟩ := hh
            have hxl := flat_len hxsz
            have hkids : OwnL C.P w (okOf C.X (fun b => (No b ∨ Fy b) ∨ Fx b) Fs2) xs.flatten (cur.toList.take xs.flatten.length) (fun b => ∃ j, j < xs.flatten.length ∧ Fc j b) := by
              have hle : xs.flatten.length ≤ cur.size := by rw [hxl, hc3]; exact Nat.mul_le_mul_right _ hc1
              refine ⟨by rw [List.length_take, Nat.min_eq_left (by simpa using hle)], Fc, fun j z y hz hy => ?_, hd, fun b => Iff.rfl⟩
              rw [List.getElem?_take] at hy
              split at hy
              · exact hc j z y hz (by simpa using hy)
              · cases hy
            have hGx : ∀ b, (∃ j, j < xs.flatten.length ∧ Fc j b) → Fx b := fun b hb => (hF b).2 (.inr hb)
            by_cases hroom : xs.length + ys.length ≤ cap
            · have hfit : xs.length * C.P.cellsOf el' + us.length ≤ cur.size := by rw [hul, ← Nat.add_mul, hc3]; exact Nat.mul_le_mul_right _ hroom
              obtain ⟨cur', s1, s2, s3, s4, s5, s6, s7, s8, s9⟩ := setCells_row us (xs.length * C.P.cellsOf el') w cur hg hfit
              have hr := run_append_room_src (P := C.P) w t t' o.type el' inf hu hI g 0 xs.length cap (ev tm y) ys.length us hsrc hroom
                (fun j hj => by simp only [World.cell?, hg, hisz]; simp; omega) (fun j hj => by simp [World.frozen?, hg])
              rw [Nat.zero_add, hisz] at hr
              have hgx : Fx g := (hF g).2 (.inl rfl)
              have hgr : Grow (fun b => (No b ∨ Fy b) ∨ Fx b) w (w.setCells g (xs.length * C.P.cellsOf el') us) := ⟨s6, s7, s8, by omega, fun k _ hk => s5 k fun e => hk (.inr (e ▸ hgx))⟩
              have hrel := k1.world (H' := fun b => (No b ∨ Fy b) ∨ Fx b) hgr fun b hb => ⟨.inl hb, by rw [s9]; exact (k1.hn b hb).2.2⟩
              have hoks : ∀ b, okOf C.X (fun b => (No b ∨ Fy b) ∨ Fx b) Fs2 b → b < w.heap.size → okOf C.X (fun b => (No b ∨ Fy b) ∨ Fx b) Fs2 b ∧ (w.setCells g (xs.length * C.P.cellsOf el') us).heap[b]? = w.heap[b]? := fun b hb _ => ⟨hb, s5 b fun e => hb.2.1 (.inr (e ▸ hgx))⟩
              have hkx : OwnL C.P (w.setCells g (xs.length * C.P.cellsOf el') us) (okOf C.X (fun b => (No b ∨ Fy b) ∨ Fx b) Fs2) xs.flatten (cur.toList.take xs.flatten.length) (fun b => ∃ j, j < xs.flatten.length ∧ Fc j b) :=
                hkids.frame (fun b ⟨j, hj, hb⟩ => s5 b fun e => hbb j hj (e ▸ hb)) hoks
              have hky : OwnL C.P (w.setCells g (xs.length * C.P.cellsOf el') us) (okOf C.X (fun b => (No b ∨ Fy b) ∨ Fx b) Fs2) ys.flatten us G :=
                r3'.frame (fun b hb => s5 b fun e => k3 g hgx (.inr (e ▸ r4 b hb))) hoks
              have hboth := OwnL.append hkx hky fun b hb hh => k3 b (hGx b hb) (.inr (r4 b hh))
              rw [← List.flatten_append] at hboth
              obtain ⟨hbl, Fb, b1, b2, b3⟩ := hboth
              have hlt : (cur.toList.take xs.flatten.length).length = xs.length * C.P.cellsOf el' := by rw [← hkids.1, hxl]
              have hF2 : ∀ b, (b = g ∨ ∃ j, j < (xs ++ ys).flatten.length ∧ Fb j b) → (No b ∨ Fy b) ∨ Fx b := fun b hb => by
                rcases hb with rfl | hb
                · exact .inr hgx
                · rcases (b3 b).2 hb with hb | hb
                  · exact .inr (hGx b hb)
                  · exact .inl (.inr (r4 b hb))
              have hOwn : Own C.P (w.setCells g (xs.length * C.P.cellsOf el') us) (okOf C.X (fun b => (No b ∨ Fy b) ∨ Fx b) Fs2) (.own el' (xs ++ ys)) (.slice (some ⟨g, 0, none⟩) (xs.length + ys.length) cap) (fun b => b = g ∨ ∃ j, j < (xs ++ ys).flatten.length ∧ Fb j b) := by
                refine .blk Fb (fz := (0, 0)) ⟨rfl, rfl, hz, fun c hc => (List.mem_append.1 hc).elim (hxsz c) (hsz c), rfl, cap, by rw [List.length_append], by rw [List.length_append]; exact hroom, hc2, by rw [s2, hc3]⟩ s1 (fun j v u hv hu => ?_) b2 (fun j hj hh => ?_) (fun b => Iff.rfl)
                · refine b1 j v u hv ?_
                  have hj := (List.getElem?_eq_some_iff.1 hv).1
                  rcases Nat.lt_or_ge j (xs.length * C.P.cellsOf el') with hjx | hjx
                  · rw [List.getElem?_append_left (by omega), List.getElem?_take, if_pos (by omega)]
                    rw [s3 j hjx] at hu
                    simpa using hu
                  · obtain ⟨i, rfl⟩ : ∃ i, j = xs.length * C.P.cellsOf el' + i := ⟨j - xs.length * C.P.cellsOf el', by omega⟩
                    rw [List.getElem?_append_right (by omega), hlt, Nat.add_sub_cancel_left]
                    have hiu : i < us.length := by
                      rw [hbl, List.length_append, hlt] at hj; omega
                    rw [s4 i us[i] (List.getElem?_eq_getElem hiu)] at hu
                    rw [List.getElem?_eq_getElem hiu]; exact hu
                · have := (b3 g).2 ⟨j, hj, hh⟩
                  rcases this with ⟨i, hi, hh⟩ | hh
                  · exact hbb i hi hh
                  · exact k3 g hgx (.inr (r4 g hh))
              have htd : (V.own el' (xs ++ ys)).toD = some (.sl (ds ++ dys)) := by simp only [V.toD, toDss_append hds hdys]; rfl
              have hdl : ds.length = xs.length := toDss_len hds
              have hcut := (hOwn.freeze htd).cut (l := 0) (h := xs.length) (sz := 1) (Nat.zero_le _) (by rw [List.length_append]; omega) (.inl rfl)
              rw [← hdl, List.take_left, List.drop_zero, hdl] at hcut
              refine fin hr hrel hOwn hF2 (k1.worldPlV hgr kp2) ?_
              have hsl : sliced (some ⟨g, 0, none⟩) 0 xs.length cap 1 = .slice (some ⟨g, 0, none⟩) xs.length cap := by
                unfold sliced
                split <;> simp [Addr.add]
              rw [hsl] at hcut
              exact hcut.mono fun b hb _ => ⟨hb.imp id (hF2 b), rfl⟩
            · refine grow (A := some ⟨g, 0, none⟩) (cap := cap) rfl (by omega) ?_ hkids hGx hxsz
              have hlt : (cur.toList.take xs.flatten.length).length = xs.length * C.P.cellsOf el' := by rw [← hkids.1, hxl]
              exact run_firstCells_some (P := C.P) w.drew inf.size xs.length ⟨g, 0, none⟩ xs.length cap _ (by rw [hlt, hisz]) fun j u hj => by
                rw [List.getElem?_take] at hj
                split at hj
                · rw [add_none, Nat.zero_add]
                  simp only [World.cell?, show w.drew.heap = w.heap from rfl, hg]
                  simpa using hj
                · cases hj
        · cases hi2
      · cases hi2
  · cases hi


end
end Go.Mir

/- The mirror, part X: every instruction. -/
set_option linter.unusedVariables false
set_option linter.unusedSimpArgs false
namespace Go.Mir
open Go.RowKit

section
variable {C : Ctx} {e e' : Env} {tm : Nat → Value} {w : World} {Fs : Nat → Nat → Prop} {o : Oper} {call : FuncId → List T → Option Res} {pm : FuncId → List PM}

/-- A call that is entered, and comes back. -/
def Called (C : Ctx) (o : Oper) (e' : Env) (tm : Nat → Value) (w : World) : Prop :=
  ∃ f args, (execOp (ev tm) o).run C.P w = .ok (.enter f args) w ∧ Calls C.P f args w fun en w' => ∃ v Fs', en = .returned v ∧ Rel C No e' (setTm tm o.dst v) w' Fs'

theorem enters_fn {P : Program} {f : FuncId} (h : ∃ fn, P.funcs[f]? = some fn ∧ (fn.name == "runtime.NumGoroutine") = false ∧ fn.body.isNone = false) (args : Array Value) (w : World) : (callFunc f args).run P w = .ok (.enter f args) w := by
  obtain ⟨fn, hf, hn, hb⟩ := h
  have h1 : fn.name ≠ "runtime.NumGoroutine" := by simpa using hn
  cases hc : fn.body with
  | none => rw [hc] at hb; cases hb
  | some c => simp [callFunc, hf, h1, hc]

theorem ok_call (h : Rel C No e tm w Fs) {f : FuncId} {args : Array Operand} {tys : Array TypeId} {qs : List Opd} {ts : List TypeId} (hop : o.op = .call { callee := .value (.func f), args := args, argTypes := tys }) (hq : opds C.P ts args.toList = some qs)
    (hcall : ∀ f args r, call f args = some r → CallR C.P pm f args r) (hi : ioI call pm C.rt e o.dst (.call f qs) = some e') : Called C o e' tm w := by
  simp only [ioI] at hi
  obtain ⟨hfn, hc⟩ := ok_callF h (opds_all hq) (cv := []) (cx := none) rfl (hcall f) hi
  refine ⟨f, (args.map (ev tm)), ?_, ?_⟩
  · have he := enters_fn hfn (args.map (ev tm)) w
    unfold execOp
    simp [hop, resolve, Deferred.ofValue, invoke, ev, he]
  · have : (args.map (ev tm)) = (args.toList.map (ev tm) ++ []).toArray := by
      apply Array.ext'; simp
    rw [this]; exact hc

theorem ok_callr (h : Rel C No e tm w Fs) {f : FuncId} {args : Array Operand} {tys : Array TypeId} {qs : List Opd} {ts : List TypeId} (hop : o.op = .call { callee := .value (.func f), args := args, argTypes := tys }) (hq : opds C.P ts args.toList = some qs)
    (hcall : ∀ f args r, call f args = some r → CallR C.P pm f args r) (hi : ioI call pm C.rt e o.dst (.callr f qs) = some e') : Called C o e' tm w := by
  simp only [ioI] at hi
  obtain ⟨hfn, hc⟩ := ok_callR h (opds_all hq) (hcall f) hi
  refine ⟨f, (args.map (ev tm)), ?_, ?_⟩
  · have he := enters_fn hfn (args.map (ev tm)) w
    unfold execOp
    simp [hop, resolve, Deferred.ofValue, invoke, ev, he]
  · have : (args.map (ev tm)) = (args.toList.map (ev tm) ++ []).toArray := by
      apply Array.ext'; simp
    rw [this]; exact hc

theorem ok_callv (h : Rel C No e tm w Fs) {t : Nat} {args : Array Operand} {tys : Array TypeId} {qs : List Opd} {ts : List TypeId} (hop : o.op = .call { callee := .value (.tmp t), args := args, argTypes := tys }) (hq : opds C.P ts args.toList = some qs)
    (hcall : ∀ f args r, call f args = some r → CallR C.P pm f args r) (hi : ioI call pm C.rt e o.dst (.callv (.tmp t) qs) = some e') : Called C o e' tm w := by
  simp only [ioI] at hi
  split at hi
  · rename_i f caps heq
    have ht := h.tr t
    simp only [Env.opd] at heq
    rw [heq] at ht
    obtain ⟨_, vs, hx, hl, _⟩ := ht
    obtain ⟨hfn, hc⟩ := ok_callF h (opds_all hq) (cv := vs) (cx := some (.tmp t)) ⟨.tmp t, 0, rfl, hx⟩ (hcall f) hi
    refine ⟨f, _, ?_, hc⟩
    have he := enters_fn hfn (args.toList.map (ev tm) ++ vs).toArray w
    unfold execOp
    simp [hop, resolve, Deferred.ofValue, invoke, ev, hx]
    have ha : (args.toList.map (ev tm) ++ vs).toArray = args.map (ev tm) ++ vs.toArray := by
      apply Array.ext'; simp
    rw [ha] at he ⊢
    exact he
  · cases hi

/-- **Every instruction**: what the mirror answers, the machine does. -/
theorem ok_op (h : Rel C No e tm w Fs) {m : Option Md} {i : I} (hp : prepI C.P m o = some i) (hcall : ∀ f args r, call f args = some r → CallR C.P pm f args r)
    (hi : ioI call pm C.rt e o.dst i = some e') : Done C o e' tm w ∨ Called C o e' tm w := by
  obtain ⟨op, hop⟩ : ∃ op, o.op = op := ⟨_, rfl⟩
  unfold prepI at hp
  rw [hop] at hp
  cases op with
  | move x =>
    simp only at hp
    obtain ⟨q, hq, rfl⟩ := Option.map_eq_some_iff.1 hp
    exact .inl (ok_move h (.inl hop) hq hi)
  | assign x =>
    simp only at hp
    obtain ⟨q, hq, rfl⟩ := Option.map_eq_some_iff.1 hp
    exact .inl (ok_move h (.inr hop) hq hi)
  | pick c a b =>
    simp only at hp
    obtain ⟨qc, hc, hp⟩ := Option.bind_eq_some_iff.1 hp
    obtain ⟨qa, ha, hp⟩ := Option.bind_eq_some_iff.1 hp
    obtain ⟨qb, hb, rfl⟩ := Option.map_eq_some_iff.1 hp
    exact .inl (ok_pick h hop hc ha hb hi)
  | alloc t =>
    simp only at hp
    obtain ⟨z, hz, rfl⟩ := Option.map_eq_some_iff.1 hp
    exact .inl (ok_alloc h hop hz hi)
  | box t x =>
    simp only at hp
    obtain ⟨q, hq, rfl⟩ := Option.map_eq_some_iff.1 hp
    exact .inl (ok_box h hop hq hi)
  | build t ps =>
    simp only at hp
    split at hp
    · rename_i fs hu
      obtain ⟨z, hz, hp⟩ := Option.bind_eq_some_iff.1 hp
      obtain ⟨places, hpl, hp⟩ := Option.bind_eq_some_iff.1 hp
      obtain ⟨qs, hq, rfl⟩ := Option.map_eq_some_iff.1 hp
      exact .inl (ok_build h hop hu hz hpl hq hi)
    · cases hp
  | buildSlice t n ps =>
    simp only at hp
    split at hp
    · rename_i el hu
      obtain ⟨z, hz, hp⟩ := Option.bind_eq_some_iff.1 hp
      split at hp
      · rename_i hzl
        obtain ⟨qs, hq, rfl⟩ := Option.map_eq_some_iff.1 hp
        exact .inl (ok_bslice h hop hu hz hzl hq hi)
      · cases hp
    · cases hp
  | load t a =>
    simp only at hp
    split at hp
    · rename_i hu
      obtain ⟨q, hq, rfl⟩ := Option.map_eq_some_iff.1 hp
      exact .inl (ok_load h hop hu hq hi)
    · cases hp
  | store t a v =>
    simp only at hp
    split at hp
    · rename_i hu
      obtain ⟨qa, ha, hp⟩ := Option.bind_eq_some_iff.1 hp
      obtain ⟨qv, hv, rfl⟩ := Option.map_eq_some_iff.1 hp
      exact .inl (ok_store h hop hu.2 hu.1 ha hv hi)
    · cases hp
  | nilCheck x =>
    simp only at hp
    obtain ⟨q, hq, rfl⟩ := Option.map_eq_some_iff.1 hp
    exact .inl (ok_nilc h hop hq hi)
  | binOp bo t x y t3 =>
    simp only at hp
    obtain ⟨ks, hk, hp⟩ := Option.bind_eq_some_iff.1 hp
    obtain ⟨qx, hx, hp⟩ := Option.bind_eq_some_iff.1 hp
    obtain ⟨qy, hy, rfl⟩ := Option.map_eq_some_iff.1 hp
    exact .inl (ok_bin h hop hk hx hy hi)
  | unOp uo t x =>
    simp only at hp
    obtain ⟨q, hq, rfl⟩ := Option.map_eq_some_iff.1 hp
    exact .inl (ok_un h hop hq hi)
  | convert src dst x =>
    simp only at hp
    split at hp
    · rename_i k0 k hs hd
      obtain ⟨q, hq, rfl⟩ := Option.map_eq_some_iff.1 hp
      exact .inl (ok_conv h hop hs hd hq hi)
    · rename_i hs hd
      obtain ⟨q, hq, rfl⟩ := Option.map_eq_some_iff.1 hp
      exact .inl (ok_same h hop hs hd hq hi)
    · rename_i el hs hd
      split at hp
      · rename_i he
        obtain ⟨q, hq, rfl⟩ := Option.map_eq_some_iff.1 hp
        exact .inl (ok_s2b h hop hs hd he hq hi)
      · cases hp
    · rename_i el hs hd
      split at hp
      · rename_i he
        obtain ⟨q, hq, rfl⟩ := Option.map_eq_some_iff.1 hp
        exact .inl (ok_b2s h hop hs hd he hq hi)
      · cases hp
    · rename_i el0 el hs hd
      split at hp
      · rename_i hsd
        subst hsd
        split at hp
        · rename_i he
          obtain ⟨q, hq, rfl⟩ := Option.map_eq_some_iff.1 hp
          exact .inl (ok_s2s h hop hd he hq hi)
        · cases hp
      · cases hp
    · cases hp
  | makeFunc fn first caps =>
    cases fn with
    | func f =>
      simp only at hp
      split at hp
      · rename_i hf
        obtain ⟨qs, hq, rfl⟩ := Option.map_eq_some_iff.1 hp
        exact .inl (ok_mkfn h hop (by simpa using hf) hq hi)
      · cases hp
    | _ => cases hp
  | makeSlice t l c =>
    simp only at hp
    split at hp
    · rename_i el hu
      obtain ⟨z, hz, hp⟩ := Option.bind_eq_some_iff.1 hp
      split at hp
      · rename_i hzl
        obtain ⟨ql, hl, hp⟩ := Option.bind_eq_some_iff.1 hp
        obtain ⟨qc, hc, rfl⟩ := Option.map_eq_some_iff.1 hp
        exact .inl (ok_mkslice h hop hu hz hzl hl hc hi)
      · cases hp
    · cases hp
  | slice t x lo hi2 mx =>
    simp only at hp
    split at hp
    · cases hp
    · rename_i hmx
      have hmx : mx = none := by simpa using hmx
      subst hmx
      split at hp
      · rename_i hu
        obtain ⟨q, hq, hp⟩ := Option.bind_eq_some_iff.1 hp
        obtain ⟨ql, hl, hp⟩ := Option.bind_eq_some_iff.1 hp
        obtain ⟨qh, hh, rfl⟩ := Option.map_eq_some_iff.1 hp
        exact .inl (ok_sliceS h hop hu hq hl hh hi)
      · rename_i el hu
        split at hp
        · rename_i hz
          obtain ⟨q, hq, hp⟩ := Option.bind_eq_some_iff.1 hp
          obtain ⟨ql, hl, hp⟩ := Option.bind_eq_some_iff.1 hp
          obtain ⟨qh, hh, hI⟩ := Option.map_eq_some_iff.1 hp
          have hi' : ioI call pm C.rt e o.dst (.slice false (C.P.cellsOf el) q ql qh) = some e' := by
            subst hI
            unfold sliceI at hi
            split at hi
            · simp only [ioI] at hi ⊢
              split at hi
              · exact hi
              · cases hi
            · exact hi
          exact .inl (ok_slice h hop hu hz hq hl hh hi')
        · cases hp
      · cases hp
  | fieldAddr s x f =>
    simp only at hp
    split at hp
    · rename_i fs hu
      obtain ⟨fd, hf, hp⟩ := Option.bind_eq_some_iff.1 hp
      split at hp
      · cases hp
      · rename_i hz
        obtain ⟨q, hq, rfl⟩ := Option.map_eq_some_iff.1 hp
        exact .inl (ok_fieldA h hop hu hf hz hq hi)
    · cases hp
  | field s x f =>
    simp only at hp
    split at hp
    · rename_i fs hu
      obtain ⟨fd, hf, hp⟩ := Option.bind_eq_some_iff.1 hp
      split at hp
      · rename_i hfu
        obtain ⟨q, hq, rfl⟩ := Option.map_eq_some_iff.1 hp
        exact .inl (ok_field h hop hu hf hfu hq hi)
      · cases hp
    · cases hp
  | indexAddr t x i2 =>
    simp only at hp
    split at hp
    · rename_i el hu
      obtain ⟨qx, hx, hp⟩ := Option.bind_eq_some_iff.1 hp
      obtain ⟨qi, hy, rfl⟩ := Option.map_eq_some_iff.1 hp
      exact .inl (ok_indexA h hop hu hx hy hi)
    · cases hp
  | index t x i2 =>
    simp only at hp
    split at hp
    · rename_i hu
      obtain ⟨qx, hx, hp⟩ := Option.bind_eq_some_iff.1 hp
      obtain ⟨qi, hy, rfl⟩ := Option.map_eq_some_iff.1 hp
      exact .inl (ok_indexS h hop hu hx hy hi)
    · cases hp
  | extract x n =>
    simp only at hp
    obtain ⟨q, hq, rfl⟩ := Option.map_eq_some_iff.1 hp
    exact .inl (ok_extract h hop hq hi)
  | call c =>
    obtain ⟨callee, args, tys⟩ := c
    cases callee with
    | value x =>
      cases x with
      | func f =>
        simp only at hp
        obtain ⟨qs, hq, hp⟩ := Option.map_eq_some_iff.1 hp
        split at hp
        · subst hp; exact .inr (ok_callr h hop hq hcall hi)
        · subst hp; exact .inr (ok_call h hop hq hcall hi)
      | tmp t =>
        simp only at hp
        obtain ⟨qs, hq, rfl⟩ := Option.map_eq_some_iff.1 hp
        exact .inr (ok_callv h hop hq hcall hi)
      | _ => cases hp
    | builtin b =>
      cases b with
      | len =>
        simp only at hp
        split at hp
        · rename_i x t ha ht
          obtain rfl : args = #[x] := by simpa using congrArg List.toArray ha
          obtain rfl : tys = #[t] := by simpa using congrArg List.toArray ht
          split at hp
          · rename_i hu
            obtain ⟨q, hq, rfl⟩ := Option.map_eq_some_iff.1 hp
            exact .inl (ok_lenS h hop hu hq hi)
          · rename_i el hu
            obtain ⟨q, hq, rfl⟩ := Option.map_eq_some_iff.1 hp
            exact .inl (ok_len h hop hu hq hi)
          · cases hp
        · cases hp
      | append =>
        simp only at hp
        split at hp
        · rename_i x y t t' ha ht
          obtain rfl : args = #[x, y] := by simpa using congrArg List.toArray ha
          obtain rfl : tys = #[t, t'] := by simpa using congrArg List.toArray ht
          split at hp
          · rename_i el hu
            split at hp
            · rename_i hz
              obtain ⟨hz1, hz2, hz3⟩ := hz
              obtain ⟨zv, hzv, hzs⟩ : ∃ zv, (C.P.info? el).bind (·.zero) = some zv ∧ zv.cells.size = C.P.cellsOf el := by
                cases hzz : (C.P.info? el).bind (·.zero) with
                | none => rw [hzz] at hz3; simp at hz3
                | some zv => rw [hzz] at hz3; exact ⟨zv, rfl, by simpa using hz3⟩
              split at hp
              · rename_i el' hu'
                obtain ⟨qx, hx, hp⟩ := Option.bind_eq_some_iff.1 hp
                obtain ⟨qy, hy, rfl⟩ := Option.map_eq_some_iff.1 hp
                unfold appI at hi
                split at hi
                · exact .inl (ok_appd h hop hu ⟨_, hu'⟩ hz1 hz2 hzv hzs hx hy hi)
                · exact .inl (ok_app h hop hu (by simpa using ⟨_, hu'⟩) hz1 hz2 hzv hzs hx hy hi)
              · rename_i hu'
                split at hp
                · rename_i hc1
                  obtain ⟨qx, hx, hp⟩ := Option.bind_eq_some_iff.1 hp
                  obtain ⟨qy, hy, rfl⟩ := Option.map_eq_some_iff.1 hp
                  exact .inl (ok_app h hop hu (by simpa using ⟨hu', hc1⟩) hz1 hz2 hzv hzs hx hy hi)
                · cases hp
              · cases hp
            · cases hp
          · cases hp
        · cases hp
      | min =>
        simp only at hp
        split at hp
        · rename_i x y ha
          obtain rfl : args = #[x, y] := by simpa using congrArg List.toArray ha
          obtain ⟨qx, hx, hp⟩ := Option.bind_eq_some_iff.1 hp
          obtain ⟨qy, hy, rfl⟩ := Option.map_eq_some_iff.1 hp
          exact .inl (ok_mn h hop hx hy hi)
        · cases hp
      | max =>
        simp only at hp
        split at hp
        · rename_i x y ha
          obtain rfl : args = #[x, y] := by simpa using congrArg List.toArray ha
          obtain ⟨qx, hx, hp⟩ := Option.bind_eq_some_iff.1 hp
          obtain ⟨qy, hy, rfl⟩ := Option.map_eq_some_iff.1 hp
          exact .inl (ok_mx h hop hx hy hi)
        · cases hp
      | _ => cases hp
    | _ => cases hp
  | _ => cases hp

end
end Go.Mir

/- The mirror, part Y: a region in the order of its text. -/
set_option linter.unusedVariables false
set_option linter.unusedSimpArgs false
namespace Go.Mir
open Go.RowKit

def tmOf (a : Act) : Nat → Value := fun t => a.tmps.getD t undef

theorem eval_tmOf (a : Act) : a.eval = ev (tmOf a) := by
  funext x; cases x <;> rfl

/-- What holds of a call's temporaries throughout: how many, and which of them keep what they were handed. -/
structure Fix where
  n : Nat
  ios : List (Nat × Value)

def Fix.ok (X : Fix) (a : Act) : Prop := a.tmps.size = X.n ∧ a.defers = [] ∧ ∀ p ∈ X.ios, tmOf a p.1 = p.2

def dstOk (X : Fix) (d : Option Nat) : Bool :=
  match d with
  | none => true
  | some u => decide (u < X.n) && X.ios.all fun p => p.1 != u

theorem put_tmOf {X : Fix} {a : Act} {d : Option Nat} {v : Value} (h : X.ok a) (hd : dstOk X d = true) : tmOf (a.put d v) = setTm (tmOf a) d v ∧ X.ok (a.put d v) := by
  cases d with
  | none => exact ⟨rfl, h⟩
  | some u =>
    simp only [dstOk, Bool.and_eq_true, decide_eq_true_eq] at hd
    have h1 : tmOf (a.put (some u) v) = setTm (tmOf a) (some u) v := by
      funext t
      simp only [tmOf, Act.put, setTm]
      by_cases e : t = u
      · subst e
        have : t < a.tmps.size := by rw [h.1]; exact hd.1
        simp [this]
      · simp [Array.getElem?_setIfInBounds_ne (Ne.symm e), e]
    refine ⟨h1, by simp [Act.put, h.1], h.2.1, fun p hp => ?_⟩
    have h2 := List.all_eq_true.1 hd.2 p hp
    have h3 : p.1 ≠ u := by simpa using h2
    rw [h1]
    simp only [setTm, h3, if_false]
    exact h.2.2 p hp

/-- An operation of a region, as an instruction. -/
def prepO (P : Program) (ops : List Oper) (m : Option Md) (o : Oper) : Option Ins :=
  match o.guard with
  | none => some ⟨o.dst, none, (prepI P m o).getD .bad⟩
  | some (g, want) => ((ops[g]?).bind (·.dst)).map fun t => ⟨o.dst, some (t, want), (prepI P m o).getD .bad⟩

/-- The temporaries are as told, and the frame is. -/
def St (C : Ctx) (X : Fix) (e : Env) (a : Act) (w : World) : Prop := X.ok a ∧ ∃ Fs, Rel C No e (tmOf a) w Fs

section
variable {C : Ctx} {X : Fix} {e e' : Env} {a : Act} {w : World} {call : FuncId → List T → Option Res} {pm : FuncId → List PM} {Q : Exit → Act → World → Prop}

/-- What is left out leaves nothing. -/
theorem Rel.skip {tm : Nat → Value} {Fs : Nat → Nat → Prop} (h : Rel C No e tm w Fs) {dst : Option Nat} (hp : e.put C.rt dst (.tup []) = some e') : ∃ Fs', Rel C No e' (setTm tm dst undef) w Fs' := by
  obtain ⟨Fs', h'⟩ := h.put (F := No) (x := undef) hp ⟨[], rfl, rfl, fun _ => No, by simp, by simp, by simp⟩ fun b hb => hb.elim
  exact ⟨Fs', h'.letGo fun b hb => hb.elim⟩

/-- **One operation of a region.** -/
theorem wpOp_ok (h : St C X e a w) {ops : Array Oper} {i : Nat} {o : Oper} {m : Option Md} {s : Ins} (ho : ops[i]? = some o) (hp : prepO C.P ops.toList m o = some s) (hd : dstOk X o.dst = true)
    (hcall : ∀ f args r, call f args = some r → CallR C.P pm f args r) (hi : ioO call pm C.rt e s = some e') {K : Act → World → Prop} (hK : ∀ a' w', St C X e' a' w' → K a' w') : wpOp C.P ops Q i K a w := by
  obtain ⟨hX, Fs, hr⟩ := h
  unfold wpOp
  simp only [ho]
  unfold prepO at hp
  obtain ⟨ins, hins0⟩ : ∃ ins, ins = (prepI C.P m o).getD .bad := ⟨_, rfl⟩
  rw [← hins0] at hp
  -- the operation itself
  have main : ioI call pm C.rt e o.dst ins = some e' → Oper.wp C.P o a w K Q := fun hi => by
    have hins : prepI C.P m o = some ins := by
      cases hpi : prepI C.P m o with
      | none => rw [hpi] at hins0; simp only [Option.getD_none] at hins0; subst hins0; simp [ioI] at hi
      | some j => rw [hpi] at hins0; simp only [Option.getD_some] at hins0; rw [hins0]
    unfold Oper.wp
    rw [eval_tmOf]
    rcases ok_op hr hins hcall hi with ⟨v, w', Fs', hrun, hr'⟩ | ⟨f, args, hrun, hc⟩
    · obtain ⟨h1, h2⟩ := put_tmOf (v := v) hX hd
      have hst : St C X e' (a.put o.dst v) w' := ⟨h2, Fs', by rw [h1]; exact hr'⟩
      rcases hrun with hrun | ⟨hrun, rfl⟩
      · rw [hrun, Oper.upon_value]; exact hK _ _ hst
      · rw [hrun, Oper.upon_skip]; exact hK _ _ hst
    · rw [hrun, Oper.upon_enter]
      refine hc.mono fun en w' ⟨v, Fs', hen, hr'⟩ => ?_
      subst hen
      obtain ⟨h1, h2⟩ := put_tmOf (v := v) hX hd
      exact hK _ _ ⟨h2, Fs', by rw [h1]; exact hr'⟩
  have skip : e.put C.rt o.dst (.tup []) = some e' → K (a.put o.dst undef) w := fun hs => by
    obtain ⟨Fs', hr'⟩ := hr.skip hs
    obtain ⟨h1, h2⟩ := put_tmOf (v := undef) hX hd
    exact hK _ _ ⟨h2, Fs', by rw [h1]; exact hr'⟩
  cases hg : o.guard with
  | none =>
    rw [hg] at hp
    simp only [Option.some.injEq] at hp
    subst hp
    have hw : Region.wanted o (yielded ops a.tmps) = true := by simp [Region.wanted, hg]
    simp only [hw, if_true]
    exact .inl (main hi)
  | some gw =>
    obtain ⟨g, want⟩ := gw
    rw [hg] at hp
    simp only at hp
    obtain ⟨t, ht, rfl⟩ := Option.map_eq_some_iff.1 hp
    simp only [ioO] at hi
    obtain ⟨b, hb, hi⟩ := Option.bind_eq_some_iff.1 hi
    have ht' : (ops[g]?).bind (·.dst) = some t := by simpa using ht
    have hy : yielded ops a.tmps g = b := by
      unfold yielded
      rw [ht']
      unfold T.gd? at hb
      split at hb
      · rename_i q heq
        simp only [Option.some.injEq] at hb
        subst hb
        have hv : tmOf a t = .bool q := hr.toBool (x := .tmp t) (q := .tmp t) (ty := 0) rfl (by simp [Env.opd, T.bool?, heq])
        have hlt : t < a.tmps.size := by
          rcases Nat.lt_or_ge t a.tmps.size with h | h
          · exact h
          · simp [tmOf, Array.getElem?_eq_none h, undef] at hv
        have : a.tmps[t]? = some (.bool q) := by
          simp only [tmOf, Array.getD_eq_getD_getElem?] at hv
          rw [Array.getElem?_eq_getElem hlt] at hv ⊢
          simpa using hv
        simp [this]
      · rename_i heq
        simp only [Option.some.injEq] at hb
        subst hb
        have h0 := hr.tr t
        rw [heq] at h0
        obtain ⟨xs, hx, hl, _⟩ := h0
        have : xs = [] := by
          cases xs with
          | nil => rfl
          | cons _ _ => simp at hl
        subst this
        simp only [Option.bind_some]
        cases hq : a.tmps[t]? with
        | none => rfl
        | some v =>
          have : v = .tuple #[] := by
            rw [← hx]; simp only [tmOf, Array.getD_eq_getD_getElem?, hq, Option.getD_some]
          subst this; rfl
      · cases hb
    have hw : Region.wanted o (yielded ops a.tmps) = decide (b = some want) := by
      simp only [Region.wanted, hg, hy]
      by_cases e : b = some want <;> simp [e]
    rw [hw]
    by_cases e1 : b = some want
    · simp only [e1, if_true] at hi
      simp only [e1, decide_true, if_true]
      exact .inl (main hi)
    · simp only [e1, if_false] at hi
      simp only [e1, decide_false, Bool.false_eq_true, if_false]
      exact skip hi

end
end Go.Mir

/- The mirror, part Z: code. -/
set_option linter.unusedVariables false
set_option linter.unusedSimpArgs false
namespace Go.Mir
open Go.RowKit

theorem Env.get_keep (e : Env) (l : List Nat) (t : Nat) : (e.keep l).get t = if t ∈ l then (e.get t).within l else .dead := by
  have : ∀ l' : List Nat, Env.get (l'.map fun t => (t, (e.get t).within l)) t = if t ∈ l' then (e.get t).within l else .dead := by
    intro l'
    induction l' with
    | nil => simp [Env.get]
    | cons u l' ih =>
      simp only [List.map_cons, Env.get, List.mem_cons]
      by_cases h : u = t
      · subst h; simp
      · simp only [h, if_false, Ne.symm h, false_or]; exact ih
  exact this l

theorem T.within_cases (l : List Nat) (t : T) : (t.within l = t ∧ ∀ r ∈ t.roots, r ∈ l) ∨ (t.within l = .dead ∧ t.roots ≠ []) := by
  unfold T.within
  split
  · rename_i h; exact .inl ⟨rfl, fun r hr => by simpa using List.all_eq_true.1 h r hr⟩
  · rename_i h; exact .inr ⟨rfl, fun hn => h (by simp [hn])⟩

theorem TR.noF {P : Program} {w : World} {ok : Nat → Prop} {e : Env} {tm : Nat → Value} {t : T} {x : Value} {F : Nat → Prop} (h : TR P w ok e tm t x F) (hr : t.roots ≠ []) : ∀ b, ¬ F b := by
  cases t with
  | dead => exact h
  | vs a cs => simp [T.roots] at hr
  | tup ts => simp [T.roots] at hr
  | at_ r k p => exact h.1
  | ref r k p => exact h.1
  | refs r k p n => exact h.1
  | adr c => exact h.1
  | fn f caps => exact h.1

/-- Some are forgotten. -/
theorem Rel.keep {C : Ctx} {e : Env} {tm : Nat → Value} {w : World} {Fs : Nat → Nat → Prop} (h : Rel C No e tm w Fs) (l : List Nat) : Rel C No (e.keep l) tm w fun t b => t ∈ l ∧ Fs t b := by
  have hok : ∀ b, okOf C.X No Fs b → b < w.heap.size → okOf C.X No (fun t b => t ∈ l ∧ Fs t b) b ∧ w.heap[b]? = w.heap[b]? := fun b hb _ => ⟨⟨hb.1, hb.2.1, fun t ht => hb.2.2 t ht.2⟩, rfl⟩
  have hvs : ∀ r a cs, r ∈ l → e.get r = .vs a cs → (e.keep l).get r = .vs a cs := fun r a cs hr hg => by
    rw [Env.get_keep, if_pos hr, hg]; simp [T.within, T.roots]
  have key : ∀ t, TR C.P w (okOf C.X No fun t b => t ∈ l ∧ Fs t b) (e.keep l) tm ((e.keep l).get t) (tm t) (fun b => t ∈ l ∧ Fs t b) := fun t => by
    rw [Env.get_keep]
    by_cases ht : t ∈ l
    · rw [if_pos ht]
      rcases T.within_cases l (e.get t) with ⟨h1, h2⟩ | ⟨h1, h2⟩
      · rw [h1]
        refine TR.ext (F := Fs t) ?_ fun b => ⟨fun hb => hb.2, fun hb => ⟨ht, hb⟩⟩
        refine (h.tr t).change (fun _ _ => rfl) hok (fun r k p ad hr _ ⟨a, cs, v, u, g1, g2⟩ => ⟨a, cs, v, u, hvs r a cs (h2 r hr) g1, g2⟩) (fun r k p x hr _ ⟨a, cs, v, u, g1, g2⟩ => ⟨a, cs, v, u, hvs r a cs (h2 r hr) g1, g2⟩)
      · rw [h1]
        exact fun b hb => (h.tr t).noF h2 b hb.2
    · rw [if_neg ht]
      exact fun b hb => ht hb.1
  refine ⟨key, fun t t' b hne h1 h2 => h.dj t t' b hne h1.2 h2.2, fun t b hb => h.hx t b hb.2, fun u r hr => ?_, h.gr, fun t b hb => h.nw t b hb.2, h.hn⟩
  rw [Env.get_keep] at hr
  split at hr
  · rcases T.within_cases l (e.get u) with ⟨h1, _⟩ | ⟨h1, _⟩
    · rw [h1] at hr; exact h.vw u r hr
    · rw [h1] at hr; simp [T.roots] at hr
  · simp [T.roots] at hr

section
variable {C : Ctx} {X : Fix} {e e' : Env} {a : Act} {w : World} {call : FuncId → List T → Option Res} {pm : FuncId → List PM} {Q : Exit → Act → World → Prop}

theorem St.keep (h : St C X e a w) (k : Option (List Nat)) : St C X (e.keep? k) a w := by
  cases k with
  | none => exact h
  | some l => obtain ⟨hX, Fs, hr⟩ := h; exact ⟨hX, _, hr.keep l⟩

/-! ### annotations -/
structure RegAnn where
  md : List (Nat × Md) := []
  keep : Option (List Nat) := none
  dr : List (Bool × List Nat) := []
  cl : List (List Nat) := []

def annOf (l : List (Nat × RegAnn)) (id : Nat) : RegAnn := (l.lookup id).getD {}

def prepOs (P : Program) (ops : List Oper) (md : List (Nat × Md)) : Nat → List Oper → Option (List Ins)
  | _, [] => some []
  | i, o :: os => (prepO P ops (md.lookup i) o).bind fun s => (prepOs P ops md (i + 1) os).map (s :: ·)

def dstsOk (n : Nat) (ios : List Nat) (ops : List Oper) : Bool :=
  ops.all fun o => match o.dst with
    | none => true
    | some u => decide (u < n) && ios.all fun p => p != u

/-- **A region in the order of its text.** -/
theorem wpOps_ok {ops : Array Oper} {md : List (Nat × Md)} (hcall : ∀ f args r, call f args = some r → CallR C.P pm f args r) (hd : ∀ o ∈ ops.toList, dstOk X o.dst = true) :
    ∀ {l : List Oper} {ss : List Ins} {i : Nat} {e : Env} {a : Act} {w : World}, (∀ j, l[j]? = ops[i + j]?) → prepOs C.P ops.toList md i l = some ss → St C X e a w → ioL call pm C.rt e ss = some e' →
      (∀ a' w', St C X e' a' w' → Q .normal a' w') → wpOps C.P ops Q (List.range' i l.length) a w
  | [], ss, i, e, a, w, hl, hp, h, hi, hQ => by
    simp [prepOs] at hp
    subst hp
    simp [ioL] at hi
    subst hi
    simpa [wpOps] using hQ _ _ h
  | o :: l, ss, i, e, a, w, hl, hp, h, hi, hQ => by
    simp only [prepOs] at hp
    obtain ⟨s, hs, hp⟩ := Option.bind_eq_some_iff.1 hp
    obtain ⟨ss', hss, rfl⟩ := Option.map_eq_some_iff.1 hp
    simp only [ioL] at hi
    obtain ⟨e1, h1, hi⟩ := Option.bind_eq_some_iff.1 hi
    have ho : ops[i]? = some o := by simpa using (hl 0).symm
    rw [List.length_cons, List.range'_succ, wpOps_cons]
    refine wpOp_ok h ho hs (hd o (by simpa using Array.mem_of_getElem? ho)) hcall h1 fun a' w' h' => ?_
    exact wpOps_ok hcall hd (fun j => by have := hl (j + 1); simpa [Nat.add_assoc, Nat.add_comm 1 j] using this) hss h' hi hQ

end
end Go.Mir

/- The mirror, part Za: instructions that only read; instructions far from each other. -/
set_option linter.unusedVariables false
set_option linter.unusedSimpArgs false
namespace Go.Mir
open Go.RowKit

/-! ### what only reads -/
def I.reader : I → Bool
  | .mov .cp _ => true
  | .pick .. => true
  | .load .cp _ _ _ => true
  | .nilc _ => true
  | .bin .. => true
  | .un .. => true
  | .conv .. => true
  | .same _ => true
  | .s2b _ => true
  | .b2s _ => true
  | .slice true _ _ _ _ => true
  | .cut .. => true
  | .fieldA .. => true
  | .field .. => true
  | .indexA .. => true
  | .indexS .. => true
  | .len .. => true
  | .mn .. => true
  | .mx .. => true
  | .alloc _ => true
  | .callr .. => true
  | _ => false

/-- The second one knows what the first one knows. -/
def Env.le (e e2 : Env) : Prop := ∀ t, e.get t = .dead ∨ e.get t = e2.get t

section
variable {e e2 : Env} (h : e.le e2)
include h

theorem Env.le_opd {o : Opd} : e.opd o = .dead ∨ e.opd o = e2.opd o := by
  cases o with
  | tmp t => exact h t
  | _ => exact .inr rfl

theorem Env.le_opd' {o : Opd} (hn : e.opd o ≠ .dead) : e2.opd o = e.opd o := (Env.le_opd h).elim (fun hh => (hn hh).elim) Eq.symm

theorem Env.le_cell {r k : Nat} {p : Pt} {v : V} (hc : e.cell r k p = some v) : e2.cell r k p = some v := by
  obtain ⟨a, cs, v0, g1, g2, g3⟩ := Env.cell_some hc
  have : e2.get r = .vs a cs := by
    rcases h r with hh | hh
    · rw [hh] at g1; cases g1
    · rw [← hh]; exact g1
  simp only [Env.cell, this, g2, Option.bind_some, g3]

omit h in
theorem Env.le_cells {f f2 : Nat → Option V} (hf : ∀ i v, f i = some v → f2 i = some v) : ∀ {i n : Nat} {vs : List V}, cells f i n = some vs → cells f2 i n = some vs
  | i, 0, vs, hc => by simpa [cells] using hc
  | i, n + 1, vs, hc => by
    simp only [cells] at hc ⊢
    obtain ⟨v, hv, hc⟩ := Option.bind_eq_some_iff.1 hc
    obtain ⟨vs', hvs, rfl⟩ := Option.map_eq_some_iff.1 hc
    rw [hf i v hv, Option.bind_some, Env.le_cells hf hvs]; rfl

theorem Env.le_cellsAt {r k : Nat} {p : Pt} {n : Nat} {vs : List V} (hc : e.cellsAt r k p n = some vs) : e2.cellsAt r k p n = some vs :=
  Env.le_cells (fun i v hv => by
    obtain ⟨q, hq, hv⟩ := Option.bind_eq_some_iff.1 hv
    rw [hq]; exact Env.le_cell h hv) hc

theorem Env.le_ptr {o : Opd} {p : Ptr} (hp : e.ptr o = some p) : e2.ptr o = some p := by
  have : e.opd o ≠ .dead := fun hd => by simp [Env.ptr, hd] at hp
  simp only [Env.ptr, Env.le_opd' h this] at hp ⊢
  exact hp

theorem Env.le_elems {o : Opd} {xs : List (List V)} (he : e.elems o = some xs) : e2.elems o = some xs := by
  have : e.opd o ≠ .dead := fun hd => by simp [Env.elems, hd] at he
  unfold Env.elems at he ⊢
  rw [Env.le_opd' h this]
  split at he
  · exact he
  · exact he
  · exact he
  · rename_i r k p _
    split at he
    · rename_i hc; rw [Env.le_cell h hc]; exact he
    · rename_i hc; rw [Env.le_cell h hc]; exact he
    · cases he
  · exact he
  · cases he

theorem Env.le_str {o : Opd} {s : ByteArray} (hs : (e.opd o).str? = some s) : (e2.opd o).str? = some s := by
  have : e.opd o ≠ .dead := fun hd => by simp [hd, T.str?] at hs
  rw [Env.le_opd' h this]; exact hs

theorem Env.le_int {o : Opd} {s : IntKind × Int} (hs : (e.opd o).int? = some s) : (e2.opd o).int? = some s := by
  have : e.opd o ≠ .dead := fun hd => by simp [hd, T.int?] at hs
  rw [Env.le_opd' h this]; exact hs

theorem Env.le_bool {o : Opd} {s : Bool} (hs : (e.opd o).bool? = some s) : (e2.opd o).bool? = some s := by
  have : e.opd o ≠ .dead := fun hd => by simp [hd, T.bool?] at hs
  rw [Env.le_opd' h this]; exact hs

theorem Env.le_bound {n : Int} {o : Option Opd} {m : Int} (hs : e.bound n o = some m) : e2.bound n o = some m := by
  cases o with
  | none => exact hs
  | some o =>
    simp only [Env.bound] at hs ⊢
    obtain ⟨x, hx, rfl⟩ := Option.map_eq_some_iff.1 hs
    rw [Env.le_int h hx]; rfl

theorem Env.le_cpT {o : Opd} {t : T} (hs : T.cp o (e.opd o) = some t) : T.cp o (e2.opd o) = some t := by
  have : e.opd o ≠ .dead := fun hd => by simp [hd, T.cp] at hs
  rw [Env.le_opd' h this]; exact hs

theorem Env.le_restAt {r k : Nat} {p : Pt} {vs : List V} (hs : e.restAt r k p = some vs) : e2.restAt r k p = some vs := by
  unfold Env.restAt at hs ⊢
  split at hs
  · cases hs
  · rename_i i j hl
    split at hs
    · rename_i hc; rw [Env.le_cell h hc]; exact hs
    · rename_i hc; rw [Env.le_cell h hc]; exact hs
    · rename_i hc; rw [Env.le_cell h hc]; exact hs
    · cases hs

theorem Env.le_capsRo : ∀ {caps : List T} {r : List T × Bool}, capsRo e caps = some r → capsRo e2 caps = some r
  | [], r, hc => hc
  | c :: caps, r, hc => by
    cases c with
    | at_ r k p =>
      simp only [capsRo] at hc ⊢
      obtain ⟨vs, hvs, hc⟩ := Option.bind_eq_some_iff.1 hc
      obtain ⟨ds, hds, hc⟩ := Option.bind_eq_some_iff.1 hc
      obtain ⟨x, hx, rfl⟩ := Option.map_eq_some_iff.1 hc
      rw [Env.le_restAt h hvs, Option.bind_some, hds, Option.bind_some, Env.le_capsRo hx]; rfl
    | vs a cs =>
      simp only [capsRo] at hc ⊢
      split at hc
      · rename_i hd
        obtain ⟨x, hx, rfl⟩ := Option.map_eq_some_iff.1 hc
        rw [if_pos hd, Env.le_capsRo hx]; rfl
      · cases hc
    | adr c =>
      simp only [capsRo] at hc ⊢
      obtain ⟨x, hx, rfl⟩ := Option.map_eq_some_iff.1 hc
      rw [Env.le_capsRo hx]; rfl
    | _ => simp [capsRo] at hc

theorem Env.le_argV {o : Opd} {x : T} {a : Arg} (ha : e.argV o x = some a) : e2.argV o x = some a := by
  have h1 : ∀ {r k : Nat} {p : Pt}, ((e.cell r k p).bind fun v => (v.toD).map fun x => (⟨.one (.d x), true, none⟩ : Arg)) = some a → ((e2.cell r k p).bind fun v => (v.toD).map fun x => (⟨.one (.d x), true, none⟩ : Arg)) = some a := fun hh => by
    obtain ⟨v, hv, hh⟩ := Option.bind_eq_some_iff.1 hh
    rw [Env.le_cell h hv]; exact hh
  have h2 : ∀ {r k : Nat} {p : Pt}, ((e.restAt r k p).bind fun vs => (toDs vs).map fun ds => (⟨.adr ds, true, none⟩ : Arg)) = some a → ((e2.restAt r k p).bind fun vs => (toDs vs).map fun ds => (⟨.adr ds, true, none⟩ : Arg)) = some a := fun hh => by
    obtain ⟨v, hv, hh⟩ := Option.bind_eq_some_iff.1 hh
    rw [Env.le_restAt h hv]; exact hh
  have h3 : ∀ {f : FuncId} {caps : List T}, ((capsRo e caps).map fun (x : List T × Bool) => (⟨.fn f x.1, x.2, none⟩ : Arg)) = some a → ((capsRo e2 caps).map fun (x : List T × Bool) => (⟨.fn f x.1, x.2, none⟩ : Arg)) = some a := fun hh => by
    obtain ⟨v, hv, hh⟩ := Option.map_eq_some_iff.1 hh
    rw [Env.le_capsRo h hv]; simp [hh]
  have h4 : ∀ {r k : Nat} {p : Pt} {n : Nat}, ((e.cellsAt r k p n).bind fun vs => (toDs vs).map fun ds => (⟨.vs true (dsV ds), true, none⟩ : Arg)) = some a → ((e2.cellsAt r k p n).bind fun vs => (toDs vs).map fun ds => (⟨.vs true (dsV ds), true, none⟩ : Arg)) = some a := fun hh => by
    obtain ⟨v, hv, hh⟩ := Option.bind_eq_some_iff.1 hh
    rw [Env.le_cellsAt h hv]; exact hh
  cases o <;> cases x <;> simp only [Env.argV] at ha ⊢
  all_goals first | exact ha | exact h1 ha | exact h2 ha | exact h3 ha | exact h4 ha | skip
  all_goals
    rename_i ag cs
    cases ag <;> rcases cs with _ | ⟨v, _ | ⟨v2, cs⟩⟩ <;> try (cases v)
    all_goals exact ha

theorem Env.le_args2 : ∀ {os : List Opd} {ags : List Arg}, Env.args2 e os (os.map fun _ => none) = some ags → Env.args2 e2 os (os.map fun _ => none) = some ags
  | [], ags, ha => ha
  | o :: os, ags, ha => by
    simp only [List.map_cons, Env.args2] at ha ⊢
    obtain ⟨a, h1, ha⟩ := Option.bind_eq_some_iff.1 ha
    obtain ⟨as', has, rfl⟩ := Option.map_eq_some_iff.1 ha
    have hn : e.opd o ≠ .dead := fun hd => by
      simp only [Env.arg2, hd, Env.argV] at h1
      cases o <;> simp at h1
    have h2 : e2.arg2 o none = some a := by
      simp only [Env.arg2] at h1 ⊢
      rw [Env.le_opd' h hn]
      exact Env.le_argV h h1
    rw [h2, Option.bind_some, Env.le_args2 has]; rfl

/-- **What only reads, reads the same where more is known.** -/
theorem reader_le {call : FuncId → List T → Option Res} {pm : FuncId → List PM} {rt : Views} {dst : Option Nat} {i : I} {e1 : Env} (hr : i.reader = true) (hi : ioI call pm rt e dst i = some e1) :
    ∃ t, e.put rt dst t = some e1 ∧ ioI call pm rt e2 dst i = e2.put rt dst t := by
  cases i with
  | mov m x =>
    cases m <;> simp only [I.reader] at hr <;> try (cases hr)
    simp only [ioI] at hi ⊢
    obtain ⟨t, ht, hp⟩ := Option.bind_eq_some_iff.1 hi
    exact ⟨t, hp, by rw [Env.le_cpT h ht]; rfl⟩
  | pick c a b =>
    simp only [ioI] at hi ⊢
    obtain ⟨q, hq, hi⟩ := Option.bind_eq_some_iff.1 hi
    obtain ⟨t, ht, hp⟩ := Option.bind_eq_some_iff.1 hi
    exact ⟨t, hp, by rw [Env.le_bool h hq, Option.bind_some, Env.le_cpT h ht]; rfl⟩
  | alloc z => exact ⟨_, hi, rfl⟩
  | load m agg n a =>
    cases m <;> simp only [I.reader] at hr <;> try (cases hr)
    simp only [ioI] at hi ⊢
    obtain ⟨p, hp, hi⟩ := Option.bind_eq_some_iff.1 hi
    rw [Env.le_ptr h hp, Option.bind_some]
    cases p with
    | adr c =>
      simp only at hi ⊢
      obtain ⟨t, ht, hp⟩ := Option.bind_eq_some_iff.1 hi
      exact ⟨t, hp, by rw [ht]; rfl⟩
    | at_ r k p =>
      simp only at hi ⊢
      obtain ⟨cs, hcs, hi⟩ := Option.bind_eq_some_iff.1 hi
      rw [Env.le_cellsAt h hcs, Option.bind_some]
      split at hi
      · rename_i hd
        rw [if_pos hd]
        split at hi
        · rename_i hag; rw [if_pos hag]; exact ⟨_, hi, rfl⟩
        · cases hi
      · rename_i hd
        rw [if_neg hd]
        split at hi
        · exact ⟨_, hi, rfl⟩
        · exact ⟨_, hi, rfl⟩
        · exact ⟨_, hi, rfl⟩
        · exact ⟨_, hi, rfl⟩
        · cases hi
  | nilc x =>
    simp only [ioI] at hi ⊢
    obtain ⟨p, hp, hi⟩ := Option.bind_eq_some_iff.1 hi
    rw [Env.le_ptr h hp, Option.bind_some]
    cases p <;> exact ⟨_, hi, rfl⟩
  | bin ks o x y =>
    simp only [ioI] at hi ⊢
    obtain ⟨v, hv, hp⟩ := Option.bind_eq_some_iff.1 hi
    have hx : e.opd x ≠ .dead := fun hd => by rw [hd] at hv; cases ks <;> simp [Mir.bin] at hv
    have hy : e.opd y ≠ .dead := fun hd => by rw [hd] at hv; cases ks <;> simp [Mir.bin] at hv
    exact ⟨_, hp, by rw [Env.le_opd' h hx, Env.le_opd' h hy, hv]; rfl⟩
  | un o x =>
    simp only [ioI] at hi ⊢
    obtain ⟨v, hv, hp⟩ := Option.bind_eq_some_iff.1 hi
    have hx : e.opd x ≠ .dead := fun hd => by rw [hd] at hv; cases o <;> simp [Mir.un] at hv
    exact ⟨_, hp, by rw [Env.le_opd' h hx, hv]; rfl⟩
  | conv k x =>
    simp only [ioI] at hi ⊢
    obtain ⟨v, hv, hp⟩ := Option.bind_eq_some_iff.1 hi
    exact ⟨_, hp, by rw [Env.le_int h hv]; rfl⟩
  | same x =>
    simp only [ioI] at hi ⊢
    obtain ⟨v, hv, hp⟩ := Option.bind_eq_some_iff.1 hi
    exact ⟨_, hp, by rw [Env.le_str h hv]; rfl⟩
  | s2b x =>
    simp only [ioI] at hi ⊢
    obtain ⟨v, hv, hp⟩ := Option.bind_eq_some_iff.1 hi
    exact ⟨_, hp, by rw [Env.le_str h hv]; rfl⟩
  | b2s x =>
    simp only [ioI] at hi ⊢
    split at hi
    · cases hi
    · rename_i hns
      obtain ⟨xs, hxs, hi⟩ := Option.bind_eq_some_iff.1 hi
      obtain ⟨ds, hds, hi⟩ := Option.bind_eq_some_iff.1 hi
      obtain ⟨l, hl, hp⟩ := Option.bind_eq_some_iff.1 hi
      have hx : e.opd x ≠ .dead := fun hd => by simp [Env.elems, hd] at hxs
      rw [Env.le_opd' h hx, if_neg hns, Env.le_elems h hxs, Option.bind_some, hds, Option.bind_some, hl]
      exact ⟨_, hp, rfl⟩
  | slice str sz x lo hi2 =>
    cases str <;> simp only [I.reader] at hr <;> try (cases hr)
    simp only [ioI] at hi ⊢
    obtain ⟨s, hs, hi⟩ := Option.bind_eq_some_iff.1 hi
    obtain ⟨l, hl, hi⟩ := Option.bind_eq_some_iff.1 hi
    obtain ⟨g, hg, hi⟩ := Option.bind_eq_some_iff.1 hi
    rw [Env.le_str h hs, Option.bind_some, Env.le_bound h hl, Option.bind_some, Env.le_bound h hg, Option.bind_some]
    split at hi
    · rename_i hc; rw [if_pos hc]; exact ⟨_, hi, rfl⟩
    · cases hi
  | cut sz x lo hi2 =>
    simp only [ioI] at hi ⊢
    have hx : e.opd x ≠ .dead := fun hd => by simp [hd] at hi
    rw [Env.le_opd' h hx]
    split at hi
    · obtain ⟨l, hl, hi⟩ := Option.bind_eq_some_iff.1 hi
      obtain ⟨g, hg, hi⟩ := Option.bind_eq_some_iff.1 hi
      simp only [Env.le_bound h hl, Option.bind_some, Env.le_bound h hg]
      split at hi
      · rename_i hc; rw [if_pos hc]; exact ⟨_, hi, rfl⟩
      · cases hi
    · cases hi
  | fieldA off x =>
    simp only [ioI] at hi ⊢
    obtain ⟨p, hp, hi⟩ := Option.bind_eq_some_iff.1 hi
    rw [Env.le_ptr h hp, Option.bind_some]
    cases p with
    | at_ r k p =>
      simp only at hi ⊢
      obtain ⟨q, hq, hi⟩ := Option.bind_eq_some_iff.1 hi
      obtain ⟨v, hv, hi⟩ := Option.bind_eq_some_iff.1 hi
      rw [hq, Option.bind_some, Env.le_cell h hv]
      exact ⟨_, hi, rfl⟩
    | adr c =>
      simp only at hi ⊢
      split at hi
      · rename_i hc; rw [if_pos hc]; exact ⟨_, hi, rfl⟩
      · cases hi
  | field off n agg x =>
    simp only [ioI] at hi ⊢
    have hx : e.opd x ≠ .dead := fun hd => by simp [hd] at hi
    rw [Env.le_opd' h hx]
    split at hi
    · split at hi
      · rename_i hc
        obtain ⟨t, ht, hp⟩ := Option.bind_eq_some_iff.1 hi
        simp only [if_pos hc, ht, Option.bind_some]
        exact ⟨_, hp, rfl⟩
      · cases hi
    · cases hi
  | indexA sz x i =>
    simp only [ioI] at hi ⊢
    obtain ⟨p, hp, hi⟩ := Option.bind_eq_some_iff.1 hi
    rw [Env.le_int h hp, Option.bind_some]
    split at hi
    · rename_i hn
      rw [if_pos hn]
      have hx : e.opd x ≠ .dead := fun hd => by simp [hd] at hi
      rw [Env.le_opd' h hx]
      split at hi
      · rename_i heq
        obtain ⟨c, hc, hi⟩ := Option.bind_eq_some_iff.1 hi
        rw [hc, Option.bind_some]
        split at hi
        · rename_i hsz; rw [if_pos hsz]; exact ⟨_, hi, rfl⟩
        · cases hi
      · rename_i heq _
        obtain ⟨c, hc, hi⟩ := Option.bind_eq_some_iff.1 hi
        rw [hc, Option.bind_some]
        split at hi
        · rename_i hsz; rw [if_pos hsz]; exact ⟨_, hi, rfl⟩
        · cases hi
      · rename_i heq _
        obtain ⟨c, hc, hi⟩ := Option.bind_eq_some_iff.1 hi
        rw [hc, Option.bind_some]
        split at hi
        · rename_i hsz; rw [if_pos hsz]; exact ⟨_, hi, rfl⟩
        · cases hi
      · rename_i heq
        split at hi
        · rename_i hc0
          rw [Env.le_cell h hc0]
          obtain ⟨c, hc, hi⟩ := Option.bind_eq_some_iff.1 hi
          simp only [hc, Option.bind_some]
          split at hi
          · rename_i hsz; rw [if_pos hsz]; exact ⟨_, hi, rfl⟩
          · cases hi
        · rename_i hc0
          rw [Env.le_cell h hc0]
          obtain ⟨c, hc, hi⟩ := Option.bind_eq_some_iff.1 hi
          simp only [hc, Option.bind_some]
          split at hi
          · rename_i hsz; rw [if_pos hsz]; exact ⟨_, hi, rfl⟩
          · cases hi
        · cases hi
      · cases hi
    · cases hi
  | indexS x i =>
    simp only [ioI] at hi ⊢
    obtain ⟨p, hp, hi⟩ := Option.bind_eq_some_iff.1 hi
    obtain ⟨s, hs, hi⟩ := Option.bind_eq_some_iff.1 hi
    rw [Env.le_int h hp, Option.bind_some, Env.le_str h hs, Option.bind_some]
    split at hi
    · rename_i hc
      obtain ⟨b, hb, hi⟩ := Option.bind_eq_some_iff.1 hi
      rw [if_pos hc, hb]
      exact ⟨_, hi, rfl⟩
    · cases hi
  | len str x =>
    cases str with
    | true =>
      simp only [ioI] at hi ⊢
      obtain ⟨s, hs, hi⟩ := Option.bind_eq_some_iff.1 hi
      rw [Env.le_str h hs]
      exact ⟨_, hi, rfl⟩
    | false =>
      simp only [ioI] at hi ⊢
      split at hi
      · cases hi
      · rename_i hns
        obtain ⟨xs, hxs, hi⟩ := Option.bind_eq_some_iff.1 hi
        have hx : e.opd x ≠ .dead := fun hd => by simp [Env.elems, hd] at hxs
        rw [Env.le_opd' h hx, if_neg hns, Env.le_elems h hxs]
        exact ⟨_, hi, rfl⟩
  | mn x y =>
    simp only [ioI] at hi ⊢
    obtain ⟨a, ha, hi⟩ := Option.bind_eq_some_iff.1 hi
    obtain ⟨b, hb, hi⟩ := Option.bind_eq_some_iff.1 hi
    rw [Env.le_int h ha, Option.bind_some, Env.le_int h hb]
    exact ⟨_, hi, rfl⟩
  | mx x y =>
    simp only [ioI] at hi ⊢
    obtain ⟨a, ha, hi⟩ := Option.bind_eq_some_iff.1 hi
    obtain ⟨b, hb, hi⟩ := Option.bind_eq_some_iff.1 hi
    rw [Env.le_int h ha, Option.bind_some, Env.le_int h hb]
    exact ⟨_, hi, rfl⟩
  | callr f os =>
    simp only [ioI, Env.callR] at hi ⊢
    split at hi
    · rename_i hc
      rw [if_pos hc]
      obtain ⟨ags, has, hi⟩ := Option.bind_eq_some_iff.1 hi
      obtain ⟨⟨t, outs⟩, ht, hi⟩ := Option.bind_eq_some_iff.1 hi
      rw [Env.le_args2 h has, Option.bind_some, ht, Option.bind_some]
      simp only at hi ⊢
      split at hi
      · cases hi
      · rename_i hl
        rw [if_neg hl]
        split at hi
        · rename_i ho; rw [if_pos ho]; exact ⟨_, hi, rfl⟩
        · cases hi
    · cases hi
  | _ => simp [I.reader] at hr

end
end Go.Mir

/- The mirror, part Zb: one instruction of a region that is carried out in whatever order. -/
set_option linter.unusedVariables false
set_option linter.unusedSimpArgs false
namespace Go.Mir
open Go.RowKit

theorem Env.get_keep_append (e1 e : Env) (l : List Nat) (t : Nat) : Env.get (e1.keep l ++ e) t = if t ∈ l then (e1.get t).within l else e.get t := by
  have : ∀ l' : List Nat, Env.get ((l'.map fun t => (t, (e1.get t).within l)) ++ e) t = if t ∈ l' then (e1.get t).within l else e.get t := by
    intro l'
    induction l' with
    | nil => simp
    | cons u l' ih =>
      simp only [List.map_cons, List.cons_append, Env.get, List.mem_cons]
      by_cases h : u = t
      · subst h; simp
      · simp only [h, if_false, Ne.symm h, false_or]; exact ih
  exact this l

theorem T.within_le (l : List Nat) (t : T) : t.within l = .dead ∨ t.within l = t := by
  unfold T.within; split <;> simp

theorem Env.keep_le (e : Env) (l : List Nat) : (e.keep l).le e := fun t => by
  rw [Env.get_keep]
  split
  · exact T.within_le l _
  · exact .inl rfl

theorem Env.get_keys {e : Env} {l : List Nat} (h : e.all (fun p => l.contains p.1) = true) {t : Nat} (ht : t ∉ l) : e.get t = .dead := by
  induction e with
  | nil => rfl
  | cons p e ih =>
    obtain ⟨u, v⟩ := p
    simp only [List.all_cons, Bool.and_eq_true] at h
    simp only [Env.get]
    rw [if_neg, ih h.2]
    rintro rfl
    exact ht (by simpa using h.1)

theorem Env.put_get {rt : Views} {e e1 : Env} {d : Nat} {t : T} (h : e.put rt (some d) t = some e1) : e1.get d = t := by
  simp only [Env.put] at h
  split at h
  · simp only [Option.some.injEq] at h; subst h; simp [Env.get]
  · cases h

/-- What only reads does the same among all. -/
theorem dr_small {call : FuncId → List T → Option Res} {pm : FuncId → List PM} {rt : Views} {e e' : Env} {s : Ins} {R : List Nat} (hr : s.op.reader = true) (hd : drO call pm rt e (s, false, R) = some e') : ioO call pm rt e s = some e' := by
  simp only [drO] at hd
  obtain ⟨e1, h1, hd⟩ := Option.bind_eq_some_iff.1 hd
  simp only [Bool.false_eq_true, if_false] at hd
  have main : ioI call pm rt (e.keep R) s.dst s.op = some e1 → ioI call pm rt e s.dst s.op = some e' := fun hi => by
    obtain ⟨t, ht, hi2⟩ := reader_le (Env.keep_le e R) hr hi
    rw [hi2]
    cases hds : s.dst with
    | none => rw [hds] at hd; simpa [Env.put] using hd
    | some d =>
      rw [hds] at hd ht
      simp only at hd
      rw [Env.put_get ht] at hd
      simpa using hd
  simp only [ioO] at h1 ⊢
  cases hg : s.guard with
  | none => rw [hg] at h1; exact main h1
  | some g =>
    obtain ⟨j, want⟩ := g
    rw [hg] at h1
    simp only at h1 ⊢
    obtain ⟨b, hb, h1⟩ := Option.bind_eq_some_iff.1 h1
    have hb' : (e.get j).gd? = some b := by
      rcases Env.keep_le e R j with h | h
      · rw [h] at hb; cases hb
      · rw [← h]; exact hb
    rw [hb', Option.bind_some]
    split at h1
    · rename_i hw; rw [if_pos hw]; exact main h1
    · rename_i hw
      rw [if_neg hw]
      cases hds : s.dst with
      | none => rw [hds] at hd; simpa [Env.put] using hd
      | some d =>
        rw [hds] at hd h1
        simp only at hd
        rw [Env.put_get h1] at hd
        simpa using hd

/-- What is kept, in another 'ok'. -/
theorem Rel.keepTR {C : Ctx} {e : Env} {tm : Nat → Value} {w : World} {Fs : Nat → Nat → Prop} (h : Rel C No e tm w Fs) (l : List Nat) {ok' : Nat → Prop} (hok' : ∀ b, okOf C.X No Fs b → ok' b) (t : Nat) :
    TR C.P w ok' (e.keep l) tm ((e.keep l).get t) (tm t) (fun b => t ∈ l ∧ Fs t b) := by
  have hvs : ∀ r a cs, r ∈ l → e.get r = .vs a cs → (e.keep l).get r = .vs a cs := fun r a cs hr hg => by
    rw [Env.get_keep, if_pos hr, hg]; simp [T.within, T.roots]
  rw [Env.get_keep]
  by_cases ht : t ∈ l
  · rw [if_pos ht]
    rcases T.within_cases l (e.get t) with ⟨h1, h2⟩ | ⟨h1, h2⟩
    · rw [h1]
      refine TR.ext (F := Fs t) ?_ fun b => ⟨fun hb => hb.2, fun hb => ⟨ht, hb⟩⟩
      refine (h.tr t).change (fun _ _ => rfl) (fun b hb _ => ⟨hok' b hb, rfl⟩) (fun r k p ad hr _ ⟨a, cs, v, u, g1, g2⟩ => ⟨a, cs, v, u, hvs r a cs (h2 r hr) g1, g2⟩) (fun r k p x hr _ ⟨a, cs, v, u, g1, g2⟩ => ⟨a, cs, v, u, hvs r a cs (h2 r hr) g1, g2⟩)
    · rw [h1]
      exact fun b hb => (h.tr t).noF h2 b hb.2
  · rw [if_neg ht]
    exact fun b hb => ht hb.1

/-- The frame of what is done among some. -/
def Ctx.among (C : Ctx) (R : List Nat) (w : World) (Fs : Nat → Nat → Prop) (hX : ∀ b, (C.X b ∨ ∃ t, t ∉ R ∧ Fs t b) → b < w.heap.size) : Ctx :=
  { P := C.P, X := fun b => C.X b ∨ ∃ t, t ∉ R ∧ Fs t b, w0 := w, F0 := fun b => ∃ t, t ∈ R ∧ Fs t b, rt := C.rt, hX := hX }

theorem Rel.amongX {C : Ctx} {e : Env} {tm : Nat → Value} {w : World} {Fs : Nat → Nat → Prop} (h : Rel C No e tm w Fs) (R : List Nat) : ∀ b, (C.X b ∨ ∃ t, t ∉ R ∧ Fs t b) → b < w.heap.size := fun b hb => by
  rcases hb with hb | ⟨t, _, hb⟩
  · have := C.hX b hb; have := h.gr.size; omega
  · exact (h.tr t).lt b hb

theorem Rel.among {C : Ctx} {e : Env} {tm : Nat → Value} {w : World} {Fs : Nat → Nat → Prop} (h : Rel C No e tm w Fs) (R : List Nat) : Rel (C.among R w Fs (h.amongX R)) No (e.keep R) tm w fun t b => t ∈ R ∧ Fs t b := by
  refine ⟨fun t => h.keepTR R (fun b hb => ⟨fun hx => hx.elim hb.1 fun ⟨t, _, ht⟩ => hb.2.2 t ht, fun h => h, fun t ht => hb.2.2 t ht.2⟩) t, fun t t' b hne h1 h2 => h.dj t t' b hne h1.2 h2.2, fun t b hb => ⟨fun hx => ?_, fun h => h⟩, fun u r hr => ?_, Grow.refl _ _, fun t b hb => .inl ⟨t, hb⟩, fun b hb => hb.elim⟩
  · rcases hx with hx | ⟨t', ht', hx⟩
    · exact (h.hx t b hb.2).1 hx
    · exact h.dj t t' b (by rintro rfl; exact ht' hb.1) hb.2 hx
  · rw [Env.get_keep] at hr
    split at hr
    · rcases T.within_cases R (e.get u) with ⟨h1, _⟩ | ⟨h1, _⟩
      · rw [h1] at hr; exact h.vw u r hr
      · rw [h1] at hr; simp [T.roots] at hr
    · simp [T.roots] at hr

theorem Rel.rejoin {C : Ctx} {e e1 : Env} {tm tm' : Nat → Value} {w w' : World} {Fs Fs1 : Nat → Nat → Prop} {R : List Nat} (h : Rel C No e tm w Fs) (hcl : ∀ r, r ∈ R → ∀ u, (u, r) ∈ C.rt → u ∈ R)
    (h' : Rel (C.among R w Fs (h.amongX R)) No e1 tm' w' Fs1) (hk : e1.all (fun p => R.contains p.1) = true) (ht : ∀ t, t ∉ R → tm' t = tm t) :
    Rel C No (e1.keep R ++ e) tm' w' fun t b => (t ∈ R ∧ Fs1 t b) ∨ (t ∉ R ∧ Fs t b) := by
  have hgr : Grow (fun b => ∃ t, t ∈ R ∧ Fs t b) w w' := h'.gr
  have hfr : ∀ t, t ∉ R → ∀ b, Fs t b → w'.heap[b]? = w.heap[b]? := fun t htR b hb => hgr.block b ((h.tr t).lt b hb) fun ⟨t', ht', hb'⟩ => h.dj t t' b (by rintro rfl; exact htR ht') hb hb'
  have hok1 : ∀ b, okOf (C.among R w Fs (h.amongX R)).X No Fs1 b → okOf C.X No (fun t b => (t ∈ R ∧ Fs1 t b) ∨ (t ∉ R ∧ Fs t b)) b := fun b hb =>
    ⟨fun hx => hb.1 (.inl hx), fun h => h, fun t hh => hh.elim (fun hh => hb.2.2 t hh.2) fun hh => hb.1 (.inr ⟨t, hh⟩)⟩
  have hok2 : ∀ b, okOf C.X No Fs b → b < w.heap.size → okOf C.X No (fun t b => (t ∈ R ∧ Fs1 t b) ∨ (t ∉ R ∧ Fs t b)) b ∧ w'.heap[b]? = w.heap[b]? := fun b hb hl => by
    refine ⟨⟨hb.1, fun h => h, fun t hh => ?_⟩, hgr.block b hl fun ⟨t, _, hb'⟩ => hb.2.2 t hb'⟩
    rcases hh with ⟨_, hh⟩ | ⟨_, hh⟩
    · rcases h'.nw t b hh with ⟨t', _, hf⟩ | hf
      · exact hb.2.2 t' hf
      · simp only [Ctx.among] at hf; omega
    · exact hb.2.2 t hh
  have hget1 : ∀ r a cs, r ∈ R → e1.get r = .vs a cs → Env.get (e1.keep R ++ e) r = .vs a cs := fun r a cs hr hg => by
    rw [Env.get_keep_append, if_pos hr, hg]; simp [T.within, T.roots]
  have hget2 : ∀ r, r ∉ R → Env.get (e1.keep R ++ e) r = e.get r := fun r hr => by rw [Env.get_keep_append, if_neg hr]
  have hF1 : ∀ t, t ∉ R → ∀ b, ¬ Fs1 t b := fun t htR b hb => by
    have := h'.tr t
    rw [Env.get_keys hk htR] at this
    exact this b hb
  refine ⟨fun t => ?_, fun t t' b hne h1 h2 => ?_, fun t b hb => ⟨?_, fun h => h⟩, fun u r hr => ?_, ?_, fun t b hb => ?_, fun b hb => hb.elim⟩
  · by_cases htR : t ∈ R
    · rw [Env.get_keep_append, if_pos htR]
      rcases T.within_cases R (e1.get t) with ⟨h1, h2⟩ | ⟨h1, h2⟩
      · rw [h1]
        refine TR.ext (F := Fs1 t) ?_ fun b => ⟨fun hb => hb.elim (fun hb => hb.2) fun hb => (hb.1 htR).elim, fun hb => .inl ⟨htR, hb⟩⟩
        refine (h'.tr t).change (fun _ _ => rfl) (fun b hb _ => ⟨hok1 b hb, rfl⟩) (fun r k p ad hr _ ⟨a, cs, v, u, g1, g2⟩ => ⟨a, cs, v, u, hget1 r a cs (h2 r hr) g1, g2⟩)
          (fun r k p x hr _ ⟨a, cs, v, u, g1, g2⟩ => ⟨a, cs, v, u, hget1 r a cs (h2 r hr) g1, g2⟩)
      · rw [h1]
        rintro b (hb | hb)
        · exact (h'.tr t).noF h2 b hb.2
        · exact hb.1 htR
    · rw [hget2 t htR, ht t htR]
      refine TR.ext (F := Fs t) ?_ fun b => ⟨fun hb => hb.elim (fun hb => (htR hb.1).elim) fun hb => hb.2, fun hb => .inr ⟨htR, hb⟩⟩
      have hroot : ∀ r, r ∈ (e.get t).roots → r ∉ R := fun r hr hrR => htR (hcl r hrR t (h.vw t r hr).1)
      refine (h.tr t).change (hfr t htR) hok2 (fun r k p ad hr _ ⟨a, cs, v, u, g1, g2, g3, g4⟩ => ?_) (fun r k p x hr _ ⟨a, cs, v, u, g1, g2, g3, g5, g4⟩ => ?_)
      · have hrR := hroot r hr
        obtain ⟨F, hF, hs⟩ := h.root g1 g2 g3
        exact ⟨a, cs, v, u, by rw [hget2 r hrR, g1], g2, by rw [ht r hrR]; exact g3, (adrOf_frame hF fun b hb => hfr r hrR b (hs b hb)).trans g4⟩
      · have hrR := hroot r hr
        obtain ⟨F, hF, hs⟩ := h.root g1 g2 g3
        refine ⟨a, cs, v, u, by rw [hget2 r hrR, g1], g2, by rw [ht r hrR]; exact g3, g5, ?_⟩
        cases p with
        | nil => exact g4
        | cons s p =>
          simp only [valOf] at g4 ⊢
          rw [adrOf_frame hF fun b hb => hfr r hrR b (hs b hb)]
          obtain ⟨ad, ha, hc⟩ := Option.bind_eq_some_iff.1 g4
          rw [ha]
          exact (World.cell?_of_block (w := w) (hfr r hrR _ (hs _ (adrOf_mem hF g5 ha).1))).trans hc
  · rcases h1 with ⟨a1, h1⟩ | ⟨a1, h1⟩ <;> rcases h2 with ⟨a2, h2⟩ | ⟨a2, h2⟩
    · exact h'.dj t t' b hne h1 h2
    · exact (h'.hx t b h1).1 (.inr ⟨t', a2, h2⟩)
    · exact (h'.hx t' b h2).1 (.inr ⟨t, a1, h1⟩)
    · exact h.dj t t' b hne h1 h2
  · rcases hb with ⟨_, hb⟩ | ⟨_, hb⟩
    · exact fun hx => (h'.hx t b hb).1 (.inl hx)
    · exact (h.hx t b hb).1
  · rw [Env.get_keep_append] at hr
    split at hr
    · rcases T.within_cases R (e1.get u) with ⟨h1, _⟩ | ⟨h1, _⟩
      · rw [h1] at hr; exact h'.vw u r hr
      · rw [h1] at hr; simp [T.roots] at hr
    · exact h.vw u r hr
  · refine h.gr.trans' hgr fun i hi ⟨t, _, hb⟩ => ?_
    rcases h.nw t i hb with h1 | h1
    · exact h1
    · omega
  · rcases hb with ⟨_, hb⟩ | ⟨_, hb⟩
    · rcases h'.nw t b hb with ⟨t', _, hf⟩ | hf
      · exact h.nw t' b hf
      · have := h.gr.size
        simp only [Ctx.among] at hf
        exact .inr (by omega)
    · exact h.nw t b hb

section
variable {C : Ctx} {X : Fix} {e e' : Env} {a : Act} {w : World} {call : FuncId → List T → Option Res} {pm : FuncId → List PM} {Q : Exit → Act → World → Prop}

/-- What must be so of an instruction, by its look. -/
def drOk (rt : Views) (x : Ins × Bool × List Nat) : Bool :=
  if x.2.1 then (rt.all fun p => !x.2.2.contains p.2 || x.2.2.contains p.1) && (match x.1.dst with | some d => x.2.2.contains d | none => true)
  else x.1.op.reader

theorem wpOp_dr (h : St C X e a w) {ops : Array Oper} {i : Nat} {o : Oper} {m : Option Md} {x : Ins × Bool × List Nat} (ho : ops[i]? = some o) (hp : prepO C.P ops.toList m o = some x.1) (hd : dstOk X o.dst = true) (hx : drOk C.rt x = true)
    (hcall : ∀ f args r, call f args = some r → CallR C.P pm f args r) (hi : drO call pm C.rt e x = some e') {K : Act → World → Prop} (hK : ∀ a' w', St C X e' a' w' → K a' w') : wpOp C.P ops Q i K a w := by
  obtain ⟨s, big, R⟩ := x
  cases big with
  | false =>
    simp only [drOk, Bool.false_eq_true, if_false] at hx
    exact wpOp_ok h ho hp hd hcall (dr_small hx hi) hK
  | true =>
    simp only [drOk, if_true, Bool.and_eq_true] at hx
    obtain ⟨hcl, hdst⟩ := hx
    have hcl' : ∀ r, r ∈ R → ∀ u, (u, r) ∈ C.rt → u ∈ R := fun r hr u hu => by
      have := List.all_eq_true.1 hcl (u, r) hu
      simpa [hr] using this
    simp only [drO] at hi
    obtain ⟨e1, h1, hi⟩ := Option.bind_eq_some_iff.1 hi
    simp only [if_true] at hi
    split at hi
    · rename_i hk
      simp only [Option.some.injEq] at hi
      subst hi
      obtain ⟨hX, Fs, hr⟩ := h
      have hsd : s.dst = o.dst := by
        unfold prepO at hp
        cases hg : o.guard with
        | none => rw [hg] at hp; simp only [Option.some.injEq] at hp; rw [← hp]
        | some g => rw [hg] at hp; simp only at hp; obtain ⟨t, _, hp⟩ := Option.map_eq_some_iff.1 hp; rw [← hp]
      let X' : Fix := ⟨X.n, X.ios ++ ((List.range X.n).filter (fun t => !R.contains t)).map fun t => (t, tmOf a t)⟩
      have hX' : X'.ok a := ⟨hX.1, hX.2.1, fun p hp => by
        rcases List.mem_append.1 hp with hp | hp
        · exact hX.2.2 p hp
        · obtain ⟨t, _, rfl⟩ := List.mem_map.1 hp; rfl⟩
      have hd' : dstOk X' o.dst = true := by
        cases hod : o.dst with
        | none => rfl
        | some d =>
          rw [hod] at hd
          rw [hsd, hod] at hdst
          simp only [dstOk, Bool.and_eq_true, decide_eq_true_eq] at hd ⊢
          refine ⟨hd.1, ?_⟩
          rw [List.all_eq_true] at hd ⊢
          intro p hp
          rcases List.mem_append.1 hp with hp | hp
          · exact hd.2 p hp
          · obtain ⟨t, ht, rfl⟩ := List.mem_map.1 hp
            have h2 := (List.mem_filter.1 ht).2
            have : t ≠ d := by rintro rfl; simp at h2; exact h2 (by simpa using hdst)
            simpa using this
      refine wpOp_ok (C := C.among R w Fs (hr.amongX R)) (X := X') (e := e.keep R) ⟨hX', _, hr.among R⟩ ho hp hd' hcall h1 fun a' w' ⟨hX1, Fs1, hr1⟩ => ?_
      refine hK a' w' ⟨⟨hX1.1, hX1.2.1, fun p hp => hX1.2.2 p (List.mem_append_left _ hp)⟩, _, hr.rejoin hcl' hr1 hk fun t ht => ?_⟩
      by_cases hn : t < X.n
      · exact hX1.2.2 (t, tmOf a t) (List.mem_append_right _ (List.mem_map.2 ⟨t, List.mem_filter.2 ⟨List.mem_range.2 hn, by simpa using ht⟩, rfl⟩))
      · have h2 : a'.tmps.size = X.n := hX1.1
        have h3 : a.tmps.size = X.n := hX.1
        simp [tmOf, Array.getElem?_eq_none (show a'.tmps.size ≤ t by omega), Array.getElem?_eq_none (show a.tmps.size ≤ t by omega)]
    · cases hi

end
end Go.Mir

/- The mirror, part Zc: a region in whatever order. -/
set_option linter.unusedVariables false
set_option linter.unusedSimpArgs false
namespace Go.Mir
open Go.RowKit

abbrev DI := Ins × Bool × List Nat

/-- What it may turn; what it looks at. -/
def DI.W (rt : Views) (x : DI) : List Nat := if x.2.1 then x.2.2 else match x.1.dst with | some d => d :: rt.of d | none => []
def DI.R (rt : Views) (x : DI) : List Nat := if x.2.1 then x.2.2 else x.2.2 ++ DI.W rt x

def Env.eqv (e e2 : Env) : Prop := ∀ t, e.get t = e2.get t

theorem DI.W_R {rt : Views} {x : DI} {t : Nat} (h : t ∈ DI.W rt x) : t ∈ DI.R rt x := by
  unfold DI.R
  split
  · rename_i hb; simpa [DI.W, hb] using h
  · exact List.mem_append_right _ h

theorem Env.keep_congr {e e' : Env} {l : List Nat} (h : ∀ t ∈ l, e.get t = e'.get t) : e.keep l = e'.keep l := by
  unfold Env.keep
  exact List.map_congr_left fun t ht => by rw [h t ht]

theorem Env.put_some {rt : Views} {e e1 : Env} {d : Nat} {t : T} (h : e.put rt (some d) t = some e1) : e1 = (d, t) :: e.killR rt d ∧ ∀ e' : Env, e'.put rt (some d) t = some ((d, t) :: e'.killR rt d) := by
  simp only [Env.put] at h ⊢
  split at h
  · rename_i hc
    simp only [Option.some.injEq] at h
    exact ⟨h.symm, fun e' => by rw [if_pos hc]⟩
  · cases h

theorem Env.get_put {rt : Views} (e : Env) (d : Nat) (t : T) (u : Nat) : Env.get ((d, t) :: e.killR rt d) u = if u = d then t else if u ∈ rt.of d then (e.get u).killR d else e.get u := by
  simp only [Env.get]
  by_cases h : d = u
  · subst h; simp
  · simp only [h, if_false, Ne.symm h, Env.killR, Env.get_over]

section
variable {call : FuncId → List T → Option Res} {pm : FuncId → List PM} {rt : Views}

theorem drO_loc {e e1 e' : Env} {x : DI} (h : drO call pm rt e x = some e1) (ha : ∀ t ∈ DI.R rt x, e.get t = e'.get t) :
    ∃ e1', drO call pm rt e' x = some e1' ∧ (∀ t ∈ DI.W rt x, e1'.get t = e1.get t) ∧ (∀ t, t ∉ DI.W rt x → e1.get t = e.get t) ∧ ∀ t, t ∉ DI.W rt x → e1'.get t = e'.get t := by
  obtain ⟨s, big, R⟩ := x
  simp only [drO] at h ⊢
  obtain ⟨e2, h2, h⟩ := Option.bind_eq_some_iff.1 h
  have hk : e.keep R = e'.keep R := Env.keep_congr fun t ht => ha t (by cases big <;> simp [DI.R, ht])
  rw [← hk, h2, Option.bind_some]
  cases big with
  | true =>
    simp only [if_true] at h ⊢
    split at h
    · rename_i hc
      simp only [Option.some.injEq] at h
      subst h
      rw [if_pos hc]
      refine ⟨_, rfl, fun t ht => ?_, fun t ht => ?_, fun t ht => ?_⟩
      · have ht : t ∈ R := by simpa [DI.W] using ht
        rw [Env.get_keep_append, Env.get_keep_append, if_pos ht, if_pos ht]
      · have ht : t ∉ R := by simpa [DI.W] using ht
        rw [Env.get_keep_append, if_neg ht]
      · have ht : t ∉ R := by simpa [DI.W] using ht
        rw [Env.get_keep_append, if_neg ht]
    · cases h
  | false =>
    simp only [Bool.false_eq_true, if_false] at h ⊢
    cases hd : s.dst with
    | none =>
      rw [hd] at h
      simp only [Option.some.injEq] at h
      subst h
      exact ⟨_, rfl, fun t ht => by simp [DI.W, hd] at ht, fun _ _ => rfl, fun _ _ => rfl⟩
    | some d =>
      rw [hd] at h
      simp only at h ⊢
      obtain ⟨rfl, h3⟩ := Env.put_some h
      have hW : DI.W rt (s, false, R) = d :: rt.of d := by simp [DI.W, hd]
      refine ⟨_, h3 e', fun t ht => ?_, fun t ht => ?_, fun t ht => ?_⟩
      · have := ha t (DI.W_R ht)
        rw [Env.get_put, Env.get_put, this]
      · rw [hW] at ht
        simp only [List.mem_cons, not_or] at ht
        rw [Env.get_put, if_neg ht.1, if_neg ht.2]
      · rw [hW] at ht
        simp only [List.mem_cons, not_or] at ht
        rw [Env.get_put, if_neg ht.1, if_neg ht.2]

theorem drO_eqv {e e1 e' : Env} {x : DI} (h : drO call pm rt e x = some e1) (ha : e.eqv e') : ∃ e1', drO call pm rt e' x = some e1' ∧ e1.eqv e1' := by
  obtain ⟨e1', h1, h2, h3, h4⟩ := drO_loc h (fun t _ => ha t)
  refine ⟨e1', h1, fun t => ?_⟩
  by_cases ht : t ∈ DI.W rt x
  · exact (h2 t ht).symm
  · rw [h3 t ht, h4 t ht, ha t]

theorem drL_eqv : ∀ {l : List DI} {e e1 e' : Env}, drL call pm rt e l = some e1 → e.eqv e' → ∃ e1', drL call pm rt e' l = some e1' ∧ e1.eqv e1'
  | [], e, e1, e', h, ha => by simp only [drL, Option.some.injEq] at h ⊢; subst h; exact ⟨e', rfl, ha⟩
  | x :: l, e, e1, e', h, ha => by
    simp only [drL] at h ⊢
    obtain ⟨e2, h2, h⟩ := Option.bind_eq_some_iff.1 h
    obtain ⟨e2', g1, g2⟩ := drO_eqv h2 ha
    obtain ⟨e1', k1, k2⟩ := drL_eqv h g2
    exact ⟨e1', by rw [g1]; exact k1, k2⟩

/-- The one may as well come first. -/
def Comm (call : FuncId → List T → Option Res) (pm : FuncId → List PM) (rt : Views) (y x : DI) : Prop :=
  ∀ e e1 e2, drO call pm rt e y = some e1 → drO call pm rt e1 x = some e2 → ∃ e1' e2', drO call pm rt e x = some e1' ∧ drO call pm rt e1' y = some e2' ∧ e2.eqv e2'

def DI.far (rt : Views) (x y : DI) : Bool := (DI.W rt x).all (fun t => !(DI.R rt y).contains t) && (DI.W rt y).all (fun t => !(DI.R rt x).contains t)

theorem comm_far {x y : DI} (h : DI.far rt y x = true) : Comm call pm rt y x := by
  intro e e1 e2 h1 h2
  simp only [DI.far, Bool.and_eq_true] at h
  have hyx : ∀ t ∈ DI.W rt y, t ∉ DI.R rt x := fun t ht => by have := List.all_eq_true.1 h.1 t ht; simpa using this
  have hxy : ∀ t ∈ DI.W rt x, t ∉ DI.R rt y := fun t ht => by have := List.all_eq_true.1 h.2 t ht; simpa using this
  obtain ⟨_, _, _, y3, _⟩ := drO_loc h1 (e' := e) (fun _ _ => rfl)
  obtain ⟨e1', k1, k2, k3, k4⟩ := drO_loc h2 (e' := e) fun t ht => y3 t fun hw => hyx t hw ht
  obtain ⟨e2', m1, m2, m3, m4⟩ := drO_loc h1 (e' := e1') fun t ht => (k4 t fun hw => hxy t hw ht).symm
  refine ⟨e1', e2', k1, m1, fun t => ?_⟩
  by_cases hy : t ∈ DI.W rt y
  · have hx : t ∉ DI.W rt x := fun hx => hyx t hy (DI.W_R hx)
    rw [m2 t hy, k3 t hx]
  · rw [m4 t hy]
    by_cases hx : t ∈ DI.W rt x
    · rw [k2 t hx]
    · rw [k3 t hx, k4 t hx, m3 t hy]

/-- Two parts of one tuple. -/
def DI.twin (rt : Views) (y x : DI) : Bool :=
  match y, x with
  | (⟨some d, none, .extract i (.tmp t)⟩, true, R), (⟨some d', none, .extract j (.tmp t')⟩, true, R') =>
    decide (t = t' ∧ i ≠ j ∧ d ≠ d' ∧ d ≠ t ∧ d' ≠ t ∧ R = [t, d] ∧ R' = [t, d'] ∧ rt.of t = [] ∧ rt.of d = [] ∧ rt.of d' = [])
  | _, _ => false

theorem over_nil (e : Env) (f : T → T) : e.over f [] = e := rfl

theorem twin_step {e : Env} {t d i : Nat} (hdt : d ≠ t) (h1 : rt.of t = []) (h2 : rt.of d = []) :
    (∀ e1, drO call pm rt e (⟨some d, none, .extract i (.tmp t)⟩, true, [t, d]) = some e1 → ∃ ts a cs, e.get t = .tup ts ∧ ts[i]? = some (a, cs)) ∧
    ∀ ts a cs, e.get t = .tup ts → ts[i]? = some (a, cs) → ∃ e1, drO call pm rt e (⟨some d, none, .extract i (.tmp t)⟩, true, [t, d]) = some e1 ∧
      ∀ u, e1.get u = if u = d then .vs a cs else if u = t then .tup (ts.set i (a, cs.map V.strip)) else e.get u := by
  have hkt : (e.keep [t, d]).get t = (e.get t).within [t, d] := by rw [Env.get_keep]; simp
  refine ⟨fun e1 h => ?_, fun ts a cs h3 h4 => ?_⟩
  · simp only [drO, ioO, ioI] at h
    obtain ⟨e2, h3, _⟩ := Option.bind_eq_some_iff.1 h
    split at h3
    · rename_i x ts heq hh
      simp only [Env.opd] at hh
      simp only [Opd.tmp.injEq] at heq
      subst heq
      rw [hkt] at hh
      obtain ⟨⟨a, cs⟩, h4, _⟩ := Option.bind_eq_some_iff.1 h3
      refine ⟨ts, a, cs, ?_, h4⟩
      rcases T.within_le [t, d] (e.get t) with h5 | h5
      · rw [h5] at hh; cases hh
      · rw [← h5]; exact hh
    · cases h3
  · have hk : (e.keep [t, d]).get t = .tup ts := by rw [hkt, h3]; simp [T.within, T.roots]
    simp only [drO, ioO, ioI, Env.opd, hk, h4, Option.bind_some, Env.put, T.roots, List.all_nil, if_true, Env.killR, h1, h2, over_nil]
    have : (List.all (((d, T.vs a cs) :: (t, T.tup (ts.set i (a, cs.map V.strip))) :: e.keep [t, d]) : Env) fun p => [t, d].contains p.1) = true := by
      simp [Env.keep]
    rw [if_pos this]
    refine ⟨_, rfl, fun u => ?_⟩
    rw [Env.get_keep_append]
    by_cases hu : u = d
    · subst hu; simp [Env.get, T.within, T.roots]
    · by_cases hu2 : u = t
      · subst hu2; simp [Env.get, hdt, hu, T.within, T.roots]
      · simp [hu, hu2]

theorem comm_twin {x y : DI} (h : DI.twin rt y x = true) : Comm call pm rt y x := by
  unfold DI.twin at h
  split at h
  · rename_i d i t R d' j t' R'
    simp only [decide_eq_true_eq] at h
    obtain ⟨rfl, hij, hdd, hdt, hdt', rfl, rfl, r1, r2, r3⟩ := h
    intro e e1 e2 h1 h2
    obtain ⟨ts, a, cs, g1, g2⟩ := (twin_step hdt r1 r2).1 e1 h1
    obtain ⟨e1b, g3, g4⟩ := (twin_step (call := call) (pm := pm) hdt r1 r2).2 ts a cs g1 g2
    rw [h1] at g3; cases g3
    obtain ⟨ts', a', cs', k1, k2⟩ := (twin_step hdt' r1 r3).1 e2 h2
    rw [g4 t, if_neg (Ne.symm hdt), if_pos rfl] at k1
    simp only [T.tup.injEq] at k1
    subst k1
    obtain ⟨e2b, k3, k4⟩ := (twin_step (call := call) (pm := pm) (e := e1) (i := j) hdt' r1 r3).2 _ a' cs' (by rw [g4 t, if_neg (Ne.symm hdt), if_pos rfl]) k2
    rw [h2] at k3; cases k3
    have k2' : ts[j]? = some (a', cs') := by rw [List.getElem?_set_ne hij] at k2; exact k2
    obtain ⟨e1', m1, m2⟩ := (twin_step (call := call) (pm := pm) hdt' r1 r3).2 ts a' cs' g1 k2'
    obtain ⟨e2', m3, m4⟩ := (twin_step (call := call) (pm := pm) (e := e1') (i := i) hdt r1 r2).2 (ts.set j (a', cs'.map V.strip)) a cs (by rw [m2 t, if_neg (Ne.symm hdt'), if_pos rfl]) (by rw [List.getElem?_set_ne (Ne.symm hij)]; exact g2)
    refine ⟨e1', e2', m1, m3, fun u => ?_⟩
    rw [k4 u, m4 u, g4 u, m2 u]
    by_cases hu : u = d
    · subst hu; simp [hdd, hdt]
    · by_cases hu2 : u = d'
      · subst hu2; simp [hu, hdt']
      · by_cases hu3 : u = t
        · subst hu3; simp [hu, hu2, List.set_comm _ _ hij]
        · simp [hu, hu2, hu3]
  · cases h

theorem bubble {x : DI} {p2 : List DI} {e' : Env} : ∀ {p1 : List DI} {e : Env}, drL call pm rt e (p1 ++ x :: p2) = some e' → (∀ y ∈ p1, Comm call pm rt y x) → ∃ e1 e'', drO call pm rt e x = some e1 ∧ drL call pm rt e1 (p1 ++ p2) = some e'' ∧ e'.eqv e''
  | [], e, h, _ => by
    simp only [List.nil_append, drL] at h ⊢
    obtain ⟨e1, h1, h⟩ := Option.bind_eq_some_iff.1 h
    exact ⟨e1, e', h1, h, fun _ => rfl⟩
  | y :: p1, e, h, hc => by
    simp only [List.cons_append, drL] at h ⊢
    obtain ⟨ey, h1, h⟩ := Option.bind_eq_some_iff.1 h
    obtain ⟨e1, e'', g1, g2, g3⟩ := bubble h fun y hy => hc y (List.mem_cons_of_mem _ hy)
    obtain ⟨e1', e2', k1, k2, k3⟩ := hc y (List.mem_cons_self ..) e ey e1 h1 g1
    obtain ⟨e3, m1, m2⟩ := drL_eqv g2 k3
    exact ⟨e1', e3, k1, by rw [k2]; exact m1, fun t => (g3 t).trans (m2 t)⟩

end

/-! ### the whole region -/
def DI.none : DI := (⟨.none, .none, .alloc []⟩, false, [])

/-- What must be so of a region, by its look: for each operation, whom it surely follows. -/
def clOk (ops : List Oper) (cl : List (List Nat)) : Bool :=
  (List.range ops.length).all fun i => match ops[i]? with
    | .none => false
    | some o => (o.after.toList.all fun e => !Region.binds .any e || decide (e.on < i)) &&
      ((cl[i]?).getD []).all fun k => o.after.toList.any fun e => Region.binds .any e && (e.on == k || ((cl[e.on]?).getD []).contains k)

def DI.comm (rt : Views) (y x : DI) : Bool := DI.far rt y x || DI.twin rt y x

def pairsOk (rt : Views) (cl : List (List Nat)) (xs : List DI) : Bool :=
  (List.range xs.length).all fun i => (List.range i).all fun k => ((cl[i]?).getD []).contains k || DI.comm rt ((xs[k]?).getD DI.none) ((xs[i]?).getD DI.none)

theorem comm_ok {call : FuncId → List T → Option Res} {pm : FuncId → List PM} {rt : Views} {y x : DI} (h : DI.comm rt y x = true) : Comm call pm rt y x := by
  simp only [DI.comm, Bool.or_eq_true] at h
  exact h.elim comm_far comm_twin

theorem Rel.congr {C : Ctx} {e e2 : Env} {tm : Nat → Value} {w : World} {Fs : Nat → Nat → Prop} (h : Rel C No e tm w Fs) (he : e.eqv e2) : Rel C No e2 tm w Fs := by
  refine ⟨fun t => ?_, h.dj, h.hx, fun u r hr => h.vw u r (by rw [he u]; exact hr), h.gr, h.nw, h.hn⟩
  rw [← he t]
  exact (h.tr t).change (fun _ _ => rfl) (fun _ hb _ => ⟨hb, rfl⟩) (fun r k p ad _ _ ⟨a, cs, v, u, g1, g2⟩ => ⟨a, cs, v, u, by rw [← he r]; exact g1, g2⟩) (fun r k p x _ _ ⟨a, cs, v, u, g1, g2⟩ => ⟨a, cs, v, u, by rw [← he r]; exact g1, g2⟩)

section
variable {C : Ctx} {X : Fix} {call : FuncId → List T → Option Res} {pm : FuncId → List PM} {Q : Exit → Act → World → Prop}

theorem wpAny_dr {ops : Array Oper} {md : List (Nat × Md)} {cl : List (List Nat)} {xs : List DI} {e' : Env} (hcall : ∀ f args r, call f args = some r → CallR C.P pm f args r)
    (hcl : clOk ops.toList cl = true) (hpr : pairsOk C.rt cl xs = true) (hlen : xs.length = ops.size)
    (hp : ∀ i o, ops[i]? = some o → prepO C.P ops.toList (md.lookup i) o = some ((xs[i]?).getD DI.none).1 ∧ dstOk X o.dst = true ∧ drOk C.rt ((xs[i]?).getD DI.none) = true)
    (hQ : ∀ a' w' e'', e'.eqv e'' → St C X e'' a' w' → Q .normal a' w') :
    ∀ (fuel : Nat) (listed : Array Bool) (rem : List Nat) (e e2 : Env) (a : Act) (w : World), rem.Pairwise (· < ·) → (∀ i, i < ops.size → (listed.getD i true = false ↔ i ∈ rem)) → listed.size = ops.size → fuel = rem.length → (∀ i ∈ rem, i < ops.size) →
      (∀ m, m < ops.size → m ∉ rem → ∀ k ∈ (cl[m]?).getD [], k ∉ rem) → drL call pm C.rt e (rem.map fun i => (xs[i]?).getD DI.none) = some e2 → e'.eqv e2 → St C X e a w → wpAny C.P .any ops Q fuel listed a w := by
  have hclI : ∀ i o, ops[i]? = some o → (∀ ed ∈ o.after, Region.binds .any ed = true → ed.on < i) ∧ ∀ k ∈ (cl[i]?).getD [], ∃ ed ∈ o.after, Region.binds .any ed = true ∧ (ed.on = k ∨ k ∈ (cl[ed.on]?).getD []) := fun i o ho => by
    have hi := (Array.getElem?_eq_some_iff.1 ho).1
    have h1 := List.all_eq_true.1 hcl i (List.mem_range.2 (by simpa using hi))
    have ho' : ops.toList[i]? = some o := by simpa using ho
    rw [ho'] at h1
    simp only [Bool.and_eq_true] at h1
    refine ⟨fun ed hed hb => ?_, fun k hk => ?_⟩
    · have := List.all_eq_true.1 h1.1 ed (by simpa using hed)
      simpa [hb] using this
    · have := List.all_eq_true.1 h1.2 k hk
      obtain ⟨ed, hed, h2⟩ := List.any_eq_true.1 this
      simp only [Bool.and_eq_true, Bool.or_eq_true, beq_iff_eq] at h2
      exact ⟨ed, by simpa using hed, h2.1, h2.2.imp id fun h => by simpa using h⟩
  intro fuel
  induction fuel with
  | zero =>
    intro listed rem e e2 a w hs hl hsz hf hin hcls hdr he hst
    have hrem : rem = [] := List.length_eq_zero_iff.1 hf.symm
    subst hrem
    simp only [List.map_nil, drL, Option.some.injEq] at hdr
    subst hdr
    refine ⟨?_, hQ a w e he hst⟩
    rw [List.eq_nil_iff_forall_not_mem]
    intro j hj
    obtain ⟨h1, o, ho, _⟩ := mem_ready.1 hj
    have := (hl j (Array.getElem?_eq_some_iff.1 ho).1).1 h1
    cases this
  | succ fuel ih =>
    intro listed rem e e2 a w hs hl hsz hf hin hcls hdr he hst
    have hlisted : ∀ j, listed.getD j false = true → j < ops.size ∧ j ∉ rem := fun j hj => by
      have hjl : j < ops.size := by
        rcases Nat.lt_or_ge j listed.size with h | h
        · omega
        · simp [Array.getElem?_eq_none h] at hj
      refine ⟨hjl, fun hm => ?_⟩
      have h2 := (hl j hjl).2 hm
      have hjl' : j < listed.size := by omega
      simp [hjl'] at hj h2
      rw [h2] at hj; cases hj
    have hunl : ∀ j, j < ops.size → j ∉ rem → listed.getD j false = true := fun j hj hm => by
      have h2 := mt (hl j hj).1 hm
      have hjl' : j < listed.size := by omega
      simpa [hjl'] using h2
    refine ⟨fun hnil => ?_, fun i hi => ?_⟩
    · exfalso
      cases rem with
      | nil => simp at hf
      | cons i rem =>
        have hii := hin i (List.mem_cons_self ..)
        have ho := Array.getElem?_eq_getElem hii
        have : i ∈ Region.ready .any ops listed := mem_ready.2 ⟨(hl i hii).2 (List.mem_cons_self ..), _, ho, fun ed hed hb => by
          have hlt := (hclI i _ ho).1 ed hed hb
          refine hunl _ (by omega) fun hm => ?_
          rcases List.mem_cons.1 hm with h1 | h1
          · omega
          · have := (List.pairwise_cons.1 hs).1 _ h1; omega⟩
        rw [hnil] at this
        cases this
    · obtain ⟨h1, o, ho, hall⟩ := mem_ready.1 hi
      have hii := (Array.getElem?_eq_some_iff.1 ho).1
      have him := (hl i hii).1 h1
      have hclk : ∀ k ∈ (cl[i]?).getD [], k ∉ rem := fun k hk => by
        obtain ⟨ed, hed, hb, h2⟩ := (hclI i o ho).2 k hk
        obtain ⟨g1, g2⟩ := hlisted _ (hall ed hed hb)
        rcases h2 with rfl | h2
        · exact g2
        · exact hcls _ g1 g2 k h2
      obtain ⟨p1, p2, rfl⟩ := List.append_of_mem him
      have hp1 : ∀ k ∈ p1, k < i := fun k hk => by
        have := (List.pairwise_append.1 hs).2.2 k hk i (List.mem_cons_self ..); exact this
      rw [List.map_append, List.map_cons] at hdr
      obtain ⟨e1, e'', g1, g2, g3⟩ := bubble hdr fun y hy => by
        obtain ⟨k, hk, rfl⟩ := List.mem_map.1 hy
        have h2 := List.all_eq_true.1 hpr i (List.mem_range.2 (by omega))
        have h3 := List.all_eq_true.1 h2 k (List.mem_range.2 (hp1 k hk))
        simp only [Bool.or_eq_true] at h3
        rcases h3 with h3 | h3
        · exact (hclk k (by simpa using h3) (List.mem_append_left _ hk)).elim
        · exact comm_ok h3
      obtain ⟨q1, q2, q3⟩ := hp i o ho
      refine wpOp_dr hst ho q1 q2 q3 hcall g1 fun a' w' hst' => ?_
      have hnd : (p1 ++ i :: p2).Nodup := hs.imp fun h => Nat.ne_of_lt h
      have hni : i ∉ p1 ++ p2 := fun hm => by
        rw [List.nodup_append] at hnd
        obtain ⟨_, n2, n3⟩ := hnd
        rcases List.mem_append.1 hm with hm | hm
        · exact n3 i hm i (List.mem_cons_self ..) rfl
        · exact (List.nodup_cons.1 n2).1 hm
      have hmem : ∀ j, j ∈ p1 ++ p2 ↔ j ∈ p1 ++ i :: p2 ∧ j ≠ i := fun j => by
        constructor
        · intro hj
          refine ⟨?_, by rintro rfl; exact hni hj⟩
          rcases List.mem_append.1 hj with hj | hj
          · exact List.mem_append_left _ hj
          · exact List.mem_append_right _ (List.mem_cons_of_mem _ hj)
        · rintro ⟨hj, hne⟩
          rcases List.mem_append.1 hj with hj | hj
          · exact List.mem_append_left _ hj
          · rcases List.mem_cons.1 hj with rfl | hj
            · exact (hne rfl).elim
            · exact List.mem_append_right _ hj
      refine ih (listed.setIfInBounds i true) (p1 ++ p2) e1 e'' a' w' ?_ (fun j hj => ?_) (by simpa using hsz) ?_ (fun j hj => hin j ((hmem j).1 hj).1) (fun m hm hmr k hk => ?_) (by rw [List.map_append]; exact g2) (fun t => (he t).trans (g3 t)) hst'
      · exact hs.sublist (List.Sublist.append (List.Sublist.refl _) (List.sublist_cons_self _ _))
      · by_cases hji : j = i
        · subst hji
          have hjl' : j < listed.size := by omega
          simp [hjl', hni]
        · rw [getD_set_ne true (Ne.symm hji), hl j hj, hmem j]
          exact ⟨fun h => ⟨h, hji⟩, fun h => h.1⟩
      · simp only [List.length_append, List.length_cons] at hf ⊢; omega
      · rw [hmem k]
        by_cases hmi : m = i
        · subst hmi; exact fun h => hclk k hk h.1
        · refine fun h => hcls m hm (fun hm' => hmr ((hmem m).2 ⟨hm', hmi⟩)) k hk h.1

theorem St.drew {e : Env} {a : Act} {w : World} (h : St C X e a w) : St C X e a { w with drawn := w.drawn + 1 } := by
  obtain ⟨hX, Fs, hr⟩ := h
  exact ⟨hX, Fs, hr.world (Grow.drew _ _) fun b hb => hb.elim⟩

/-- **A region in whatever order.** -/
theorem wp_dr {ops : Array Oper} {md : List (Nat × Md)} {cl : List (List Nat)} {xs : List DI} {id : Nat} {e e' : Env} {a : Act} {w : World} (hm : C.P.follows .mixedOrders = true) (hcall : ∀ f args r, call f args = some r → CallR C.P pm f args r)
    (hcl : clOk ops.toList cl = true) (hpr : pairsOk C.rt cl xs = true) (hlen : xs.length = ops.size)
    (hp : ∀ i o, ops[i]? = some o → prepO C.P ops.toList (md.lookup i) o = some ((xs[i]?).getD DI.none).1 ∧ dstOk X o.dst = true ∧ drOk C.rt ((xs[i]?).getD DI.none) = true)
    (hd : drL call pm C.rt e xs = some e') (h : St C X e a w) (hQ : ∀ a' w', St C X e' a' w' → Q .normal a' w') : (Code.region id ops true).wp C.P Q a w := by
  refine wp_region_any hm ?_
  refine wpAny_dr hcall hcl hpr hlen hp (e' := e') (fun a' w' e'' he ⟨hX, Fs, hr⟩ => hQ a' w' ⟨hX, Fs, hr.congr fun t => (he t).symm⟩) ops.size (Array.replicate ops.size false) (List.range ops.size) e e' a _ List.pairwise_lt_range (fun i hi => ?_) (by simp) (by simp) (fun i hi => List.mem_range.1 hi) (fun m hm hmr => (hmr (List.mem_range.2 hm)).elim) ?_ (fun _ => rfl) h.drew
  · simp [hi]
  · rw [← hlen]
    have : (List.range xs.length).map (fun i => (xs[i]?).getD DI.none) = xs := by
      apply List.ext_getElem?
      intro i
      by_cases hi : i < xs.length
      · simp [hi]
      · simp [hi]
    rw [this]; exact hd

end
end Go.Mir

/- The mirror, part Zd: code. -/
set_option linter.unusedVariables false
set_option linter.unusedSimpArgs false
namespace Go.Mir
open Go.RowKit

def zipD : List Ins → List (Bool × List Nat) → Option (List DI)
  | [], [] => some []
  | s :: ss, x :: xs => (zipD ss xs).map ((s, x) :: ·)
  | _, _ => none

/-- Code, as the mirror's. -/
def prepC (P : Program) (n : Nat) (ios : List Nat) (rt : Views) (ann : List (Nat × RegAnn)) : Code → Option IC
  | .skip => some .skip
  | .region id ops false =>
    if dstsOk n ios ops.toList = true then (prepOs P ops.toList (annOf ann id).md 0 ops.toList).map fun l => .reg l (annOf ann id).keep else none
  | .region id ops true =>
    if dstsOk n ios ops.toList = true ∧ P.follows .mixedOrders = true ∧ clOk ops.toList (annOf ann id).cl = true then
      (prepOs P ops.toList (annOf ann id).md 0 ops.toList).bind fun l => (zipD l (annOf ann id).dr).bind fun xs =>
        if pairsOk rt (annOf ann id).cl xs = true ∧ xs.all (drOk rt) = true then some (.drw xs (annOf ann id).keep) else none
    else none
  | .seq a b => (prepC P n ios rt ann a).bind fun x => (prepC P n ios rt ann b).map fun y => .seq x y
  | .cond c a b => (opd P 0 c).bind fun q => (prepC P n ios rt ann a).bind fun x => (prepC P n ios rt ann b).map fun y => .cond q x y
  | .block id c => (prepC P n ios rt ann c).map fun x => .block id x
  | .loop c => (prepC P n ios rt ann c).map fun x => .loop x
  | .exit id => some (.exit id)
  | .ret => some .ret
  | _ => some .bad

def Ex.toExit : Ex → Exit
  | .nrm => .normal
  | .exit id => .exit id
  | .ret => .ret

theorem prepOs_get {P : Program} {ops : List Oper} {md : List (Nat × Md)} : ∀ {l : List Oper} {i : Nat} {ss : List Ins}, prepOs P ops md i l = some ss → ss.length = l.length ∧ ∀ (j : Nat) (o : Oper), l[j]? = some o → ∃ s, ss[j]? = some s ∧ prepO P ops (md.lookup (i + j)) o = some s
  | [], i, ss, h => by simp [prepOs] at h; subst h; simp
  | o :: l, i, ss, h => by
    simp only [prepOs] at h
    obtain ⟨s, hs, h⟩ := Option.bind_eq_some_iff.1 h
    obtain ⟨ss', hss, rfl⟩ := Option.map_eq_some_iff.1 h
    obtain ⟨g1, g2⟩ := prepOs_get hss
    refine ⟨by simp [g1], fun j o' hj => ?_⟩
    cases j with
    | zero => simp at hj; subst hj; exact ⟨s, rfl, hs⟩
    | succ j =>
      obtain ⟨s', k1, k2⟩ := g2 j o' (by simpa using hj)
      exact ⟨s', by simpa using k1, by rw [show i + (j + 1) = i + 1 + j by omega]; exact k2⟩

theorem zipD_get : ∀ {ss : List Ins} {ds : List (Bool × List Nat)} {xs : List DI}, zipD ss ds = some xs → xs.length = ss.length ∧ ∀ (j : Nat) (s : Ins), ss[j]? = some s → ∃ x, xs[j]? = some x ∧ x.1 = s
  | [], [], xs, h => by simp [zipD] at h; subst h; simp
  | [], _ :: _, xs, h => by simp [zipD] at h
  | _ :: _, [], xs, h => by simp [zipD] at h
  | s :: ss, d :: ds, xs, h => by
    simp only [zipD] at h
    obtain ⟨xs', hx, rfl⟩ := Option.map_eq_some_iff.1 h
    obtain ⟨g1, g2⟩ := zipD_get hx
    refine ⟨by simp [g1], fun j s' hj => ?_⟩
    cases j with
    | zero => simp at hj; subst hj; exact ⟨_, rfl, rfl⟩
    | succ j => obtain ⟨x, k1, k2⟩ := g2 j s' (by simpa using hj); exact ⟨x, by simpa using k1, k2⟩

theorem least {p : Nat → Prop} (h : ∃ k, p k) : ∃ k, p k ∧ ∀ j, p j → k ≤ j := by
  obtain ⟨k, hk⟩ := h
  induction k using Nat.strongRecOn with
  | _ k ih =>
    by_cases h : ∃ j, j < k ∧ p j
    · obtain ⟨j, hj, hp⟩ := h; exact ih j hj hp
    · exact ⟨k, hk, fun j hp => by
        rcases Nat.lt_or_ge j k with hj | hj
        · exact (h ⟨j, hj, hp⟩).elim
        · exact hj⟩

section
variable {C : Ctx} {X : Fix} {call : FuncId → List T → Option Res} {pm : FuncId → List PM}

theorem dsts_ok {n : Nat} {ios : List Nat} {ops : Array Oper} (h : dstsOk n ios ops.toList = true) (hn : X.n = n) (hi : ∀ p ∈ X.ios, p.1 ∈ ios) : ∀ o ∈ ops.toList, dstOk X o.dst = true := fun o ho => by
  have := List.all_eq_true.1 h o ho
  cases hd : o.dst with
  | none => rfl
  | some u =>
    rw [hd] at this
    simp only [Bool.and_eq_true, decide_eq_true_eq] at this
    simp only [dstOk, Bool.and_eq_true, decide_eq_true_eq]
    exact ⟨by rw [hn]; exact this.1, List.all_eq_true.2 fun p hp => List.all_eq_true.1 this.2 p.1 (hi p hp)⟩

theorem loop_ok {c : Code} {f : Env → Option (Ex × Env)} {Q : Exit → Act → World → Prop} {x : Ex} {e' : Env} (hf : ∀ {Q : Exit → Act → World → Prop} {e e1 : Env} {y : Ex} {a : Act} {w : World}, St C X e a w → f e = some (y, e1) → (∀ a' w', St C X e1 a' w' → Q y.toExit a' w') → c.wp C.P Q a w)
    (hQ : ∀ a' w', St C X e' a' w' → Q x.toExit a' w') {k : Nat} {e : Env} {a : Act} {w : World} (h : St C X e a w) (hd : loopK f k e = some (x, e')) : (Code.loop c).wp C.P Q a w := by
  classical
  let I : Act → World → Nat → Prop := fun a w k => ∃ e, loopK f k e = some (x, e') ∧ St C X e a w
  let μ : Act → World → Nat := fun a w => if h : ∃ k, I a w k then (least h).choose else 0
  refine wp_loop (fun a w => ∃ k, I a w k) μ ⟨k, e, hd, h⟩ fun a w hI => ?_
  have hμ : μ a w = (least hI).choose := dif_pos hI
  obtain ⟨e1, hk, hst⟩ := (least hI).choose_spec.1
  rw [← hμ] at hk
  obtain ⟨k', hk'⟩ : ∃ k', μ a w = k' + 1 := by
    cases hm : μ a w with
    | zero => rw [hm] at hk; simp [loopK] at hk
    | succ k' => exact ⟨k', rfl⟩
  rw [hk'] at hk ⊢
  simp only [loopK] at hk
  obtain ⟨⟨y, e2⟩, hy, hk⟩ := Option.bind_eq_some_iff.1 hk
  refine hf hst hy fun a' w' hst' => ?_
  cases y with
  | nrm =>
    simp only at hk
    simp only [Ex.toExit, Exit.then]
    have hI' : ∃ k, I a' w' k := ⟨k', e2, hk, hst'⟩
    refine ⟨hI', ?_⟩
    have h1 : μ a' w' = (least hI').choose := dif_pos hI'
    rw [h1]
    exact Nat.lt_of_le_of_lt ((least hI').choose_spec.2 k' ⟨e2, hk, hst'⟩) (by omega)
  | exit id =>
    simp only [Option.some.injEq, Prod.mk.injEq] at hk
    obtain ⟨rfl, rfl⟩ := hk
    exact hQ a' w' hst'
  | ret =>
    simp only [Option.some.injEq, Prod.mk.injEq] at hk
    obtain ⟨rfl, rfl⟩ := hk
    exact hQ a' w' hst'

/-- **Code**: what the mirror answers, the machine does. -/
theorem code_ok (hcall : ∀ f args r, call f args = some r → CallR C.P pm f args r) {n : Nat} {ios : List Nat} {ann : List (Nat × RegAnn)} (hn : X.n = n) (hio : ∀ p ∈ X.ios, p.1 ∈ ios) {k : Nat} :
    ∀ {c : Code} {ic : IC} {Q : Exit → Act → World → Prop} {e e' : Env} {x : Ex} {a : Act} {w : World}, prepC C.P n ios C.rt ann c = some ic → St C X e a w → denK call pm C.rt k ic e = some (x, e') → (∀ a' w', St C X e' a' w' → Q x.toExit a' w') → c.wp C.P Q a w := by
  intro c
  induction c with
  | skip =>
    intro ic Q e e' x a w hp h hd hQ
    simp only [prepC, Option.some.injEq] at hp
    subst hp
    simp only [denK, Option.some.injEq, Prod.mk.injEq] at hd
    obtain ⟨rfl, rfl⟩ := hd
    exact wp_skip (hQ _ _ h)
  | region id ops draw =>
    intro ic Q e e' x a w hp h hd hQ
    cases draw with
    | false =>
      simp only [prepC] at hp
      split at hp
      · rename_i hds
        obtain ⟨l, hl, rfl⟩ := Option.map_eq_some_iff.1 hp
        simp only [denK] at hd
        obtain ⟨e1, h1, heq⟩ := Option.map_eq_some_iff.1 hd
        simp only [Prod.mk.injEq] at heq
        obtain ⟨rfl, rfl⟩ := heq
        refine wp_region ?_
        have := wpOps_ok (Q := Q) (X := X) (C := C) hcall (dsts_ok hds hn hio) (l := ops.toList) (i := 0) (by simp) hl h h1 fun a' w' h' => hQ a' w' (h'.keep _)
        rw [List.range_eq_range']
        simpa using this
      · cases hp
    | true =>
      simp only [prepC] at hp
      split at hp
      · rename_i hc
        obtain ⟨hds, hm, hcl⟩ := hc
        obtain ⟨l, hl, hp⟩ := Option.bind_eq_some_iff.1 hp
        obtain ⟨xs, hxs, hp⟩ := Option.bind_eq_some_iff.1 hp
        split at hp
        · rename_i hc
          obtain ⟨hpr, hdr⟩ := hc
          simp only [Option.some.injEq] at hp
          subst hp
          simp only [denK] at hd
          obtain ⟨e1, h1, heq⟩ := Option.map_eq_some_iff.1 hd
          simp only [Prod.mk.injEq] at heq
          obtain ⟨rfl, rfl⟩ := heq
          obtain ⟨g1, g2⟩ := prepOs_get hl
          obtain ⟨z1, z2⟩ := zipD_get hxs
          refine wp_dr (md := (annOf ann id).md) hm hcall hcl hpr (by rw [z1, g1]; simp) (fun i o ho => ?_) h1 h fun a' w' h' => hQ a' w' (h'.keep _)
          obtain ⟨s, k1, k2⟩ := g2 i o (by simpa using ho)
          obtain ⟨x, k3, rfl⟩ := z2 i s k1
          rw [k3]
          simp only [Option.getD_some]
          refine ⟨by simpa using k2, dsts_ok hds hn hio o (by simpa using Array.mem_of_getElem? ho), List.all_eq_true.1 hdr x (List.mem_of_getElem? k3)⟩
        · cases hp
      · cases hp
  | seq c1 c2 ih1 ih2 =>
    intro ic Q e e' x a w hp h hd hQ
    simp only [prepC] at hp
    obtain ⟨i1, h1, hp⟩ := Option.bind_eq_some_iff.1 hp
    obtain ⟨i2, h2, rfl⟩ := Option.map_eq_some_iff.1 hp
    simp only [denK] at hd
    obtain ⟨⟨y, e1⟩, h3, hd⟩ := Option.bind_eq_some_iff.1 hd
    refine wp_seq (ih1 h1 h h3 fun a' w' h' => ?_)
    cases y with
    | nrm => simp only [Ex.toExit, Exit.then]; exact ih2 h2 h' hd hQ
    | exit id =>
      simp only [Option.some.injEq, Prod.mk.injEq] at hd
      obtain ⟨rfl, rfl⟩ := hd
      exact hQ a' w' h'
    | ret =>
      simp only [Option.some.injEq, Prod.mk.injEq] at hd
      obtain ⟨rfl, rfl⟩ := hd
      exact hQ a' w' h'
  | cond co c1 c2 ih1 ih2 =>
    intro ic Q e e' x a w hp h hd hQ
    simp only [prepC] at hp
    obtain ⟨q, hq, hp⟩ := Option.bind_eq_some_iff.1 hp
    obtain ⟨i1, h1, hp⟩ := Option.bind_eq_some_iff.1 hp
    obtain ⟨i2, h2, rfl⟩ := Option.map_eq_some_iff.1 hp
    simp only [denK] at hd
    obtain ⟨b, hb, hd⟩ := Option.bind_eq_some_iff.1 hd
    obtain ⟨hX, Fs, hr⟩ := h
    have hev : a.eval co = .bool b := by rw [eval_tmOf]; exact hr.toBool hq hb
    refine wp_cond hev ?_
    cases b with
    | true => exact ih1 h1 ⟨hX, Fs, hr⟩ (by simpa using hd) hQ
    | false => exact ih2 h2 ⟨hX, Fs, hr⟩ (by simpa using hd) hQ
  | block id c ih =>
    intro ic Q e e' x a w hp h hd hQ
    simp only [prepC] at hp
    obtain ⟨i1, h1, rfl⟩ := Option.map_eq_some_iff.1 hp
    simp only [denK] at hd
    obtain ⟨⟨y, e1⟩, h3, heq⟩ := Option.map_eq_some_iff.1 hd
    simp only [Prod.mk.injEq] at heq
    obtain ⟨rfl, rfl⟩ := heq
    refine wp_block (ih h1 h h3 fun a' w' h' => ?_)
    have := hQ a' w' h'
    cases y with
    | nrm => exact this
    | ret => exact this
    | exit j =>
      simp only [Ex.toExit, Exit.inBlock] at this ⊢
      by_cases hj : j = id
      · simp only [hj, if_true] at this ⊢; exact this
      · simp only [hj, if_false] at this ⊢; exact this
  | loop c ih =>
    intro ic Q e e' x a w hp h hd hQ
    simp only [prepC] at hp
    obtain ⟨i1, h1, rfl⟩ := Option.map_eq_some_iff.1 hp
    simp only [denK] at hd
    exact loop_ok (fun hst hf hQ' => ih h1 hst hf hQ') hQ h hd
  | exit id =>
    intro ic Q e e' x a w hp h hd hQ
    simp only [prepC, Option.some.injEq] at hp
    subst hp
    simp only [denK, Option.some.injEq, Prod.mk.injEq] at hd
    obtain ⟨rfl, rfl⟩ := hd
    exact wp_exit (hQ _ _ h)
  | ret =>
    intro ic Q e e' x a w hp h hd hQ
    simp only [prepC, Option.some.injEq] at hp
    subst hp
    simp only [denK, Option.some.injEq, Prod.mk.injEq] at hd
    obtain ⟨rfl, rfl⟩ := hd
    exact wp_ret (hQ _ _ h)
  | _ =>
    intro ic Q e e' x a w hp h hd hQ
    simp only [prepC, Option.some.injEq] at hp
    subst hp
    simp [denK] at hd

end
end Go.Mir

/- The mirror, part Ze: functions. -/
set_option linter.unusedVariables false
set_option linter.unusedSimpArgs false
namespace Go.Mir
open Go.RowKit

structure FAnn where
  pm : List PM := []
  rt : Views := []
  regs : List (Nat × RegAnn) := []

def iosOf : Nat → List PM → List Nat
  | _, [] => []
  | i, m :: ms => if m.isIo then i :: iosOf (i + 1) ms else iosOf (i + 1) ms

def prepR (P : Program) : ResultVar → Option IR
  | .tmp t => some (.tmp t)
  | .cell a t => if (P.underlying t).isSome then some (.cell a (isAggT P t) (P.cellsOf t)) else none

def prepRs (P : Program) : List ResultVar → Option (List IR)
  | [] => some []
  | r :: rs => (prepR P r).bind fun x => (prepRs P rs).map (x :: ·)

/-- A function, as the mirror's. -/
def prepF (P : Program) (A : FAnn) (fn : Func) : Option PFunc :=
  if (fn.name == "runtime.NumGoroutine") = false ∧ fn.params.size + fn.nfree ≤ fn.ntmps ∧ A.pm.length ≤ fn.params.size + fn.nfree then
    fn.body.bind fun c => (prepC P fn.ntmps (iosOf 0 A.pm) A.rt A.regs c).bind fun b => (prepRs P fn.results.toList).map fun rs =>
      { np := fn.params.size + fn.nfree, pm := A.pm, rt := A.rt, res := rs, body := b }
  else none

theorem run_loadVar {P : Program} {w : World} {t : TypeId} {ad : Addr} {x : Value} (h : (Instr.loadAt t (.pointer (some ad))).run P w = .ok x w) : (loadVar t ad).run P w = .ok x w := by
  simpa [Instr.loadAt, Instr.sureAddr] using h

section
variable {C : Ctx} {tm : Nat → Value} {w : World}

/-- One result, taken. -/
theorem Rel.resT {H : Nat → Prop} {e e' : Env} {Fs : Nat → Nat → Prop} (h : Rel C H e tm w Fs) {rv : ResultVar} {r : IR} (hr : prepR C.P rv = some r) {a : Bool} {cs : List V} (ht : resT C.rt e r = some ((a, cs), e')) :
    ∃ x F Fs', (match rv with | .tmp t => (pure (tm t) : Sem Value) | .cell t ty => (do loadVar ty (← asAddr (tm t)))).run C.P w = .ok x w ∧ Rel C (fun b => H b ∨ F b) e' tm w Fs' ∧ VS C.P w (okOf C.X (fun b => H b ∨ F b) Fs') a cs x F ∧ (∀ b, F b → ¬ H b) ∧ OkMono C H Fs (fun b => H b ∨ F b) Fs' := by
  cases rv with
  | tmp t =>
    simp only [prepR, Option.some.injEq] at hr
    subst hr
    simp only [Mir.resT] at ht
    obtain ⟨⟨a', cs', e1⟩, hv, heq⟩ := Option.map_eq_some_iff.1 ht
    simp only [Prod.mk.injEq] at heq
    obtain ⟨⟨rfl, rfl⟩, rfl⟩ := heq
    obtain ⟨F, Fs', g1, g2, g3, g4⟩ := h.vals (x := .tmp t) (ty := 0) rfl hv
    exact ⟨tm t, F, Fs', by simp, g1, g2, g3, g4⟩
  | cell t ty =>
    simp only [prepR] at hr
    split at hr
    · rename_i hu
      simp only [Option.some.injEq] at hr
      subst hr
      simp only [Mir.resT] at ht
      obtain ⟨pt, hpt, ht⟩ := Option.bind_eq_some_iff.1 ht
      have hp := h.ptr (x := .tmp t) (ty := 0) rfl hpt
      cases pt with
      | adr c =>
        simp only at ht hp
        obtain ⟨tt, htt, ht⟩ := Option.bind_eq_some_iff.1 ht
        obtain ⟨ad, us, hx, hsp, hl, hc, h1, rfl, ho⟩ := VS.ofAdr (P := C.P) hp htt
        simp only [Option.some.injEq, Prod.mk.injEq] at ht
        obtain ⟨⟨rfl, rfl⟩, rfl⟩ := ht
        obtain ⟨x, g1, g2, g3⟩ := run_loadAt (w := w) hu hsp hl hc (h1.imp id fun h => hl.trans h)
        obtain ⟨k1, k2⟩ := h.noH (G := No) fun _ h => h
        simp only [ev] at hx
        exact ⟨x, No, Fs, by simp [hx, asAddr, run_loadVar g1], k1, VS.okMono (vs_of_cells ho g2 g3) k2, fun _ h => h.elim, k2⟩
      | at_ r k p =>
        simp only at ht hp
        obtain ⟨ad, hx, hpl⟩ := hp
        split at ht
        · rename_i h1
          obtain ⟨⟨cs', e1⟩, htk, heq⟩ := Option.map_eq_some_iff.1 ht
          simp only [Prod.mk.injEq] at heq
          obtain ⟨⟨rfl, rfl⟩, rfl⟩ := heq
          obtain ⟨us, F, Fs', g1, g2, g3, g4, g5, g6⟩ := h.takeAt hpl htk
          obtain ⟨x, k1, k2, k3⟩ := run_loadAt (w := w) hu hpl.spot g1 (fun j u hj => by simpa using g2 j u hj) (h1.imp id fun h => g1.trans h)
          simp only [ev] at hx
          exact ⟨x, F, Fs', by simp [hx, asAddr, run_loadVar k1], g3, vs_of_cells g4 k2 k3, g5, g6⟩
        · cases ht
    · cases hr

/-- All results, taken. -/
theorem Rel.ress : ∀ {rvs : List ResultVar} {rs : List IR} {H : Nat → Prop} {e e' : Env} {Fs : Nat → Nat → Prop} {ts : List (Bool × List V)}, Rel C H e tm w Fs → prepRs C.P rvs = some rs → Mir.ress C.rt e rs = some (ts, e') →
    ∃ (xs : List Value) (Fr : Nat → Nat → Prop) (Fs' : Nat → Nat → Prop), (rvs.mapM fun (rv : ResultVar) => (match rv with | .tmp t => (pure (tm t) : Sem Value) | .cell t ty => (do loadVar ty (← asAddr (tm t))))).run C.P w = .ok xs w ∧ ts.length = xs.length ∧
      Rel C (fun b => H b ∨ ∃ j, j < ts.length ∧ Fr j b) e' tm w Fs' ∧ (∀ (j : Nat) (c : Bool × List V) (x : Value), ts[j]? = some c → xs[j]? = some x → VS C.P w (okOf C.X (fun b => H b ∨ ∃ j, j < ts.length ∧ Fr j b) Fs') c.1 c.2 x (Fr j)) ∧
      (∀ i j b, i < ts.length → j < ts.length → i ≠ j → Fr i b → ¬ Fr j b) ∧ (∀ j b, j < ts.length → Fr j b → ¬ H b) ∧ OkMono C H Fs (fun b => H b ∨ ∃ j, j < ts.length ∧ Fr j b) Fs'
  | [], rs, H, e, e', Fs, ts, h, hp, hr => by
    simp [prepRs] at hp
    subst hp
    simp [Mir.ress] at hr
    obtain ⟨rfl, rfl⟩ := hr
    refine ⟨[], fun _ => No, Fs, by simp, rfl, h.letGo fun b hb => hb.elim id fun ⟨_, hj, _⟩ => by simp at hj, by simp, by simp, by simp, fun b hb => ⟨hb.1, fun hh => hh.elim hb.2.1 fun ⟨_, hj, _⟩ => by simp at hj, hb.2.2⟩⟩
  | rv :: rvs, rs0, H, e, e', Fs, ts, h, hp, hr => by
    simp only [prepRs] at hp
    obtain ⟨r, hr1, hp⟩ := Option.bind_eq_some_iff.1 hp
    obtain ⟨rs, hrs, rfl⟩ := Option.map_eq_some_iff.1 hp
    simp only [Mir.ress] at hr
    obtain ⟨⟨⟨a, cs⟩, e1⟩, h1, hr⟩ := Option.bind_eq_some_iff.1 hr
    obtain ⟨⟨ts', e2⟩, h2, heq⟩ := Option.map_eq_some_iff.1 hr
    simp only [Prod.mk.injEq] at heq
    obtain ⟨rfl, rfl⟩ := heq
    obtain ⟨x, F, Fs1, g1, g2, g3, g4, g5⟩ := h.resT hr1 h1
    obtain ⟨xs, Fr, Fs2, k1, k2, k3, k4, k5, k6, k7⟩ := Rel.ress g2 hrs h2
    have hH : ∀ b, (H b ∨ ∃ j, j < ((a, cs) :: ts').length ∧ (match j with | 0 => F | j + 1 => Fr j) b) ↔ ((H b ∨ F b) ∨ ∃ j, j < ts'.length ∧ Fr j b) := by
      intro b
      constructor
      · rintro (hb | ⟨j, hj, hb⟩)
        · exact .inl (.inl hb)
        · cases j with
          | zero => exact .inl (.inr hb)
          | succ j => exact .inr ⟨j, by simpa using hj, hb⟩
      · rintro ((hb | hb) | ⟨j, hj, hb⟩)
        · exact .inl hb
        · exact .inr ⟨0, by simp, hb⟩
        · exact .inr ⟨j + 1, by simpa using hj, hb⟩
    have hok : ∀ b, okOf C.X (fun b => (H b ∨ F b) ∨ ∃ j, j < ts'.length ∧ Fr j b) Fs2 b → okOf C.X (fun b => H b ∨ ∃ j, j < ((a, cs) :: ts').length ∧ (match j with | 0 => F | j + 1 => Fr j) b) Fs2 b := fun b hb => ⟨hb.1, fun hh => hb.2.1 ((hH b).1 hh), hb.2.2⟩
    refine ⟨x :: xs, fun j => match j with | 0 => F | j + 1 => Fr j, Fs2, ?_, by simp [k2], k3.ext hH, fun j c y hc hy => ?_, fun i j b hi hj hij h1 h2 => ?_, fun j b hj hb => ?_, fun b hb => hok b (k7 b (g5 b hb))⟩
    · rw [List.mapM_cons]
      simp only [Sem.run_bind, g1, Sem.run_pure, Result.andThen, k1]
    · cases j with
      | zero =>
        simp at hc hy
        subst hc; subst hy
        exact VS.okMono g3 fun b hb => hok b (k7 b hb)
      | succ j => exact VS.okMono (k4 j c y (by simpa using hc) (by simpa using hy)) hok
    · cases i with
      | zero =>
        cases j with
        | zero => exact hij rfl
        | succ j => exact k6 j b (by simpa using hj) h2 (.inr h1)
      | succ i =>
        cases j with
        | zero => exact k6 i b (by simpa using hi) h1 (.inr h2)
        | succ j => exact k5 i j b (by simpa using hi) (by simpa using hj) (by omega) h1 h2
    · cases j with
      | zero => exact g4 b hb
      | succ j => exact fun hh => k6 j b (by simpa using hj) hb (.inl hh)

end
end Go.Mir

/- The mirror, part Zf: calls of functions by their bodies. -/
set_option linter.unusedVariables false
set_option linter.unusedSimpArgs false
namespace Go.Mir
open Go.RowKit

section
variable {C : Ctx} {tm : Nat → Value} {w : World}

theorem Rel.lent : ∀ {ms : List PM} {us : List Value} {i : Nat} {H : Nat → Prop} {e e' : Env} {Fs : Nat → Nat → Prop} {vs : List V}, Rel C H e tm w Fs → ms.length ≤ us.length → (∀ (j : Nat) (m : PM), ms[j]? = some m → m.isIo = true → us[j]? = some (tm (i + j))) →
    (Mir.lent C.rt i ms e).map (·.1) = some vs → ∃ (F : Nat → Prop) (e' : Env) (Fs' : Nat → Nat → Prop), Rel C (fun b => H b ∨ F b) e' tm w Fs' ∧ OwnL C.P w (okOf C.X (fun b => H b ∨ F b) Fs') vs (ioVals ms us) F ∧ (∀ b, F b → ¬ H b) ∧ OkMono C H Fs (fun b => H b ∨ F b) Fs'
  | [], us, i, H, e, e', Fs, vs, h, hl, hu, ht => by
    simp [Mir.lent] at ht
    subst ht
    obtain ⟨k1, k2⟩ := h.noH (G := No) fun _ h => h
    exact ⟨No, e, Fs, k1, by cases us <;> exact OwnL.nil, fun _ h => h.elim, k2⟩
  | m :: ms, [], i, H, e, e', Fs, vs, h, hl, hu, ht => by simp at hl
  | m :: ms, u :: us, i, H, e, e', Fs, vs, h, hl, hu, ht => by
    have hu' : ∀ (j : Nat) (m : PM), ms[j]? = some m → m.isIo = true → us[j]? = some (tm (i + 1 + j)) := fun j m hm hi => by
      have := hu (j + 1) m (by simpa using hm) hi
      rw [show i + 1 + j = i + (j + 1) by omega]; simpa using this
    have hno : m.isIo = false → Mir.lent C.rt i (m :: ms) e = Mir.lent C.rt (i + 1) ms e := fun hm => by cases m <;> simp_all [Mir.lent, PM.isIo]
    cases hm : m.isIo with
    | false =>
      rw [hno hm] at ht
      simp only [ioVals, hm, Bool.false_eq_true, if_false]
      exact Rel.lent (e' := e') h (by simpa using hl) hu' ht
    | true =>
      obtain rfl : m = .io := by cases m <;> simp [PM.isIo] at hm ⊢
      have h0 : u = tm i := by have := hu 0 .io rfl rfl; simpa using this
      simp only [ioVals, hm, if_true]
      simp only [Mir.lent] at ht
      split at ht
      · rename_i v0 heq
        obtain ⟨⟨vs2, e2⟩, ht2, hvs⟩ := Option.map_eq_some_iff.1 ht
        obtain ⟨⟨v, e1⟩, h1, ht3⟩ := Option.bind_eq_some_iff.1 ht2
        obtain ⟨⟨vs', e3⟩, h2, heq2⟩ := Option.map_eq_some_iff.1 ht3
        simp only [Prod.mk.injEq] at heq2
        obtain ⟨rfl, rfl⟩ := heq2
        simp only at hvs
        subst hvs
        have hpv : PlV w e tm i 0 [] (tm i) := ⟨false, _, _, tm i, heq, rfl, by simp [Mir.cellsOf], by simp [V.get_nil], rfl⟩
        obtain ⟨F1, Fs1, g1, g2, g3, g4, _⟩ := h.takeRef hpv h1
        obtain ⟨F2, e4, Fs2, k1, k2, k3, k4⟩ := Rel.lent (e' := e') g1 (us := us) (vs := vs') (by simpa using hl) hu' (by simp only at h2; rw [h2]; rfl)
        have hH : ∀ b, (H b ∨ F1 b ∨ F2 b) ↔ ((H b ∨ F1 b) ∨ F2 b) := fun b => or_assoc.symm
        have hok : ∀ b, okOf C.X (fun b => (H b ∨ F1 b) ∨ F2 b) Fs2 b → okOf C.X (fun b => H b ∨ F1 b ∨ F2 b) Fs2 b := fun b hb => ⟨hb.1, fun hh => hb.2.1 ((hH b).1 hh), hb.2.2⟩
        refine ⟨fun b => F1 b ∨ F2 b, e4, Fs2, k1.ext hH, ?_, fun b hb => hb.elim (g3 b) fun h2 hh => k3 b h2 (.inl hh), fun b hb => hok b (k4 b (g4 b hb))⟩
        rw [h0]
        exact OwnL.cons (g2.frame (fun _ _ => rfl) fun b hb _ => ⟨hok b (k4 b hb), rfl⟩) (k2.frame (fun _ _ => rfl) fun b hb _ => ⟨hok b hb, rfl⟩) fun b h1 h2 => k3 b h2 (.inr h1)
      · simp at ht

end

theorem TRe.noRoots {P : Program} {w : World} {ok : Nat → Prop} {t : T} {u : Value} {F : Nat → Prop} (h : TRe P w ok t u F) : t.roots = [] := by
  have hno : ∀ {r k : Nat} {p : Pt} {ad : Addr}, ¬ PlA w [] (fun _ => undef) r k p ad := fun ⟨_, _, _, _, g, _⟩ => by simp [Env.get] at g
  cases t with
  | at_ r k p => obtain ⟨_, ad, _, h⟩ := h; exact (hno h).elim
  | ref r k p => obtain ⟨_, _, _, _, _, g, _⟩ := h; simp [Env.get] at g
  | refs r k p n =>
    obtain ⟨_, hn, arr, _, hs, h⟩ := h
    obtain ⟨q, _, _, _, _, _, g, _⟩ := h 0 _ (Array.getElem?_eq_getElem (by omega))
    simp [Env.get] at g
  | fn f caps =>
    obtain ⟨_, vs, _, hl, h⟩ := h
    simp only [T.roots]
    have : ∀ (caps : List T) (vs : List Value), caps.length = vs.length → (∀ (j : Nat) (t : T) (u : Value), caps[j]? = some t → vs[j]? = some u → CapR P w ok [] (fun _ => undef) t u) → T.roots.rootsL caps = [] := by
      intro caps
      induction caps with
      | nil => intro vs _ _; rfl
      | cons c caps ih =>
        intro vs hl h
        cases vs with
        | nil => simp at hl
        | cons v vs =>
          have h0 := h 0 c v rfl rfl
          have hc : c.roots = [] := by
            cases c with
            | at_ r k p => obtain ⟨ad, _, g⟩ := h0; exact (hno g).elim
            | vs a cs => rfl
            | adr c => rfl
            | _ => exact h0.elim
          simp only [T.roots.rootsL, hc, List.nil_append]
          exact ih vs (by simpa using hl) fun j t u ht hu => h (j + 1) t u (by simpa using ht) (by simpa using hu)
    exact this caps vs hl h
  | _ => rfl

theorem TRe.inEnv {P : Program} {w : World} {ok ok' : Nat → Prop} {e : Env} {tm : Nat → Value} {t : T} {u : Value} {F : Nat → Prop} (h : TRe P w ok t u F) (hok : ∀ b, ok b → ok' b) : TR P w ok' e tm t u F := by
  have hr := TRe.noRoots h
  refine TR.change h (fun _ _ => rfl) (fun b hb _ => ⟨hok b hb, rfl⟩) (fun r k p ad hm _ _ => by rw [hr] at hm; cases hm) (fun r k p x hm _ _ => by rw [hr] at hm; cases hm)

theorem Env.get_enter : ∀ (args : List T) (i t : Nat), (Env.enter i args).get t = if i ≤ t then (args[t - i]?).getD .dead else .dead
  | [], i, t => by simp [Env.enter, Env.get]
  | a :: args, i, t => by
    simp only [Env.enter, Env.get]
    by_cases h : i = t
    · subst h; simp
    · rw [if_neg h, Env.get_enter args (i + 1) t]
      by_cases h2 : i + 1 ≤ t
      · rw [if_pos h2, if_pos (by omega)]
        obtain ⟨d, hd⟩ : ∃ d, t - i = d + 1 := ⟨t - i - 1, by omega⟩
        rw [hd, show t - (i + 1) = d by omega]; simp
      · rw [if_neg h2, if_neg (by omega)]

theorem iosOf_mem : ∀ {ms : List PM} {i : Nat} {j : Nat} {m : PM}, ms[j]? = some m → m.isIo = true → i + j ∈ iosOf i ms
  | [], i, j, m, h, _ => by simp at h
  | m0 :: ms, i, j, m, h, hm => by
    cases j with
    | zero => simp at h; subst h; simp [iosOf, hm]
    | succ j =>
      have := iosOf_mem (i := i + 1) (show ms[j]? = some m by simpa using h) hm
      simp only [iosOf]
      rw [show i + (j + 1) = i + 1 + j by omega]
      split
      · exact List.mem_cons_of_mem _ this
      · exact this

theorem results_run {P : Program} {fn : Func} {tmps : Array Value} {w : World} {xs : List Value}
    (h : (fn.results.toList.mapM fun (rv : ResultVar) => (match rv with | .tmp t => (pure (tmps.getD t undef) : Sem Value) | .cell t ty => (do loadVar ty (← asAddr (tmps.getD t undef))))).run P w = .ok xs w) :
    (results fn tmps).run P w = .ok (if h : xs.length = 1 then xs[0] else .tuple xs.toArray) w := by
  unfold results
  rw [Array.mapM_eq_mapM_toList]
  simp only [Sem.run_bind, map_eq_pure_bind, bind_assoc, pure_bind]
  refine (congrArg (fun r => Result.andThen r _) (show _ = Result.ok xs w from h)).trans ?_
  simp [Result.andThen]

theorem mkRes_isVal (ts : List (Bool × List V)) : (mkRes ts).isVal = true := by
  unfold mkRes; split <;> rfl

/-- **A function by its body**: what the mirror answers, the machine does. -/
theorem body_ok {P : Program} {pm : FuncId → List PM} {call : FuncId → List T → Option Res} (hcall : ∀ f args r, call f args = some r → CallR P pm f args r) {f : FuncId} {fn : Func} {A : FAnn} {pf : PFunc} (hf : P.funcs[f]? = some fn)
    (hp : prepF P A fn = some pf) (hpm : pm f = pf.pm) {k : Nat} {args : List T} {r : Res} (hb : bodyK call pm k pf args = some r) : CallR P pm f args r := by
  unfold prepF at hp
  split at hp
  case isFalse => cases hp
  case isTrue hc =>
    obtain ⟨hname, hnp, hpml⟩ := hc
    obtain ⟨c, hbody, hp⟩ := Option.bind_eq_some_iff.1 hp
    obtain ⟨b, hpc, hp⟩ := Option.bind_eq_some_iff.1 hp
    obtain ⟨rs, hrs, rfl⟩ := Option.map_eq_some_iff.1 hp
    unfold bodyK at hb
    split at hb
    case isFalse => cases hb
    case isTrue hlen =>
      obtain ⟨⟨x, e'⟩, hd, hx⟩ := Option.bind_eq_some_iff.1 hb
      simp only at hd hx hlen hpm
      have hx' : (Mir.ress A.rt e' rs).bind (fun (ts, e1) => (Mir.lent A.rt 0 A.pm e1).map fun (vs, _) => (mkRes ts, vs)) = some r ∧ (x.toExit = .normal ∨ x.toExit = .ret) := by
        cases x with
        | exit id => simp [exitOf] at hx
        | nrm => exact ⟨hx, .inl rfl⟩
        | ret => exact ⟨hx, .inr rfl⟩
      clear hx
      obtain ⟨hx, hex⟩ := hx'
      obtain ⟨⟨ts, e1⟩, hrr, hx⟩ := Option.bind_eq_some_iff.1 hx
      obtain ⟨⟨vs, e2⟩, hl, rfl⟩ := Option.map_eq_some_iff.1 hx
      clear hx
      refine ⟨⟨fn, hf, hname, by rw [hbody]; rfl⟩, ?_, ?_⟩
      · exact mkRes_isVal ts
      · intro X w us Fa hX hul hargs hdis hFX
        let C : Ctx := { P := P, X := X, w0 := w, F0 := fun b => ∃ j, j < args.length ∧ Fa j b, rt := A.rt, hX := hX }
        let a0 : Act := { tmps := us.toArray ++ Array.replicate (fn.ntmps - us.toArray.size) undef, defers := [] }
        let Fx : Fix := ⟨fn.ntmps, (iosOf 0 A.pm).map fun i => (i, tmOf a0 i)⟩
        have hun : us.length ≤ fn.ntmps := by omega
        have htm : ∀ t u, us[t]? = some u → tmOf a0 t = u := fun t u hu => by
          have : t < us.length := (List.getElem?_eq_some_iff.1 hu).1
          have h2 := (List.getElem?_eq_some_iff.1 hu).2
          simp only [tmOf, a0, Array.getD_eq_getD_getElem?]
          rw [Array.getElem?_append_left (by simpa using this)]
          simp [hu]
        have hst0 : St C Fx (Env.enter 0 args) a0 w := by
          refine ⟨⟨by simp [a0, Fx]; omega, rfl, fun p hp => by obtain ⟨i, _, rfl⟩ := List.mem_map.1 hp; rfl⟩, fun t b => t < args.length ∧ Fa t b, ?_⟩
          have hok : ∀ b, (¬ X b ∧ ∀ j, j < args.length → ¬ Fa j b) → okOf C.X No (fun t b => t < args.length ∧ Fa t b) b := fun b hb => ⟨hb.1, fun h => h, fun t ht => hb.2 t ht.1 ht.2⟩
          refine ⟨fun t => ?_, fun t t' b hne h1 h2 => hdis t t' b h1.1 h2.1 hne h1.2 h2.2, fun t b hb => ⟨hFX t b hb.1 hb.2, fun h => h⟩, fun u r hr => ?_, Grow.refl _ _, fun t b hb => .inl ⟨t, hb⟩, fun b hb => hb.elim⟩
          · rw [Env.get_enter]
            simp only [Nat.zero_le, if_true, Nat.sub_zero]
            cases ha : args[t]? with
            | none =>
              have : args.length ≤ t := List.getElem?_eq_none_iff.1 ha
              exact fun b hb => by have := hb.1; omega
            | some y =>
              have hlt := (List.getElem?_eq_some_iff.1 ha).1
              have hu := List.getElem?_eq_getElem (show t < us.length by omega)
              simp only [Option.getD_some]
              rw [htm t _ hu]
              exact TR.ext (TRe.inEnv (hargs t y _ ha hu) hok) fun b => ⟨fun h => h.2, fun h => ⟨hlt, h⟩⟩
          · rw [Env.get_enter] at hr
            simp only [Nat.zero_le, if_true, Nat.sub_zero] at hr
            cases ha : args[u]? with
            | none => rw [ha] at hr; simp [T.roots] at hr
            | some y =>
              have hlt := (List.getElem?_eq_some_iff.1 ha).1
              have hu := List.getElem?_eq_getElem (show u < us.length by omega)
              rw [ha] at hr
              simp only [Option.getD_some] at hr
              rw [TRe.noRoots (hargs u y _ ha hu)] at hr
              cases hr
        refine calls_of_wp hf hbody ?_
        refine code_ok (C := C) (X := Fx) (n := fn.ntmps) (ios := iosOf 0 A.pm) (ann := A.regs) (k := k) hcall rfl (fun p hp => by obtain ⟨i, hi, rfl⟩ := List.mem_map.1 hp; exact hi) hpc hst0 hd fun a' w' ⟨⟨hsz, hdf, hfx⟩, Fs, hr⟩ => ?_
        obtain ⟨xs, Fr, Fs1, r1, r2, r3, r4, r5, r6, r7⟩ := hr.ress hrs hrr
        have hios : ∀ (j : Nat) (m : PM), A.pm[j]? = some m → m.isIo = true → us[j]? = some (tmOf a' (0 + j)) := fun j m hm hi => by
          have h1 := hfx (0 + j, tmOf a0 (0 + j)) (List.mem_map.2 ⟨0 + j, iosOf_mem hm hi, rfl⟩)
          simp only at h1
          have hju := List.getElem?_eq_getElem (show j < us.length by have := (List.getElem?_eq_some_iff.1 hm).1; omega)
          rw [h1, Nat.zero_add, htm j _ hju]; exact hju
        obtain ⟨Fo, e3, Fs2, l1, l2, l3, l4⟩ := Rel.lent (e' := e1) (us := us) r3 (by omega) hios (by rw [hl]; rfl)
        have hres := results_run (tmps := a'.tmps) r1
        have hbp : (results fn a'.tmps).run P w' = .ok (if h : xs.length = 1 then xs[0] else .tuple xs.toArray) w' ∧ _ := ⟨hres, trivial⟩
        have post : ∃ v, (results fn a'.tmps).run P w' = .ok v w' ∧ ∃ v', Ending.returned v = .returned v' ∧ Grow (fun b => ∃ j, j < args.length ∧ Fa j b) w w' ∧ ∃ Fr Fo : Nat → Prop,
            TRe P w' (fun b => ¬ X b ∧ ¬ Fr b ∧ ¬ Fo b) (mkRes ts) v' Fr ∧ OwnL P w' (fun b => ¬ X b ∧ ¬ Fr b ∧ ¬ Fo b) vs (ioVals (pm f) us) Fo ∧ (∀ b, Fr b → ¬ Fo b) ∧
              ∀ b, Fr b ∨ Fo b → ¬ X b ∧ ((∃ j, j < args.length ∧ Fa j b) ∨ w.heap.size ≤ b) := by
          refine ⟨_, hres, _, rfl, hr.gr, fun b => ∃ j, j < ts.length ∧ Fr j b, Fo, ?_, ?_, fun b hb ho => l3 b ho (.inr hb), fun b hb => ?_⟩
          · have hok : ∀ b, okOf C.X (fun b => (No b ∨ ∃ j, j < ts.length ∧ Fr j b) ∨ Fo b) Fs2 b → (¬ X b ∧ ¬ (∃ j, j < ts.length ∧ Fr j b) ∧ ¬ Fo b) := fun b hb => ⟨hb.1, fun h => hb.2.1 (.inl (.inr h)), fun h => hb.2.1 (.inr h)⟩
            unfold mkRes
            split
            · rename_i ag cs
              have h1 : xs.length = 1 := by rw [← r2]; rfl
              rw [dif_pos h1]
              have h0 := List.getElem?_eq_getElem (show 0 < xs.length by omega)
              refine VS.ext (VS.okMono (r4 0 (ag, cs) _ rfl h0) fun b hb => hok b (l4 b hb)) fun b => ⟨fun ⟨j, hj, hb⟩ => ?_, fun hb => ⟨0, by simp, hb⟩⟩
              have : j = 0 := by simpa using hj
              subst this; exact hb
            · rename_i hne
              have h1 : ¬ xs.length = 1 := fun h1 => by
                rw [← r2] at h1
                match ts, h1 with
                | [(a, cs)], _ => exact hne a cs rfl
              rw [dif_neg h1]
              exact ⟨xs, rfl, r2, Fr, fun j c y hc hy => VS.okMono (r4 j c y hc hy) fun b hb => hok b (l4 b hb), r5, fun b => Iff.rfl⟩
          · rw [hpm]
            exact l2.frame (fun _ _ => rfl) fun b hb _ => ⟨⟨hb.1, fun h => hb.2.1 (.inl (.inr h)), fun h => hb.2.1 (.inr h)⟩, rfl⟩
          · have := l1.hn b (hb.elim (fun h => .inl (.inr h)) .inr)
            exact ⟨this.1, this.2.1⟩
        rcases hex with hex | hex
        · rw [hex]; exact ⟨hdf, post⟩
        · rw [hex]; exact ⟨hdf, post⟩

/-- A program of the mirror's, told of the machine's. -/
structure Sound (P : Program) (G : Prog) : Prop where
  fns : ∀ f pf, G.fn f = some pf → ∃ fn A, P.funcs[f]? = some fn ∧ prepF P A fn = some pf
  given : ∀ f g, G.given f = some g → ∀ args r, g.2 args = some r → CallR P G.pm f args r

/-- **THE MIRROR**: what it answers, the machine does. -/
theorem call_ok {P : Program} {G : Prog} (hG : Sound P G) : ∀ {k : Nat} {f : FuncId} {args : List T} {r : Res}, callK G k f args = some r → CallR P G.pm f args r
  | 0, f, args, r, h => by cases h
  | k + 1, f, args, r, h => by
    simp only [callK] at h
    split at h
    · rename_i g hg
      exact hG.given f g hg args r h
    · rename_i hg
      obtain ⟨pf, hpf, h⟩ := Option.bind_eq_some_iff.1 h
      obtain ⟨fn, A, hf, hp⟩ := hG.fns f pf hpf
      exact body_ok (fun f args r h => call_ok hG h) hf hp (by simp [Prog.pm, hg, hpf]) h

end Go.Mir
