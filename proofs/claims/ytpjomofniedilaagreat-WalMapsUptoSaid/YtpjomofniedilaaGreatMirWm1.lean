/- The law WalMaps holds: a map with records one by one is that with all of them, with what was written last, or without what is gone, for inputs up to the stated size. Part 1 of its proof. -/
import Derived.Test.YtpjomofniedilaaGreatMirWm0
import Derived.Deep.AppendSrc
import Derived.Lib.ConvBytes
import Derived.Laws.BytesArg
import Derived.Orders
set_option linter.unusedVariables false
set_option linter.unusedSimpArgs false
namespace Go.Mir
open Go.RowKit
section
variable {C : Ctx} {e e' : Env} {tm : Nat → Value} {w : World} {Fs : Nat → Nat → Prop} {o : Oper} {call : FuncId → List T → Option Res} {pm : FuncId → List PM}
theorem ok_un (h : Rel C No e tm w Fs) {t t1 : TypeId} {op : UnOp} {x : Operand} {q : Opd} (hop : o.op = .unOp op t x) (hq : Mir.opd C.P t1 x = some q) (hi : ioI call pm C.rt e o.dst (.un op q) = some e') : Done C o e' tm w := by
  simp only [ioI] at hi
  obtain ⟨v, hv, hput⟩ := Option.bind_eq_some_iff.1 hi
  obtain ⟨F, tx, _⟩ := h.opd hq
  unfold un at hv
  split at hv
  · rename_i k n heq
    cases hv
    rw [heq] at tx
    obtain ⟨hx, _⟩ := VS.sc tx
    obtain ⟨Fs', h'⟩ := h.putSc hput rfl
    exact done_mk (by simp [execOp, hop, hx, Op.unary, Op.intArith]) h'
  · rename_i b heq
    cases hv
    rw [heq] at tx
    obtain ⟨hx, _⟩ := VS.sc tx
    obtain ⟨Fs', h'⟩ := h.putSc hput rfl
    exact done_mk (by simp [execOp, hop, hx, Op.unary]) h'
  · cases hv
theorem ok_conv (h : Rel C No e tm w Fs) {src dst t1 : TypeId} {k k0 : IntKind} {x : Operand} {q : Opd} (hop : o.op = .convert src dst x) (hs : C.P.underlying src = some (.int k0)) (hd : C.P.underlying dst = some (.int k)) (hq : Mir.opd C.P t1 x = some q)
    (hi : ioI call pm C.rt e o.dst (.conv k q) = some e') : Done C o e' tm w := by
  simp only [ioI] at hi
  obtain ⟨⟨k1, n⟩, hn, hput⟩ := Option.bind_eq_some_iff.1 hi
  have hx := h.toInt hq hn
  obtain ⟨Fs', h'⟩ := h.putSc hput rfl
  exact done_mk (by simp [execOp, hop, hx, convert, run_underlying hs, run_underlying hd, Conv.intToInt]) h'
theorem ok_same (h : Rel C No e tm w Fs) {src dst t1 : TypeId} {x : Operand} {q : Opd} (hop : o.op = .convert src dst x) (hs : C.P.underlying src = some .string) (hd : C.P.underlying dst = some .string) (hq : Mir.opd C.P t1 x = some q)
    (hi : ioI call pm C.rt e o.dst (.same q) = some e') : Done C o e' tm w := by
  simp only [ioI] at hi
  obtain ⟨s, hn, hput⟩ := Option.bind_eq_some_iff.1 hi
  have hx := h.toStr hq hn
  obtain ⟨Fs', h'⟩ := h.putSc hput rfl
  exact done_mk (by simp [execOp, hop, hx, convert, run_underlying hs, run_underlying hd]) h'
theorem ok_indexS (h : Rel C No e tm w Fs) {t t1 t2 : TypeId} {x i : Operand} {qx qi : Opd} (hop : o.op = .index t x i) (hu : C.P.underlying t = some .string) (hx : Mir.opd C.P t1 x = some qx) (hy : Mir.opd C.P t2 i = some qi)
    (hi : ioI call pm C.rt e o.dst (.indexS qx qi) = some e') : Done C o e' tm w := by
  simp only [ioI] at hi
  obtain ⟨⟨k, n⟩, hn, hi⟩ := Option.bind_eq_some_iff.1 hi
  obtain ⟨s, hs, hi⟩ := Option.bind_eq_some_iff.1 hi
  simp only at hi
  split at hi
  · rename_i h0
    obtain ⟨b, hb, hput⟩ := Option.bind_eq_some_iff.1 hi
    have hxv := h.toStr hx hs
    have hiv := h.toInt hy hn
    obtain ⟨Fs', h'⟩ := h.putSc hput rfl
    exact done_mk (by simp [execOp, hop, hxv, hiv, Instr.index, asIntOf, run_underlying hu, h0, hb]) h'
  · cases hi
theorem opds_all {P : Program} : ∀ {tys : List TypeId} {os : List Operand} {qs : List Opd}, opds P tys os = some qs → All2 (fun (a : Operand) (b : Opd) => ∃ ty, Mir.opd P ty a = some b) os qs
  | _, [], qs, h => by simp [opds] at h; subst h; exact .nil
  | [], o :: os, qs, h => by
    simp only [opds] at h
    obtain ⟨x, hx, h⟩ := Option.bind_eq_some_iff.1 h
    obtain ⟨xs, hxs, rfl⟩ := Option.map_eq_some_iff.1 h
    exact .cons ⟨_, hx⟩ (opds_all hxs)
  | t :: ts, o :: os, qs, h => by
    simp only [opds] at h
    obtain ⟨x, hx, h⟩ := Option.bind_eq_some_iff.1 h
    obtain ⟨xs, hxs, rfl⟩ := Option.map_eq_some_iff.1 h
    exact .cons ⟨_, hx⟩ (opds_all hxs)
theorem Rel.caps (h : Rel C No e tm w Fs) : ∀ {os : List Operand} {qs : List Opd} {ts : List T}, All2 (fun (a : Operand) (b : Opd) => ∃ ty, Mir.opd C.P ty a = some b) os qs → e.caps qs = some ts →
    ts.length = os.length ∧ ∀ (j : Nat) (t : T) (u : Value), ts[j]? = some t → (os.map (ev tm))[j]? = some u → CapR C.P w (okOf C.X No Fs) e tm t u
  | [], _, ts, .nil, hc => by simp [Env.caps] at hc; subst hc; simp
  | o :: os, _, ts, .cons (b := q) (bs := qs) ⟨ty, hq⟩ hr, hc => by
    simp only [Env.caps] at hc
    obtain ⟨t, ht, hc⟩ := Option.bind_eq_some_iff.1 hc
    split at hc
    · rename_i hok
      obtain ⟨ts', hts, rfl⟩ := Option.map_eq_some_iff.1 hc
      obtain ⟨hl, hall⟩ := Rel.caps h hr hts
      refine ⟨by simp [hl], fun j t' u hj hu => ?_⟩
      cases j with
      | zero =>
        simp at hj hu; subst hj; subst hu
        have := h.cp hq ht
        cases t with
        | vs a cs => exact ⟨hok, this⟩
        | at_ r k p => exact this.2
        | adr c => exact this.2
        | _ => simp [T.capOk] at hok
      | succ j => exact hall j t' u (by simpa using hj) (by simpa using hu)
    · cases hc
theorem ok_mkfn (h : Rel C No e tm w Fs) {f : FuncId} {caps : Array Operand} {qs : List Opd} {tys : List TypeId} {first : Array Operand} (hop : o.op = .makeFunc (.func f) first caps) (hf : first = #[]) (hq : opds C.P tys caps.toList = some qs)
    (hi : ioI call pm C.rt e o.dst (.mkfn f qs) = some e') : Done C o e' tm w := by
  simp only [ioI] at hi
  obtain ⟨ts, hts, hput⟩ := Option.bind_eq_some_iff.1 hi
  obtain ⟨hl, hall⟩ := h.caps (opds_all hq) hts
  subst hf
  obtain ⟨Fs', h'⟩ := h.put (F := No) (x := .func (.func f) #[] (caps.toList.map (ev tm)).toArray) hput ⟨fun _ h => h, _, rfl, by simpa using hl, hall⟩ fun b hb => hb
  refine done_mk (v := .func (.func f) #[] (caps.toList.map (ev tm)).toArray) (w' := w) ?_ (h'.letGo (H' := No) fun b hb => hb.elim)
  simp [execOp, hop, Instr.makeFunc]
  apply Array.toList_inj.1
  simp
theorem adrOf_snoc {w : World} {s : Nat × Nat} : ∀ {p : Pt} {v y : V} {u x : Value} {g : Nat}, valOf w v u p = some x → v.get p = some y → hdBlk x = some g → adrOf w v u (p ++ [s]) = some ⟨g, y.idx s, none⟩
  | [], v, y, u, x, g, h1, h2, h3 => by
    rw [V.get_nil] at h2; cases h2
    simp only [valOf] at h1; cases h1
    simp [adrOf, h3]
  | t :: p, v, y, u, x, g, h1, h2, h3 => by
    rw [V.get_cons] at h2
    obtain ⟨z, hz, h2⟩ := Option.bind_eq_some_iff.1 h2
    simp only [valOf] at h1
    obtain ⟨ad, ha, hc⟩ := Option.bind_eq_some_iff.1 h1
    cases p with
    | nil =>
      rw [V.get_nil] at h2; cases h2
      simp only [adrOf] at ha
      obtain ⟨g', hg', ha⟩ := Option.bind_eq_some_iff.1 ha
      simp at ha; subst ha
      simp only [List.cons_append, List.nil_append]
      rw [adrOf_step hg' hc hz]
      simp [adrOf, h3]
    | cons t' p =>
      cases hb : hdBlk u with
      | none => simp [adrOf, hb] at ha
      | some g' =>
        cases hcc : w.cell? ⟨g', v.idx t, none⟩ with
        | none => simp [adrOf, hb, hcc] at ha
        | some uy =>
          rw [adrOf_step hb hcc hz] at ha
          simp only [List.cons_append]
          rw [adrOf_step hb hcc hz]
          exact adrOf_snoc (p := t' :: p) (by simp only [valOf]; rw [ha]; exact hc) h2 h3
theorem Own.elems {P : Program} {w : World} {ok : Nat → Prop} {v : V} {u : Value} {F : Nat → Prop} (h : Own P w ok v u F) {xs : List (List V)} (hv : (∃ el, v = .own el xs) ∨ v = .row xs) :
    ∃ A c, u = .slice A xs.length c ∧ ∃ us G, OwnL P w ok xs.flatten us G ∧ (∀ b, G b → F b) ∧
      (xs = [] ∨ ∃ b sz, 0 < sz ∧ A = some ⟨b, 0, none⟩ ∧ (∀ c ∈ xs, c.length = sz) ∧ ∀ (j : Nat) (u : Value), us[j]? = some u → w.cell? ⟨b, j, none⟩ = some u) := by
  cases h with
  | dead => rcases hv with ⟨_, hv⟩ | hv <;> cases hv
  | d => rcases hv with ⟨_, hv⟩ | hv <;> cases hv
  | @nil el A F hF =>
    rcases hv with ⟨_, hv⟩ | hv
    · cases hv; exact ⟨A, 0, rfl, [], No, OwnL.nil, fun _ h => h.elim, .inl rfl⟩
    · cases hv
  | @blk _ _ g vs cur el fz _ Fc hh hg hc hd hb hF =>
    have hlen := hh.len
    have key : vs = xs.flatten → OwnL P w ok xs.flatten (cur.toList.take vs.length) (fun b => ∃ j, j < vs.length ∧ Fc j b) := fun hvs => by
      subst hvs
      refine ⟨by rw [List.length_take, Nat.min_eq_left (by simpa using hlen)], Fc, fun j z y hz hy => ?_, hd, fun b => Iff.rfl⟩
      rw [List.getElem?_take] at hy
      split at hy
      · exact hc j z y hz (by simpa using hy)
      · cases hy
    have hmem : ∀ (j : Nat) (u : Value), (cur.toList.take vs.length)[j]? = some u → w.cell? ⟨g, j, none⟩ = some u := fun j u hj => by
      rw [List.getElem?_take] at hj
      split at hj
      · simp only [World.cell?, hg]; simpa using hj
      · cases hj
    have hsub : ∀ b, (∃ j, j < vs.length ∧ Fc j b) → F b := fun b hb => (hF b).2 (.inr hb)
    rcases hv with ⟨_, rfl⟩ | rfl
    · obtain ⟨rfl, _, hz, hsz, hvs, cap, rfl, _⟩ := hh
      exact ⟨_, cap, rfl, _, _, key hvs, hsub, .inr ⟨g, _, hz, rfl, hsz, hmem⟩⟩
    · obtain ⟨hsz, hvs, _, _, cap, rfl, _⟩ := hh
      exact ⟨_, cap, rfl, _, _, key hvs, hsub, .inr ⟨g, 1, by omega, rfl, hsz, hmem⟩⟩
theorem RO.elems {P : Program} {w : World} {ok : Nat → Prop} {xs : List (List D)} {u : Value} (h : RO w ok (.sl xs) u) :
    ∃ A c, u = .slice A xs.length c ∧ ∃ us, OwnL P w ok (xs.map (·.map V.d)).flatten us No ∧
      (xs = [] ∨ ∃ b o sz, 0 < sz ∧ A = some ⟨b, o, none⟩ ∧ (∀ c ∈ xs, c.length = sz) ∧ ok b ∧ us.length = xs.length * sz ∧ xs.length ≤ c ∧ (∀ (j : Nat) (u : Value), us[j]? = some u → w.cell? ⟨b, o + j, none⟩ = some u) ∧
        ∀ (j : Nat) (v : D) (u : Value), xs.flatten[j]? = some v → us[j]? = some u → RO w ok v u) := by
  cases h with
  | @nil A c => exact ⟨A, c, rfl, [], by simpa using OwnL.nil, .inl rfl⟩
  | @sl _ b o c sz us h0 hz hsz hc hok hl hu hr =>
    refine ⟨_, c, rfl, us, ?_, .inr ⟨b, o, sz, hz, rfl, hsz, hok, hl, hc, hu, hr⟩⟩
    have hfl : (xs.map (·.map V.d)).flatten = xs.flatten.map V.d := by rw [List.map_flatten]
    rw [hfl]
    refine OwnL.ofData (by rw [List.length_map, flat_len hsz, hl]) fun j v u hv hu => ?_
    rw [List.getElem?_map] at hv
    obtain ⟨d, hd, rfl⟩ := Option.map_eq_some_iff.1 hv
    exact .d (fun _ h => h) (hr j d u hd hu)
theorem Rel.look {H : Nat → Prop} (h : Rel C H e tm w Fs) {ty : TypeId} {x : Operand} {q : Opd} (hq : Mir.opd C.P ty x = some q) {xs : List (List V)} (hx : e.elems q = some xs) :
    (∃ s, e.opd q = .str s ∧ xs = (bytesT s).map (·.map .d) ∧ ev tm x = .string s) ∨
    ∃ A c, ev tm x = .slice A xs.length c ∧ ∃ us G, OwnL C.P w (okOf C.X H Fs) xs.flatten us G ∧
      (xs = [] ∨ ∃ b o sz, 0 < sz ∧ A = some ⟨b, o, none⟩ ∧ (∀ c ∈ xs, c.length = sz) ∧ ∀ (j : Nat) (u : Value), us[j]? = some u → w.cell? ⟨b, o + j, none⟩ = some u) := by
  obtain ⟨F, ht, _⟩ := h.opd hq
  unfold Env.elems at hx
  split at hx
  · rename_i ys heq
    cases hx
    rw [heq] at ht
    have hro : RO w (okOf C.X H Fs) (.sl ys) (ev tm x) := by
      have := VS.toOne ht
      cases this with
      | d _ hr => exact hr
      | blk _ hh => simp [Shape] at hh
    obtain ⟨A, c, hu, us, ho, hr⟩ := RO.elems (P := C.P) hro
    refine .inr ⟨A, c, by simpa using hu, us, No, ho, ?_⟩
    rcases hr with rfl | ⟨b, o, sz, hz, hA, hsz, _, _, _, hmem, _⟩
    · exact .inl rfl
    · exact .inr ⟨b, o, sz, hz, hA, by simpa using hsz, hmem⟩
  · rename_i el ys heq
    cases hx
    rw [heq] at ht
    obtain ⟨A, c, hu, us, G, ho, _, hr⟩ := (VS.toOne ht).elems (.inl ⟨_, rfl⟩)
    exact .inr ⟨A, c, hu, us, G, ho, hr.imp id fun ⟨b, sz, h1, h2, h3, h4⟩ => ⟨b, 0, sz, h1, h2, h3, by simpa using h4⟩⟩
  · rename_i ys heq
    cases hx
    rw [heq] at ht
    obtain ⟨A, c, hu, us, G, ho, _, hr⟩ := (VS.toOne ht).elems (.inr rfl)
    exact .inr ⟨A, c, hu, us, G, ho, hr.imp id fun ⟨b, sz, h1, h2, h3, h4⟩ => ⟨b, 0, sz, h1, h2, h3, by simpa using h4⟩⟩
  · rename_i r k p heq
    rw [heq] at ht
    have hv : ∃ v, e.cell r k p = some v ∧ ((∃ el, v = .own el xs) ∨ v = .row xs) := by
      cases hc : e.cell r k p with
      | none => simp [hc] at hx
      | some v =>
        rw [hc] at hx
        cases v <;> simp at hx <;> subst hx
        · exact ⟨_, rfl, .inl ⟨_, rfl⟩⟩
        · exact ⟨_, rfl, .inr rfl⟩
    obtain ⟨v, hc, hv⟩ := hv
    have hown : ∃ G, Own C.P w (okOf C.X H Fs) v (ev tm x) G := by
      obtain ⟨a, cs, v0, u0, h1, h2, h3, h4, h5⟩ := ht.2
      obtain ⟨a', cs', v', g1, g2, g3⟩ := Env.cell_some hc
      rw [h1] at g1; cases g1
      rw [h2] at g2; cases g2
      obtain ⟨F', hF', _⟩ := h.root h1 h2 h3
      obtain ⟨ux, Fx, _, _, k1, k2, _⟩ := hF'.hole g3
      rw [h5] at k1; cases k1
      exact ⟨Fx, k2⟩
    obtain ⟨G0, hown⟩ := hown
    obtain ⟨A, c, hu, us, G, ho, _, hr⟩ := hown.elems hv
    exact .inr ⟨A, c, hu, us, G, ho, hr.imp id fun ⟨b, sz, h1, h2, h3, h4⟩ => ⟨b, 0, sz, h1, h2, h3, by simpa using h4⟩⟩
  · rename_i s heq
    cases hx
    rw [heq] at ht
    exact .inl ⟨s, heq, rfl, (VS.sc ht).1⟩
  · cases hx
theorem ok_lenS (h : Rel C No e tm w Fs) {x : Operand} {t t1 : TypeId} {q : Opd} (hop : o.op = .call { callee := .builtin .len, args := #[x], argTypes := #[t] }) (hu : C.P.underlying t = some .string) (hq : Mir.opd C.P t1 x = some q)
    (hi : ioI call pm C.rt e o.dst (.len true q) = some e') : Done C o e' tm w := by
  simp only [ioI] at hi
  obtain ⟨s, hs, hput⟩ := Option.bind_eq_some_iff.1 hi
  have hx := h.toStr hq hs
  obtain ⟨Fs', h'⟩ := h.putSc hput rfl
  exact done_mk (by simp [execOp, hop, hx, resolve, invoke, builtin, Builtin.len_, run_underlying hu, goInt]) h'
theorem ok_len (h : Rel C No e tm w Fs) {x : Operand} {t t1 el : TypeId} {q : Opd} (hop : o.op = .call { callee := .builtin .len, args := #[x], argTypes := #[t] }) (hu : C.P.underlying t = some (.slice el)) (hq : Mir.opd C.P t1 x = some q)
    (hi : ioI call pm C.rt e o.dst (.len false q) = some e') : Done C o e' tm w := by
  simp only [ioI] at hi
  split at hi
  · cases hi
  · rename_i hns
    obtain ⟨xs, hxs, hput⟩ := Option.bind_eq_some_iff.1 hi
    rcases h.look hq hxs with ⟨s, hs, _⟩ | ⟨A, c, hv, _⟩
    · rw [hs] at hns; simp [T.str?] at hns
    · obtain ⟨Fs', h'⟩ := h.putSc hput rfl
      exact done_mk (by simp [execOp, hop, hv, resolve, invoke, builtin, Builtin.len_, run_underlying hu, goInt]) h'
theorem info_of_cells {P : Program} {t : TypeId} (h : 0 < P.cellsOf t) : ∃ i, P.info? t = some i ∧ i.size = P.cellsOf t := by
  cases hi : P.info? t with
  | none => simp [Program.cellsOf, hi] at h
  | some i => exact ⟨i, rfl, by simp [Program.cellsOf, hi]⟩
theorem ok_indexA (h : Rel C No e tm w Fs) {t t1 t2 el : TypeId} {x i : Operand} {qx qi : Opd} (hop : o.op = .indexAddr t x i) (hu : C.P.underlying t = some (.slice el)) (hx : Mir.opd C.P t1 x = some qx) (hy : Mir.opd C.P t2 i = some qi)
    (hi : ioI call pm C.rt e o.dst (.indexA (C.P.cellsOf el) qx qi) = some e') : Done C o e' tm w := by
  simp only [ioI] at hi
  obtain ⟨⟨kk, n⟩, hn, hi2⟩ := Option.bind_eq_some_iff.1 hi
  clear hi
  have hiv := h.toInt hy hn
  have hi := hi2
  clear hi2
  simp only at hi
  split at hi
  · rename_i h0
    have hrun : ∀ {b off len c : Nat}, ev tm x = .slice (some ⟨b, off, none⟩) len c → n < len → 0 < C.P.cellsOf el → (execOp (ev tm) o).run C.P w = .ok (.value (.pointer (some ⟨b, off + n.toNat * C.P.cellsOf el, none⟩))) w := fun hxv hl hz => by
      obtain ⟨inf, hI, hsz⟩ := info_of_cells hz
      simp [execOp, hop, hxv, hiv, Instr.indexAt, asIntOf, run_underlying hu, h0, hl, sizeOf, typeInfo, hI, hsz, add_none]
    obtain ⟨F, ht, hw⟩ := h.opd hx
    have own : ∀ {v : V} {xs : List (List V)} {c : List V} {g : Nat} {u : Value} {F : Nat → Prop}, Own C.P w (okOf C.X No Fs) v u F → ((∃ el, v = .own el xs) ∨ v = .row xs) → xs[n.toNat]? = some c → c.length = C.P.cellsOf el →
        ev tm x = u → ∃ g, hdBlk u = some g ∧ v.idx (n.toNat, 0) = n.toNat * C.P.cellsOf el ∧ (execOp (ev tm) o).run C.P w = .ok (.value (.pointer (some ⟨g, n.toNat * C.P.cellsOf el, none⟩))) w := by
      intro v xs c _ u F ho hv hc hcl hxu
      obtain ⟨A, cp, rfl, us, G, _, _, hr⟩ := ho.elems hv
      rcases hr with rfl | ⟨b, sz, hz, rfl, hsz, _⟩
      · simp at hc
      · have hl := (List.getElem?_eq_some_iff.1 hc).1
        have hzz : sz = C.P.cellsOf el := by rw [← hcl]; exact (hsz c (List.mem_of_getElem? hc)).symm
        refine ⟨b, rfl, ?_, by simpa using hrun hxu (by omega) (by omega)⟩
        rcases hv with ⟨_, rfl⟩ | rfl <;> simp [V.idx, hc, hcl]
    split at hi
    · rename_i xs heq
      obtain ⟨c, hc, hi2⟩ := Option.bind_eq_some_iff.1 hi
      clear hi
      have hi := hi2
      clear hi2
      split at hi
      · rename_i hcl
        rw [heq] at ht
        have hro : RO w (okOf C.X No Fs) (.sl xs) (ev tm x) := by
          have := VS.toOne ht
          cases this with
          | d _ hr => exact hr
          | blk _ hh => simp [Shape] at hh
        obtain ⟨A, cp, hu', us, _, hr⟩ := RO.elems (P := C.P) hro
        rcases hr with rfl | ⟨b, of, sz, hz, rfl, hsz, hok, hl, _, hmem, hrr⟩
        · simp at hc
        · have hlt := (List.getElem?_eq_some_iff.1 hc).1
          have hzz : sz = C.P.cellsOf el := by rw [← hcl]; exact (hsz c (List.mem_of_getElem? hc)).symm
          subst hzz
          have hle : n.toNat * C.P.cellsOf el + C.P.cellsOf el ≤ us.length := by rw [hl, ← Nat.succ_mul]; exact Nat.mul_le_mul_right _ hlt
          have hadr : AdrR w (okOf C.X No Fs) c (.pointer (some ⟨b, of + n.toNat * C.P.cellsOf el, none⟩)) := by
            refine ⟨by intro e; rw [e] at hcl; simp at hcl; omega, b, _, (us.drop (n.toNat * C.P.cellsOf el)).take (C.P.cellsOf el), rfl, hok, by rw [List.length_take, List.length_drop, hcl]; omega, fun j u hj => ?_, fun j d u hd hj => ?_⟩
            · rw [List.getElem?_take] at hj
              split at hj
              · rw [Nat.add_assoc]; exact hmem _ u (by simpa using hj)
              · cases hj
            · rw [List.getElem?_take] at hj
              split at hj
              · exact hrr (n.toNat * C.P.cellsOf el + j) d u (flat_get hsz hc hd) (by simpa using hj)
              · cases hj
          obtain ⟨Fs', h'⟩ := h.put (F := No) hi ⟨fun _ h => h, hadr⟩ fun b hb => hb
          exact done_mk (hrun hu' (by omega) hz) (h'.letGo (H' := No) fun b hb => hb.elim)
      · cases hi
    · rename_i t' el' xs heq
      obtain ⟨c, hc, hi2⟩ := Option.bind_eq_some_iff.1 hi
      clear hi
      have hi := hi2
      clear hi2
      split at hi
      · rename_i hcl
        rw [heq] at ht
        rcases hw with ⟨t2, h1, rfl, _⟩ | ⟨_, _, hnn⟩
        · cases h1
          obtain ⟨g, k1, k2, k3⟩ := own (g := 0) (VS.toOne ht) (.inl ⟨_, rfl⟩) hc hcl rfl
          obtain ⟨Fs', h'⟩ := h.put (F := No) (x := .pointer (some ⟨g, n.toNat * C.P.cellsOf el, none⟩)) hi ⟨fun _ h => h, _, rfl, false, _, _, tm t', heq, rfl, by simp [cellsOf], by simp only [ev] at k1; simp [adrOf, k1, k2]⟩ fun b hb => hb
          exact done_mk k3 (h'.letGo (H' := No) fun b hb => hb.elim)
        · exact (hnn _ rfl).elim
      · cases hi
    · rename_i t' xs heq
      obtain ⟨c, hc, hi2⟩ := Option.bind_eq_some_iff.1 hi
      clear hi
      have hi := hi2
      clear hi2
      split at hi
      · rename_i hcl
        rw [heq] at ht
        rcases hw with ⟨t2, h1, rfl, _⟩ | ⟨_, _, hnn⟩
        · cases h1
          obtain ⟨g, k1, k2, k3⟩ := own (g := 0) (VS.toOne ht) (.inr rfl) hc hcl rfl
          obtain ⟨Fs', h'⟩ := h.put (F := No) (x := .pointer (some ⟨g, n.toNat * C.P.cellsOf el, none⟩)) hi ⟨fun _ h => h, _, rfl, false, _, _, tm t', heq, rfl, by simp [cellsOf], by simp only [ev] at k1; simp [adrOf, k1, k2]⟩ fun b hb => hb
          exact done_mk k3 (h'.letGo (H' := No) fun b hb => hb.elim)
        · exact (hnn _ rfl).elim
      · cases hi
    · rename_i r k p heq
      rw [heq] at ht
      have fin : ∀ (v : V) (xs : List (List V)) (c : List V), e.cell r k p = some v → ((∃ el, v = .own el xs) ∨ v = .row xs) → xs[n.toNat]? = some c → c.length = C.P.cellsOf el → e.put C.rt o.dst (.at_ r k (p ++ [(n.toNat, 0)])) = some e' → Done C o e' tm w := by
        intro v xs c hce hv hc hcl hput
        obtain ⟨a, cs, v0, u0, h1, h2, h3, h4, h5⟩ := ht.2
        obtain ⟨a', cs', v', g1, g2, g3⟩ := Env.cell_some hce
        rw [h1] at g1; cases g1
        rw [h2] at g2; cases g2
        obtain ⟨F', hF', _⟩ := h.root h1 h2 h3
        obtain ⟨ux, Fx, _, _, k1, k2, _⟩ := hF'.hole g3
        rw [h5] at k1; cases k1
        obtain ⟨g, m1, m2, m3⟩ := own (g := 0) k2 hv hc hcl rfl
        obtain ⟨Fs', h'⟩ := h.put (F := No) (x := .pointer (some ⟨g, n.toNat * C.P.cellsOf el, none⟩)) hput ⟨fun _ h => h, _, rfl, a, cs, v0, u0, h1, h2, h3, by rw [adrOf_snoc h5 g3 m1, m2]⟩ fun b hb => hb
        exact done_mk m3 (h'.letGo (H' := No) fun b hb => hb.elim)
      split at hi
      · rename_i el' xs hce
        obtain ⟨c, hc, hi2⟩ := Option.bind_eq_some_iff.1 hi
        clear hi
        have hi := hi2
        clear hi2
        split at hi
        · rename_i hcl; exact fin _ xs c hce (.inl ⟨_, rfl⟩) hc hcl hi
        · cases hi
      · rename_i xs hce
        obtain ⟨c, hc, hi2⟩ := Option.bind_eq_some_iff.1 hi
        clear hi
        have hi := hi2
        clear hi2
        split at hi
        · rename_i hcl; exact fin _ xs c hce (.inr rfl) hc hcl hi
        · cases hi
      · cases hi
    · cases hi
  · cases hi
theorem ok_mn (h : Rel C No e tm w Fs) {x y : Operand} {tys : Array TypeId} {qx qy : Opd} {t1 t2 : TypeId} (hop : o.op = .call { callee := .builtin .min, args := #[x, y], argTypes := tys }) (hx : Mir.opd C.P t1 x = some qx) (hy : Mir.opd C.P t2 y = some qy)
    (hi : ioI call pm C.rt e o.dst (.mn qx qy) = some e') : Done C o e' tm w := by
  simp only [ioI] at hi
  obtain ⟨⟨k, a⟩, ha, hi⟩ := Option.bind_eq_some_iff.1 hi
  obtain ⟨⟨k', b⟩, hb, hput⟩ := Option.bind_eq_some_iff.1 hi
  have hxv := h.toInt hx ha
  have hyv := h.toInt hy hb
  obtain ⟨Fs', h'⟩ := h.putSc hput rfl
  exact done_mk (by simp [execOp, hop, hxv, hyv, resolve, invoke, builtin, run_min_int2]) h'
theorem ok_mx (h : Rel C No e tm w Fs) {x y : Operand} {tys : Array TypeId} {qx qy : Opd} {t1 t2 : TypeId} (hop : o.op = .call { callee := .builtin .max, args := #[x, y], argTypes := tys }) (hx : Mir.opd C.P t1 x = some qx) (hy : Mir.opd C.P t2 y = some qy)
    (hi : ioI call pm C.rt e o.dst (.mx qx qy) = some e') : Done C o e' tm w := by
  simp only [ioI] at hi
  obtain ⟨⟨k, a⟩, ha, hi⟩ := Option.bind_eq_some_iff.1 hi
  obtain ⟨⟨k', b⟩, hb, hput⟩ := Option.bind_eq_some_iff.1 hi
  have hxv := h.toInt hx ha
  have hyv := h.toInt hy hb
  obtain ⟨Fs', h'⟩ := h.putSc hput rfl
  exact done_mk (by simp [execOp, hop, hxv, hyv, resolve, invoke, builtin, run_max_int2]) h'
end
end Go.Mir

set_option linter.unusedVariables false
set_option linter.unusedSimpArgs false
namespace Go.Mir
open Go.RowKit
section
variable {C : Ctx} {e e' : Env} {tm : Nat → Value} {w : World} {Fs : Nat → Nat → Prop} {o : Oper} {call : FuncId → List T → Option Res} {pm : FuncId → List PM}
def BoundV (v : Option Value) (d l : Int) : Prop := (v = none ∧ l = d) ∨ ∃ k, v = some (.int k l)
theorem Rel.bound (h : Rel C No e tm w Fs) {lo : Option Operand} {qlo : Option Opd} (hq : optO C.P lo = some qlo) {d l : Int} (hl : e.bound d qlo = some l) : BoundV (lo.map (ev tm)) d l ∧ (qlo.isNone = lo.isNone) := by
  cases lo with
  | none => simp [optO] at hq; subst hq; simp [Env.bound] at hl; exact ⟨.inl ⟨rfl, hl.symm⟩, rfl⟩
  | some x =>
    simp only [optO] at hq
    obtain ⟨q, hq', rfl⟩ := Option.map_eq_some_iff.1 hq
    simp only [Env.bound] at hl
    obtain ⟨⟨k, n⟩, hn, rfl⟩ := Option.map_eq_some_iff.1 hl
    exact ⟨.inr ⟨k, by simp [h.toInt hq' hn]⟩, rfl⟩
theorem run_bounds {P : Program} {w : World} {isS : Bool} {len cap : Nat} {lo hi : Option Value} {l hh : Int} (hlo : BoundV lo 0 l) (hhi : BoundV hi len hh) (h0 : 0 ≤ l) (h1 : l ≤ hh) (h2 : hh ≤ cap) :
    (Instr.sliceBounds isS len cap lo hi none).run P w = .ok (l.toNat, hh.toNat, cap) w := by
  have e1 : (hh.toNat : Int) = hh := Int.toNat_of_nonneg (by omega)
  rcases hlo with ⟨rfl, rfl⟩ | ⟨k, rfl⟩ <;> rcases hhi with ⟨rfl, rfl⟩ | ⟨k', rfl⟩
  · simp [Instr.sliceBounds]
  · simp [Instr.sliceBounds, run_sliceBound, h2, show 0 ≤ hh by omega]
  · simp [Instr.sliceBounds, run_sliceBound, h0, h1]
  · simp [Instr.sliceBounds, run_sliceBound, h0, h1, h2, e1, show 0 ≤ hh by omega]
theorem ok_sliceS (h : Rel C No e tm w Fs) {t t1 : TypeId} {x : Operand} {lo hi : Option Operand} {q : Opd} {ql qh : Option Opd} {sz : Nat} (hop : o.op = .slice t x lo hi none) (hu : C.P.underlying t = some .string) (hq : Mir.opd C.P t1 x = some q) (hl : optO C.P lo = some ql) (hh : optO C.P hi = some qh)
    (hi' : ioI call pm C.rt e o.dst (.slice true sz q ql qh) = some e') : Done C o e' tm w := by
  simp only [ioI] at hi'
  obtain ⟨s, hs, hi1⟩ := Option.bind_eq_some_iff.1 hi'
  obtain ⟨l, hl1, hi2⟩ := Option.bind_eq_some_iff.1 hi1
  obtain ⟨g, hg1, hi3⟩ := Option.bind_eq_some_iff.1 hi2
  clear hi' hi1 hi2
  split at hi3
  · rename_i hc
    have hx := h.toStr hq hs
    have b1 := (h.bound hl hl1).1
    have b2 := (h.bound hh hg1).1
    obtain ⟨Fs', h'⟩ := h.putSc hi3 rfl
    have hr := run_bounds (P := C.P) (w := w) (isS := false) (cap := s.size) b1 b2 hc.1 hc.2.1 hc.2.2
    exact done_mk (by simp [execOp, hop, hx, run_sliceAt_string w t _ _ _ _ hu, Instr.slice, run_underlying hu, hr]) h'
  · cases hi3
theorem Own.take {P : Program} {w : World} {ok : Nat → Prop} {el n c : Nat} {xs : List (List V)} {A : Option Addr} {F : Nat → Prop} (h : Own P w ok (.own el xs) (.slice A n c) F) {m : Nat} (hm : m ≤ xs.length) :
    ∃ F' : Nat → Prop, (∀ b, F' b → F b) ∧ Own P w ok (.own el (xs.take m)) (.slice A m c) F' := by
  cases h with
  | @nil _ A F hF =>
    simp at hm; subst hm
    exact ⟨F, fun b hb => hb, by simpa using Own.nil hF⟩
  | @blk _ _ g vs cur e fz F Fc hh hg hc hd hb hF =>
    obtain ⟨rfl, rfl, hz, hsz, rfl, cap, hu, h1, h2, h3⟩ := hh
    simp only [Value.slice.injEq] at hu
    obtain ⟨rfl, rfl, rfl⟩ := hu
    have hsz' : ∀ d ∈ xs.take m, d.length = P.cellsOf el := fun d hd => hsz d (List.mem_of_mem_take hd)
    have hlen : (xs.take m).length = m := by rw [List.length_take]; omega
    have hfl : ∀ j, j < (xs.take m).flatten.length → (xs.take m).flatten[j]? = xs.flatten[j]? ∧ j < xs.flatten.length := fun j hj => by
      have : xs.flatten = (xs.take m).flatten ++ (xs.drop m).flatten := by rw [← List.flatten_append, List.take_append_drop]
      rw [this, List.getElem?_append_left hj]
      exact ⟨rfl, by rw [List.length_append]; omega⟩
    refine ⟨fun b => b = g ∨ ∃ j, j < (xs.take m).flatten.length ∧ Fc j b, fun b hb => (hF b).2 (hb.imp id fun ⟨j, hj, hb⟩ => ⟨j, (hfl j hj).2, hb⟩), ?_⟩
    refine .blk Fc (fz := (0, 0)) ⟨rfl, rfl, hz, hsz', rfl, c, by rw [hlen], by rw [hlen]; omega, h2, h3⟩ hg (fun j v u hv hu => ?_) (fun i j b hi hj => hd i j b (hfl i hi).2 (hfl j hj).2) (fun j hj => hb j (hfl j hj).2) (fun b => Iff.rfl)
    have hj := (List.getElem?_eq_some_iff.1 hv).1
    rw [(hfl j hj).1] at hv
    exact hc j v u hv hu
theorem drop_flat {α : Type} {sz : Nat} : ∀ {xs : List (List α)} (h : ∀ c ∈ xs, c.length = sz) (l : Nat), (xs.drop l).flatten = xs.flatten.drop (l * sz)
  | xs, h, 0 => by simp
  | [], h, l + 1 => by simp
  | x :: xs, h, l + 1 => by
    rw [List.drop_succ_cons, drop_flat (fun c hc => h c (List.mem_cons_of_mem _ hc)) l, List.flatten_cons, Nat.add_mul, Nat.one_mul, Nat.add_comm, ← List.drop_drop,
      List.drop_left' (h x (by simp))]
theorem RO.cut {w : World} {ok : Nat → Prop} {xs : List (List D)} {A : Option Addr} {n c sz l h : Nat} (hr : RO w ok (.sl xs) (.slice A n c)) (h1 : l ≤ h) (h2 : h ≤ xs.length) (hs : l = 0 ∨ ∀ d ∈ xs, d.length = sz) :
    RO w ok (.sl ((xs.take h).drop l)) (sliced A l h c sz) := by
  have hlen : ((xs.take h).drop l).length = h - l := by rw [List.length_drop, List.length_take]; omega
  by_cases he : h = l
  · subst he
    have : (xs.take h).drop h = [] := List.eq_nil_of_length_eq_zero (by omega)
    rw [this]
    unfold sliced
    rw [Nat.sub_self]
    exact .nil
  · cases hr with
    | nil => simp at h2; omega
    | @sl _ b o _ sz' us h0 hz hsz hc hok hl hu hrr =>
      have hcl : c ≠ l := by omega
      have hszz : l = 0 ∨ sz' = sz := hs.imp id fun hs => by
        cases xs with
        | nil => exact (h0 rfl).elim
        | cons x xs => rw [← hsz x (by simp), hs x (by simp)]
      have hA : (if c = l then (some ⟨b, o, none⟩ : Option Addr) else (some (⟨b, o, none⟩ : Addr)).map (·.add (l * sz))) = some ⟨b, o + l * sz', none⟩ := by
        rw [if_neg hcl]
        rcases hszz with rfl | rfl <;> simp [add_none]
      unfold sliced
      rw [hA, ← hlen]
      have hle : l * sz' + (h - l) * sz' ≤ us.length := by rw [hl, ← Nat.add_mul]; exact Nat.mul_le_mul_right _ (by omega)
      refine .sl (sz := sz') ((us.drop (l * sz')).take ((h - l) * sz')) (by intro e; rw [e] at hlen; simp at hlen; omega) hz (fun d hd => hsz d (List.mem_of_mem_take (List.mem_of_mem_drop hd))) (by rw [hlen]; omega) hok
        (by rw [List.length_take, List.length_drop, hlen]; omega) (fun j u hj => ?_) (fun j v u hv hj => ?_)
      · rw [List.getElem?_take] at hj
        split at hj
        · rw [Nat.add_assoc]; exact hu _ u (by simpa using hj)
        · cases hj
      · rw [List.getElem?_take] at hj
        split at hj
        · refine hrr (l * sz' + j) v u ?_ (by simpa using hj)
          rw [drop_flat (fun d hd => hsz d (List.mem_of_mem_take hd)), List.getElem?_drop] at hv
          have hjl := (List.getElem?_eq_some_iff.1 hv).1
          have : xs.flatten = (xs.take h).flatten ++ (xs.drop h).flatten := by rw [← List.flatten_append, List.take_append_drop]
          rw [this, List.getElem?_append_left hjl]
          exact hv
        · cases hj
theorem ok_slice (h : Rel C No e tm w Fs) {t t1 el : TypeId} {x : Operand} {lo hi : Option Operand} {q : Opd} {ql qh : Option Opd} (hop : o.op = .slice t x lo hi none) (hu : C.P.underlying t = some (.slice el)) (hz : 0 < C.P.cellsOf el) (hq : Mir.opd C.P t1 x = some q) (hl : optO C.P lo = some ql) (hh : optO C.P hi = some qh)
    (hi' : ioI call pm C.rt e o.dst (.slice false (C.P.cellsOf el) q ql qh) = some e') : Done C o e' tm w := by
  simp only [ioI] at hi'
  obtain ⟨inf, hI, hsz⟩ := info_of_cells hz
  have hel : C.P.elem t = el := by simp [Program.elem, hu]
  have hrun : ∀ {A : Option Addr} {n c l g : Nat}, ev tm x = .slice A n c → (Instr.sliceBounds true n c (lo.map (ev tm)) (hi.map (ev tm)) none).run C.P w = .ok (l, g, c) w → (execOp (ev tm) o).run C.P w = .ok (.value (sliced A l g c (C.P.cellsOf el))) w := fun hx hb => by
    simp [execOp, hop, hx, run_sliceAt_slice w t _ _ _ _ (by rw [hel]; exact hu), Instr.slice, run_underlying hu, hb, sizeOf, typeInfo, hI, hsz, sliced]
  split at hi'
  · rename_i xs heq
    obtain ⟨l, hl1, hi2⟩ := Option.bind_eq_some_iff.1 hi'
    obtain ⟨g, hg1, hi3⟩ := Option.bind_eq_some_iff.1 hi2
    clear hi' hi2
    split at hi3
    · rename_i hc
      obtain ⟨F, ht, _⟩ := h.opd hq
      rw [heq] at ht
      have hro : RO w (okOf C.X No Fs) (.sl xs) (ev tm x) := by
        have := VS.toOne ht
        cases this with
        | d _ hr => exact hr
        | blk _ hh => simp [Shape] at hh
      obtain ⟨A, c, hu', us, _, hr⟩ := RO.elems (P := C.P) hro
      rw [hu'] at hro
      have hcap : xs.length ≤ c := by
        cases hro with
        | nil => simp
        | sl _ _ _ _ hc => exact hc
      have b1 := h.bound hl hl1
      have b2 := (h.bound hh hg1).1
      have hrb := run_bounds (P := C.P) (w := w) (isS := true) (cap := c) b1.1 b2 hc.1 hc.2.1 (by omega)
      have hcut := hro.cut (l := l.toNat) (h := g.toNat) (sz := C.P.cellsOf el) (by omega) (by omega) (by
        rcases hc.2.2.2 with hn | hn
        · rw [b1.2] at hn
          rcases b1.1 with ⟨_, rfl⟩ | ⟨k, hk⟩
          · exact .inl rfl
          · cases lo <;> simp at hn hk
        · exact .inr fun d hd => by have := List.all_eq_true.1 hn d hd; simpa using this)
      obtain ⟨Fs', h'⟩ := h.put (F := No) hi3 (VS.ofOne (.d (fun _ h => h) hcut)) fun b hb => hb
      exact done_mk (hrun hu' hrb) (h'.letGo (H' := No) fun b hb => hb.elim)
    · cases hi3
  · rename_i hns
    obtain ⟨⟨a, cs, e1⟩, hv, hi2⟩ := Option.bind_eq_some_iff.1 hi'
    clear hi'
    split at hi2
    · rename_i heq
      simp only [Prod.mk.injEq] at heq
      obtain ⟨rfl, rfl, rfl⟩ := heq
      rename_i _ el' xs
      obtain ⟨g, hg1, hi3⟩ := Option.bind_eq_some_iff.1 hi2
      clear hi2
      split at hi3
      · rename_i hc
        obtain ⟨F, Fs1, h1, h2, h3, h4⟩ := h.vals hq hv
        have hown := VS.toOne h2
        obtain ⟨A, c, hu', _⟩ := hown.elems (.inl ⟨_, rfl⟩)
        rw [hu'] at hown
        have hcap : xs.length ≤ c := by
          cases hown with
          | nil => simp
          | blk _ hh =>
            obtain ⟨_, _, _, _, _, cap, hu2, h1, _⟩ := hh
            simp only [Value.slice.injEq] at hu2
            omega
        obtain ⟨F', hF', ho'⟩ := hown.take (m := g.toNat) (by omega)
        have b2 := (h.bound hh hg1).1
        have hlo : lo = none := by
          cases lo with
          | none => rfl
          | some y =>
            simp only [optO] at hl
            obtain ⟨z, _, rfl⟩ := Option.map_eq_some_iff.1 hl
            simp at hc
        have hrb := run_bounds (P := C.P) (w := w) (isS := true) (cap := c) (lo := lo.map (ev tm)) (l := 0) (.inl ⟨by rw [hlo]; rfl, rfl⟩) b2 (by omega) hc.2.1 (by omega)
        have hsl : sliced A 0 g.toNat c (C.P.cellsOf el) = .slice A g.toNat c := by
          unfold sliced
          simp only [Nat.zero_mul, Nat.sub_zero]
          split
          · rfl
          · cases A <;> simp [Addr.add]
        obtain ⟨Fs', h'⟩ := h1.put hi3 (VS.ofOne ho') fun b hb => .inr (hF' b hb)
        refine done_mk (v := .slice A g.toNat c) (w' := w) ?_ (h'.letGo (H' := No) fun b hb => hb.elim)
        have := hrun hu' hrb
        rw [Int.toNat_zero, hsl] at this
        exact this
      · cases hi3
    · cases hi2
theorem ok_s2b (h : Rel C No e tm w Fs) {src dst el t1 : TypeId} {x : Operand} {q : Opd} (hop : o.op = .convert src dst x) (hs : C.P.underlying src = some .string) (hd : C.P.underlying dst = some (.slice el)) (he : C.P.underlying el = some (.int .u8)) (hq : Mir.opd C.P t1 x = some q)
    (hi : ioI call pm C.rt e o.dst (.s2b q) = some e') : Done C o e' tm w := by
  simp only [ioI] at hi
  obtain ⟨s, hss, hput⟩ := Option.bind_eq_some_iff.1 hi
  have hx := h.toStr hq hss
  have hr := Lib.run_convert_string_bytes (P := C.P) w src dst el s hs hd he
  have hgr : Grow No w (Lib.bytesWorld w el s) := ⟨rfl, rfl, rfl, by rw [Lib.bytesWorld_size]; omega, fun k hk _ => Lib.bytesWorld_at_old w el s k hk⟩
  have h1 : Rel C (fun b => b = w.heap.size) e tm (Lib.bytesWorld w el s) Fs := h.world hgr fun b hb => by subst hb; exact ⟨.inr (Nat.le_refl _), by rw [Lib.bytesWorld_size]; omega⟩
  have hfl : ∀ l : List UInt8, (((l.map fun b => [D.sc (.int .u8 b.toNat)])).map (·.map V.d)).flatten = l.map fun b => V.d (.sc (.int .u8 b.toNat)) := by
    intro l; induction l with
    | nil => rfl
    | cons b l ih => simp only [List.map_cons, List.flatten_cons, ih]; rfl
  have hlen : ((bytesT s).map (·.map V.d)).length = s.size := by simp [bytesT]
  have hcs : s.size ≤ (Lib.bytesCells w el s).size := by simp [Lib.bytesCells]
  have hown : Own C.P (Lib.bytesWorld w el s) (okOf C.X (fun b => b = w.heap.size) Fs) (.row ((bytesT s).map (·.map V.d))) (.slice (some ⟨w.heap.size, 0, none⟩) s.size (grownCap w s.size 0 el)) (fun b => b = w.heap.size) := by
    refine .blk (fun _ => No) (fz := ((Lib.bytesCells w el s).size, (Lib.bytesCells w el s).size + 1)) (vs := ((bytesT s).map (·.map V.d)).flatten) ⟨?_, rfl, by rw [hlen]; exact hcs, fun j hj => ?_, _, by rw [hlen], by rw [hlen]; exact grownCap_ge w s.size 0 el⟩ (Lib.bytesWorld_at_new w el s) (fun j v u hv hu => ?_) (fun _ _ _ _ _ _ h => h.elim) (fun _ _ h => h) (fun b => ⟨.inl, fun h => h.elim id fun ⟨_, _, h⟩ => h.elim⟩)
    · intro c hc
      simp [bytesT] at hc
      obtain ⟨_, _, rfl⟩ := hc
      rfl
    · rw [hlen] at hj; omega
    · unfold bytesT at hv
      rw [hfl, List.getElem?_map] at hv
      obtain ⟨b, hb, rfl⟩ := Option.map_eq_some_iff.1 hv
      have hj : j < s.data.size := by simpa using (List.getElem?_eq_some_iff.1 hb).1
      have : (Lib.bytesCells w el s)[j]? = some (.int .u8 b.toNat) := by
        simp only [Lib.bytesCells]
        rw [Array.getElem?_append_left (by simpa using hj)]
        simp only [Array.getElem?_map]
        rw [← Array.getElem?_toList, hb]
        rfl
      rw [this] at hu; cases hu
      exact .d (fun _ h => h) (.sc rfl)
  obtain ⟨Fs', h'⟩ := h1.put hput (VS.ofOne hown) fun b hb => hb
  exact done_mk (by simp [execOp, hop, hx, hr]) (h'.letGo (H' := No) fun b hb => hb.elim)
theorem byteRow_spec : ∀ {xs : List (List V)}, byteRow xs = true → (∀ c ∈ xs, c.length = 1) ∧ ∀ v ∈ xs.flatten, ∃ n : Int, v = .d (.sc (.int .u8 n))
  | [], _ => by simp
  | [.d (.sc (.int .u8 n))] :: r, h => by
    have ih := byteRow_spec (xs := r) (by simpa only [byteRow] using h)
    refine ⟨fun c hc => ?_, fun v hv => ?_⟩
    · rcases List.mem_cons.1 hc with rfl | hc
      · rfl
      · exact ih.1 c hc
    · rw [List.flatten_cons, List.mem_append, List.mem_singleton] at hv
      rcases hv with rfl | hv
      · exact ⟨n, rfl⟩
      · exact ih.2 v hv
theorem ok_s2s (h : Rel C No e tm w Fs) {src el t1 : TypeId} {x : Operand} {q : Opd} (hop : o.op = .convert src src x) (hs : C.P.underlying src = some (.slice el)) (he : C.P.underlying el = some (.int .u8)) (hq : Mir.opd C.P t1 x = some q)
    (hi : ioI call pm C.rt e o.dst (.s2s q) = some e') : Done C o e' tm w := by
  simp only [ioI] at hi
  obtain ⟨⟨a, cs, e1⟩, hv, hi⟩ := Option.bind_eq_some_iff.1 hi
  split at hi
  · rename_i heq
    simp only [Prod.mk.injEq] at heq
    obtain ⟨rfl, rfl, rfl⟩ := heq
    rename_i el' xs
    split at hi
    · rename_i hc
      obtain ⟨hne, hby⟩ := hc
      obtain ⟨hx1, hx2⟩ := byteRow_spec hby
      obtain ⟨F, Fs1, h1, h2, h3, h4⟩ := h.vals hq hv
      have hown := VS.toOne h2
      generalize hev : ev tm x = u at hown
      cases hown with
      | nil => simp at hne
      | @blk _ _ g vs cur e0 fz F Fc hh hg hcc hd hb hF =>
        obtain ⟨rfl, rfl, hz, hsz, rfl, cap, hu, hl1, hl2, hl3⟩ := hh
        subst hu
        have hwg : (w.freeze ⟨g, cur.size, none⟩ 1).heap = w.heap.modify g fun | .cells c elem (lo, hi) => .cells c elem (if lo == hi then (cur.size, cur.size + 1) else (min lo cur.size, max hi (cur.size + 1))) | o => o := by
          unfold World.freeze; rw [if_neg (by decide)]; rfl
        have hg' : (w.freeze ⟨g, cur.size, none⟩ 1).heap[g]? = some (.cells cur el' (cur.size, cur.size + 1)) := by
          rw [hwg, Array.getElem?_modify, hg]; simp
        have hgr : Grow (fun b => No b ∨ F b) w (w.freeze ⟨g, cur.size, none⟩ 1) :=
          ⟨by unfold World.freeze; rw [if_neg (by decide)], by unfold World.freeze; rw [if_neg (by decide)], by unfold World.freeze; rw [if_neg (by decide)], by rw [hwg]; simp, fun k hk hn => by
            rw [hwg, Array.getElem?_modify, if_neg]
            rintro rfl
            exact hn (.inr ((hF g).2 (.inl rfl)))⟩
        have hgl : g < w.heap.size := (Array.getElem?_eq_some_iff.1 hg).1
        have hsz1 : xs.length ≤ cur.size := by
          have := Nat.mul_le_mul (Nat.le_trans hl1 (Nat.le_refl cap)) hz
          rw [hl3]; omega
        have hr2 := h1.world (H' := fun b => b = g) hgr fun b hb => by subst hb; exact ⟨.inl (.inr ((hF b).2 (.inl rfl))), by rw [hwg]; simpa using hgl⟩
        have ho' : Own C.P (w.freeze ⟨g, cur.size, none⟩ 1) (okOf C.X (fun b => b = g) Fs1) (.row xs) (.slice (some ⟨g, 0, none⟩) xs.length cap) (fun b => b = g) := by
          refine .blk (fun _ => No) (vs := xs.flatten) ⟨hx1, rfl, hsz1, fun j hj => by simp only; omega, cap, rfl, hl1⟩ hg' (fun j v u hv hu => ?_) (fun _ _ _ _ _ _ h => h.elim) (fun _ _ h => h) (fun b => ⟨.inl, fun h => h.elim id fun ⟨_, _, h⟩ => h.elim⟩)
          obtain ⟨n, rfl⟩ := hx2 v (List.mem_of_getElem? hv)
          have := hcc j _ u hv hu
          cases this with
          | d _ hr => cases hr; exact .d (fun _ h => h) (.sc rfl)
          | blk _ hh => simp [Shape] at hh
        obtain ⟨Fs', h'⟩ := hr2.put hi (VS.ofOne ho') fun b hb => hb
        have hsh : w.shape? g = some (el', cur.size) := by unfold World.shape?; rw [hg]
        refine done_mk (v := .slice (some ⟨g, 0, none⟩) xs.length cap) (w' := w.freeze ⟨g, cur.size, none⟩ 1) ?_ (h'.letGo (H' := No) fun b hb => hb.elim)
        simp [execOp, hop, hev, convert, run_underlying hs, run_underlying he, markStringish, hsh]
    · cases hi
  · cases hi
theorem RO.sc_eq {w : World} {ok : Nat → Prop} {v u : Value} (h : RO w ok (.sc v) u) : u = v := by cases h; rfl
theorem bytesD_nums : ∀ {ds : List (List D)} {l : List UInt8}, bytesD ds = some l → (∀ c ∈ ds, c.length = 1) ∧ l.length = ds.length ∧ ∀ (j : Nat) (b : UInt8), l[j]? = some b → ds.flatten[j]? = some (.sc (.int .u8 b.toNat))
  | [], l, h => by simp [bytesD] at h; subst h; simp
  | [.sc (.int .u8 n)] :: ds, l, h => by
    simp only [bytesD] at h
    split at h
    · rename_i hn
      obtain ⟨l', hl, rfl⟩ := Option.map_eq_some_iff.1 h
      obtain ⟨g1, g2, g3⟩ := bytesD_nums hl
      refine ⟨?_, by simp [g2], ?_⟩
      · intro c hc
        rcases List.mem_cons.1 hc with rfl | hc
        · rfl
        · exact g1 c hc
      · intro j b hb
        cases j with
        | zero =>
          simp at hb; subst hb
          simp
          omega
        | succ j => simpa using g3 j b (by simpa using hb)
    · cases h
theorem ok_b2s (h : Rel C No e tm w Fs) {src dst el t1 : TypeId} {x : Operand} {q : Opd} (hop : o.op = .convert src dst x) (hs : C.P.underlying src = some (.slice el)) (hd : C.P.underlying dst = some .string) (he : C.P.underlying el = some (.int .u8)) (hq : Mir.opd C.P t1 x = some q)
    (hi : ioI call pm C.rt e o.dst (.b2s q) = some e') : Done C o e' tm w := by
  simp only [ioI] at hi
  split at hi
  · cases hi
  rename_i hns
  obtain ⟨xs, hxs, hi1⟩ := Option.bind_eq_some_iff.1 hi
  obtain ⟨ds, hds, hi2⟩ := Option.bind_eq_some_iff.1 hi1
  obtain ⟨l, hl, hput⟩ := Option.bind_eq_some_iff.1 hi2
  clear hi hi1 hi2
  obtain ⟨Fs', h'⟩ := h.putSc hput rfl
  obtain ⟨g1, g2, g3⟩ := bytesD_nums hl
  obtain ⟨d1, d2, d3⟩ := toDss_get hds
  obtain ⟨f1, f2⟩ := toDs_get d3
  have hstr : ∀ l : List UInt8, strOfNums (l.map fun b => (b.toNat : Int)) = ⟨l.toArray⟩ := fun l => by
    unfold strOfNums
    rw [List.map_map]
    have : ((fun n : Int => UInt8.ofNat n.toNat) ∘ fun b : UInt8 => (b.toNat : Int)) = id := by funext b; simp
    rw [this, List.map_id]
  rcases h.look hq hxs with ⟨s, hs', rfl, hv⟩ | ⟨A, c, hv, us, G, ho, hr⟩
  · rw [hs'] at hns; simp [T.str?] at hns
  · have hll : l.length = xs.length := by rw [g2, d1]
    rcases hr with rfl | ⟨b, of, sz, hz, rfl, hsz, hmem⟩
    · have : l = [] := List.eq_nil_of_length_eq_zero (by simpa using hll)
      subst this
      refine done_mk ?_ h'
      have hcv : (convert src dst (.slice A 0 c)).run C.P w = .ok (.string ⟨#[]⟩) w := by
        rw [run_convert_bytes_string w src dst el _ 0 c hs he hd]
        cases A <;> simp [Conv.bytesToString, loadCells, loadCellsFrom] <;> rfl
      simp only [List.length_nil] at hv
      simp [execOp, hop, hv, hcv]
    · have hx1 : ∀ c ∈ xs, c.length = 1 := fun c hc => by
        obtain ⟨j, hj, rfl⟩ := List.getElem_of_mem hc
        have hjd : j < ds.length := by omega
        have := d2 j _ _ (List.getElem?_eq_getElem hj) (List.getElem?_eq_getElem hjd)
        rw [← (toDs_get this).1]
        exact g1 _ (List.getElem_mem hjd)
      have hfl := flat_len hx1
      rw [Nat.mul_one] at hfl
      refine done_mk ?_ h'
      have hcv := run_convert_bytes_arg (P := C.P) w src el hs he b of xs.length c (l.map fun b => (b.toNat : Int)) (by simpa using hll) (fun i hi => by
        have hil : i < l.length := by omega
        have hiu : i < us.length := by rw [← ho.1]; omega
        have h1 := g3 i _ (List.getElem?_eq_getElem hil)
        have hix : i < xs.flatten.length := by omega
        have h2 := f2 i _ _ (List.getElem?_eq_getElem hix) h1
        obtain ⟨_, Fc, o1, _, _⟩ := ho.2 |> fun h => (⟨trivial, h⟩ : True ∧ _)
        have h3 := o1 i _ _ (List.getElem?_eq_getElem hix) (List.getElem?_eq_getElem hiu)
        have h4 : us[i] = .int .u8 (l[i]).toNat := by
          cases hvv : xs.flatten[i] with
          | d y =>
            rw [hvv] at h2 h3
            simp [V.toD] at h2
            subst h2
            cases h3 with
            | d _ hr => exact hr.sc_eq
            | blk _ hh => simp [Shape] at hh
          | own el ys => rw [hvv] at h2; simp [V.toD] at h2
          | row ys => rw [hvv] at h2; simp [V.toD] at h2
          | dead => rw [hvv] at h2; simp [V.toD] at h2
          | box c => rw [hvv] at h2; simp [V.toD] at h2
        rw [hmem i _ (List.getElem?_eq_getElem hiu), h4]
        simp [List.getD, hil]) dst hd
      rw [hstr] at hcv
      simp [execOp, hop, hv, hcv]
end
end Go.Mir

set_option linter.unusedVariables false
set_option linter.unusedSimpArgs false
namespace Go.Mir
open Go.RowKit
theorem setCells_row {g : Nat} {el : TypeId} {fz : Nat × Nat} : ∀ (vs : List Value) (o : Nat) (w : World) (cur : Array Value), w.heap[g]? = some (.cells cur el fz) → o + vs.length ≤ cur.size →
    ∃ cur', (w.setCells g o vs).heap[g]? = some (.cells cur' el fz) ∧ cur'.size = cur.size ∧ (∀ j, j < o → cur'[j]? = cur[j]?) ∧ (∀ (j : Nat) (u : Value), vs[j]? = some u → cur'[o + j]? = some u) ∧
      (∀ b, b ≠ g → (w.setCells g o vs).heap[b]? = w.heap[b]?) ∧ (w.setCells g o vs).os = w.os ∧ (w.setCells g o vs).tape = w.tape ∧ (w.setCells g o vs).output = w.output ∧ (w.setCells g o vs).heap.size = w.heap.size
  | [], o, w, cur, h, _ => ⟨cur, h, rfl, fun _ _ => rfl, by simp, fun _ _ => rfl, rfl, rfl, rfl, rfl⟩
  | v :: vs, o, w, cur, h, hl => by
    simp at hl
    have h1 : (w.setCell ⟨g, o, none⟩ v).heap[g]? = some (.cells (cur.setIfInBounds o v) el fz) := heap_setCell_at (w := w) (ad := ⟨g, o, none⟩) (x := v) h rfl
    obtain ⟨cur', k1, k2, k3, k4, k5, k6, k7, k8, k9⟩ := setCells_row vs (o + 1) (w.setCell ⟨g, o, none⟩ v) _ h1 (by simp; omega)
    refine ⟨cur', k1, by simpa using k2, fun j hj => ?_, fun j u hj => ?_, fun b hb => ?_, k6, k7, k8, by rw [World.setCells, k9]; simp⟩
    · rw [k3 j (by omega)]
      exact Array.getElem?_setIfInBounds_ne (by omega)
    · cases j with
      | zero =>
        simp at hj; subst hj
        rw [Nat.add_zero, k3 o (by omega)]
        have ho : o < cur.size := by omega
        simp [ho]
      | succ j =>
        rw [show o + (j + 1) = o + 1 + j by omega]
        exact k4 j u (by simpa using hj)
    · rw [World.setCells, k5 b hb]
      exact Below.heap_setCell w _ v b hb
section
variable {C : Ctx} {e e' : Env} {tm : Nat → Value} {w : World} {Fs : Nat → Nat → Prop} {o : Oper} {call : FuncId → List T → Option Res} {pm : FuncId → List PM}
theorem Src.ofEmpty {P : Program} {w : World} {sz : Nat} {tx e' : TypeId} (hk : P.underlying tx = some (.slice e')) (A : Option Addr) (c : Nat) : Src P sz tx (.slice A 0 c) 0 [] w := by
  cases A with
  | none => exact Src.ofNil w hk c
  | some a => exact Src.ofSlice w hk a 0 c [] (by simp) (by simp) (by simp)
theorem flat_allD {ys : List (List V)} (h : ys.all (·.all V.isD) = true) : ys.flatten.all V.isD = true := by
  rw [List.all_flatten]; exact h
theorem Rel.src (h : Rel C No e tm w Fs) {t' ty sz : TypeId} {y : Operand} {q : Opd} {str : Bool} (ht' : if str then C.P.underlying t' = some .string ∧ sz = 1 else ∃ el', C.P.underlying t' = some (.slice el')) (hq : Mir.opd C.P ty y = some q)
    (hs : (e.opd q).str?.isSome = str) {ys : List (List V)} (hys : e.elems q = some ys) (hz : 0 < sz) (hsz : ∀ c ∈ ys, c.length = sz) (hown : ys.all (·.all V.isD) = true ∨ ∃ t el, q = .tmp t ∧ e.opd q = .vs false [.own el ys]) :
    ∃ (F : Nat → Prop) (Fs1 : Nat → Nat → Prop) (us : List Value) (G : Nat → Prop), Rel C (fun b => No b ∨ F b) (e.takeO C.rt q).2 tm w Fs1 ∧ OkMono C No Fs (fun b => No b ∨ F b) Fs1 ∧ OwnL C.P w (okOf C.X (fun b => No b ∨ F b) Fs1) ys.flatten us G ∧ (∀ b, G b → F b) ∧ Src C.P sz t' (ev tm y) ys.length us w := by
  obtain ⟨F, Fs1, h1, h2, _, h4, _⟩ := h.takeO hq (t := (e.takeO C.rt q).1) (e' := (e.takeO C.rt q).2) rfl
  have mk : ∀ {A : Option Addr} {c : Nat} {us : List Value} {ok : Nat → Prop} {G : Nat → Prop}, str = false → ev tm y = .slice A ys.length c → OwnL C.P w ok ys.flatten us G →
      (ys = [] ∨ ∃ b o sz, 0 < sz ∧ A = some ⟨b, o, none⟩ ∧ (∀ c ∈ ys, c.length = sz) ∧ ∀ (j : Nat) (u : Value), us[j]? = some u → w.cell? ⟨b, o + j, none⟩ = some u) → Src C.P sz t' (ev tm y) ys.length us w := by
    intro A c us ok G hst hv ho hr
    rw [hst] at ht'
    simp only [Bool.false_eq_true, if_false] at ht'
    obtain ⟨el', hk⟩ := ht'
    rcases hr with rfl | ⟨b, of, sz', _, rfl, hsz', hmem⟩
    · have : us = [] := List.eq_nil_of_length_eq_zero (by rw [← ho.1]; rfl)
      subst this
      rw [hv]; exact Src.ofEmpty hk A c
    · rw [hv]
      exact Src.ofSlice w hk _ _ c us (by rw [← ho.1, flat_len hsz]) (fun j u hj => by rw [add_none]; exact hmem j u hj) ho.one
  rcases h.look hq hys with ⟨s, he, rfl, hv⟩ | ⟨A, c, hv, us, G, ho, hr⟩
  · have hst : str = true := by rw [← hs, he]; rfl
    subst hst
    simp only [if_true] at ht'
    obtain ⟨hk, rfl⟩ := ht'
    have hfl : ∀ l : List UInt8, (((l.map fun b => [D.sc (.int .u8 b.toNat)])).map (·.map V.d)).flatten = l.map fun b => V.d (.sc (.int .u8 b.toNat)) := by
      intro l; induction l with
      | nil => rfl
      | cons b l ih => simp only [List.map_cons, List.flatten_cons, ih]; rfl
    have hlen : ((bytesT s).map (·.map V.d)).length = s.size := by simp [bytesT]
    refine ⟨F, Fs1, byteCells s, No, h1, h4, ?_, fun _ h => h.elim, by rw [hv, hlen]; exact Src.ofString w hk s⟩
    unfold bytesT byteCells
    rw [hfl]
    refine OwnL.ofData (by simp) fun j v u hv hu => ?_
    rw [List.getElem?_map] at hv hu
    obtain ⟨b, hb, rfl⟩ := Option.map_eq_some_iff.1 hv
    rw [hb] at hu
    cases hu
    exact .d (fun _ h => h) (.sc rfl)
  · have hst : str = false := by
      rw [← hs]
      obtain ⟨F0, ht0, _⟩ := h.opd hq
      cases hc : (e.opd q).str? with
      | none => rfl
      | some s =>
        rw [T.str?_eq hc] at ht0
        have := (VS.sc ht0).1
        rw [hv] at this; cases this
    rcases hown with hd | ⟨t, el, rfl, he⟩
    · have hG := OwnL.noD ho (flat_allD hd)
      exact ⟨F, Fs1, us, No, h1, h4, (ho.ext fun b => ⟨fun h => h.elim, fun h => hG b h⟩).ok h4, fun _ h => h.elim, mk hst hv ho hr⟩
    · have hte : (e.takeO C.rt (.tmp t)).1 = .vs false [.own el ys] := by
        simp only [Env.opd] at he
        simp only [Env.takeO, Env.takeT, he]
        split <;> rfl
      rw [hte] at h2
      obtain ⟨A', c', hv', us', G', ho', hG', hr'⟩ := (VS.toOne h2).elems (.inl ⟨_, rfl⟩)
      exact ⟨F, Fs1, us', G', h1, h4, ho', hG', mk hst hv' ho' (hr'.imp id fun ⟨b, sz, h1, h2, h3, h4⟩ => ⟨b, 0, sz, h1, h2, h3, by simpa using h4⟩)⟩
theorem ok_app (h : Rel C No e tm w Fs) {t t' el t1 t2 : TypeId} {x y : Operand} {qx qy : Opd} {str : Bool} (hop : o.op = .call { callee := .builtin .append, args := #[x, y], argTypes := #[t, t'] }) (hu : C.P.underlying t = some (.slice el))
    (ht' : if str then C.P.underlying t' = some .string ∧ C.P.cellsOf el = 1 else ∃ el', C.P.underlying t' = some (.slice el')) (hz : 0 < C.P.cellsOf el) (hb : 0 < C.P.bytesOf el) {zv : Value} (hzv : (C.P.info? el).bind (·.zero) = some zv) (hzs : zv.cells.size = C.P.cellsOf el)
    (hx : Mir.opd C.P t1 x = some qx) (hy : Mir.opd C.P t2 y = some qy) (hi : ioI call pm C.rt e o.dst (.app str el (C.P.cellsOf el) (C.P.bytesOf el) qx qy) = some e') : Done C o e' tm w := by
  simp only [ioI] at hi
  split at hi
  · rename_i hstr
    obtain ⟨ys, hys, hi1⟩ := Option.bind_eq_some_iff.1 hi
    clear hi
    split at hi1
    case isFalse => cases hi1
    case isTrue hown =>
      obtain ⟨⟨a, cs, e2⟩, hv, hi2⟩ := Option.bind_eq_some_iff.1 hi1
      clear hi1
      split at hi2
      · rename_i _ el' xs e2' heq
        simp only [Prod.mk.injEq] at heq
        obtain ⟨rfl, rfl, rfl⟩ := heq
        split at hi2
        · rename_i hc
          obtain ⟨rfl, hbytes, hall⟩ := hc
          have hsz : ∀ c ∈ ys, c.length = C.P.cellsOf el' := fun c hc => by have := List.all_eq_true.1 hall c hc; simpa using this
          have hown' : ys.all (·.all V.isD) = true ∨ ∃ t el, qy = .tmp t ∧ e.opd qy = .vs false [.own el ys] := by
            by_cases hd : ys.all (·.all V.isD) = true
            · exact .inl hd
            · right
              rw [Bool.or_eq_true] at hown
              have hown := hown.resolve_left hd
              unfold Env.ownTmp at hown
              split at hown
              · rename_i t0 el0 ys0 heq0
                simp only [Env.elems, heq0, Option.some.injEq] at hys
                subst hys
                exact ⟨_, _, rfl, heq0⟩
              · simp at hown
          obtain ⟨Fy, Fs1, us, G, r1, r2, r3, r4, hsrc⟩ := h.src ht' hy hstr hys hz hsz hown'
          obtain ⟨Fx, Fs2, k1, k2, k3, k4⟩ := r1.vals hx hv
          have hownx := VS.toOne k2
          have r3' := r3.ok k4
          obtain ⟨inf, hI, hisz⟩ := info_of_cells hz
          have hiby : inf.bytes = C.P.bytesOf el' := by simp [Program.bytesOf, hI]
          have hz0 : inf.zero = some zv := by rw [hI] at hzv; simpa using hzv
          have hnm : xs.length + ys.length ≤ 140737488355328 := Nat.le_trans (Nat.le_mul_of_pos_right _ hb) hbytes
          have hnm2 : xs.length + ys.length ≤ maxLen := by simp only [maxLen]; omega
          rw [← hisz] at hsrc
          have hul : us.length = ys.length * C.P.cellsOf el' := by rw [← r3.1, flat_len hsz]
          have fin : ∀ {v' : Value} {w' : World} {H : Nat → Prop} {F' : Nat → Prop} {Fs3 : Nat → Nat → Prop}, (Builtin.append_ #[t, t'] o.type #[ev tm x, ev tm y]).run C.P w = .ok v' w' → Rel C H e2 tm w' Fs3 → Own C.P w' (okOf C.X H Fs3) (.own el' (xs ++ ys)) v' F' → (∀ b, F' b → H b) → Done C o e' tm w := by
            intro v' w' H F' Fs3 hr hrel ho hF
            obtain ⟨Fs', h'⟩ := hrel.put hi2 (VS.ofOne ho) hF
            exact done_mk (by simp [execOp, hop, resolve, invoke, builtin, hr]) (h'.letGo (H' := No) fun b hb => hb.elim)
          have grow : ∀ {A : Option Addr} {cap : Nat} {olds : List Value} {Gx : Nat → Prop}, ev tm x = .slice A xs.length cap → cap < xs.length + ys.length → (Builtin.firstCells inf.size xs.length (.slice A xs.length cap)).run C.P w.drew = .ok olds.toArray w.drew →
              OwnL C.P w (okOf C.X (fun b => (No b ∨ Fy b) ∨ Fx b) Fs2) xs.flatten olds Gx → (∀ b, Gx b → Fx b) → (∀ c ∈ xs, c.length = C.P.cellsOf el') → Done C o e' tm w := by
            intro A cap olds Gx hxv hcap hfc hox hGx hxsz
            have hr := run_append_grow_src (P := C.P) w t t' o.type el' inf zv hu hI hz0 A xs.length cap olds hfc (ev tm y) ys.length us hsrc hcap (by omega) (growslice_fits hcap (by rw [hiby]; exact hbytes))
            have hd := k1.world (H' := fun b => (No b ∨ Fy b) ∨ Fx b) (Grow.drew _ w) fun b hb => ⟨.inl hb, (k1.hn b hb).2.2⟩
            have hall2 : OwnL C.P w.drew (okOf C.X (fun b => (No b ∨ Fy b) ∨ Fx b) Fs2) (xs ++ ys).flatten (olds ++ us) (fun b => Gx b ∨ G b) := by
              rw [List.flatten_append]
              exact (OwnL.append hox r3' fun b hb hh => k3 b (hGx b hb) (.inr (r4 b hh))).frame (fun _ _ => rfl) fun b hb _ => ⟨hb, rfl⟩
            have hcg := grownCap_ge w (xs.length + ys.length) cap el'
            have hol : olds.length = xs.length * C.P.cellsOf el' := by rw [← hox.1, flat_len hxsz]
            obtain ⟨m1, m2⟩ := hd.newBlk hall2 (fun b hb => hb.elim (fun hb => .inr (hGx b hb)) fun hb => .inl (.inr (r4 b hb))) ((olds ++ us).toArray ++ Builtin.zeroCells zv.cells (grownCap w (xs.length + ys.length) cap el' - (xs.length + ys.length)))
              (fun j u hj hu => by rw [Array.getElem?_append_left (by simpa using hj)]; simpa using hu) el' (v := .own el' (xs ++ ys)) (u := .slice (some ⟨w.heap.size, 0, none⟩) (xs.length + ys.length) (grownCap w (xs.length + ys.length) cap el'))
              ⟨rfl, rfl, hz, fun c hc => (List.mem_append.1 hc).elim (hxsz c) (hsz c), rfl, _, by rw [List.length_append]; rfl, by rw [List.length_append]; exact hcg, grownCap_le_maxLen w _ cap el' hnm2, by
                rw [Array.size_append, size_zeroCells, hzs, List.size_toArray, List.length_append, hol, hul, ← Nat.add_mul, ← Nat.add_mul]
                congr 1
                omega⟩
            exact fin (by rw [hxv]; exact hr) m1 m2 fun b hb => by
              rcases hb with rfl | hb | hb
              · exact .inr rfl
              · exact .inl (.inr (hGx b hb))
              · exact .inl (.inl (.inr (r4 b hb)))
          generalize hxv : ev tm x = vx at hownx fin
          cases hownx with
          | @nil _ A F hF =>
            by_cases hm : ys.length = 0
            · have hy0 : ys = [] := List.eq_nil_of_length_eq_zero hm
              subst hy0
              have hus : us = [] := List.eq_nil_of_length_eq_zero (by rw [hul]; simp)
              subst hus
              refine fin (v' := .slice A 0 0) (w' := w) ?_ k1 (Own.nil hF) (fun b hb => (hF b hb).elim)
              have hsc := hsrc.cells
              have hsl := hsrc.len
              simp only [List.length_nil] at hsc hsl
              rcases hsrc.kind with ⟨e', hk⟩ | hk <;> cases A <;> simp [Builtin.append_, run_underlying hu, run_underlying hk, sizeOf, typeInfo, hI, hsl, hsc, storeCells]
            · exact grow (A := A) (cap := 0) (olds := []) (Gx := No) hxv (by simp; omega) (by cases A <;> simp [Builtin.firstCells, loadCells, loadCellsFrom]) OwnL.nil (fun _ h => h.elim) (by simp)
          | @blk _ _ g vs cur el2 fz F Fc hh hg hc hd hbb hF =>
            obtain ⟨rfl, rfl, _, hxsz, rfl, cap, rfl, hc1, hc2, hc3⟩ := hh
            have hxl := flat_len hxsz
            have hkids : OwnL C.P w (okOf C.X (fun b => (No b ∨ Fy b) ∨ Fx b) Fs2) xs.flatten (cur.toList.take xs.flatten.length) (fun b => ∃ j, j < xs.flatten.length ∧ Fc j b) := by
              have hle : xs.flatten.length ≤ cur.size := by rw [hxl, hc3]; exact Nat.mul_le_mul_right _ hc1
              refine ⟨by rw [List.length_take, Nat.min_eq_left (by simpa using hle)], Fc, fun j z y hz hy => ?_, hd, fun b => Iff.rfl⟩
              rw [List.getElem?_take] at hy
              split at hy
              · exact hc j z y hz (by simpa using hy)
              · cases hy
            have hGx : ∀ b, (∃ j, j < xs.flatten.length ∧ Fc j b) → Fx b := fun b hb => (hF b).2 (.inr hb)
            by_cases hroom : xs.length + ys.length ≤ cap
            · have hfit : xs.length * C.P.cellsOf el' + us.length ≤ cur.size := by rw [hul, ← Nat.add_mul, hc3]; exact Nat.mul_le_mul_right _ hroom
              obtain ⟨cur', s1, s2, s3, s4, s5, s6, s7, s8, s9⟩ := setCells_row us (xs.length * C.P.cellsOf el') w cur hg hfit
              have hr := run_append_room_src (P := C.P) w t t' o.type el' inf hu hI g 0 xs.length cap (ev tm y) ys.length us hsrc hroom
                (fun j hj => by simp only [World.cell?, hg, hisz]; simp; omega) (fun j hj => by simp [World.frozen?, hg])
              rw [Nat.zero_add, hisz] at hr
              have hgx : Fx g := (hF g).2 (.inl rfl)
              have hgr : Grow (fun b => (No b ∨ Fy b) ∨ Fx b) w (w.setCells g (xs.length * C.P.cellsOf el') us) := ⟨s6, s7, s8, by omega, fun k _ hk => s5 k fun e => hk (.inr (e ▸ hgx))⟩
              have hrel := k1.world (H' := fun b => (No b ∨ Fy b) ∨ Fx b) hgr fun b hb => ⟨.inl hb, by rw [s9]; exact (k1.hn b hb).2.2⟩
              have hoks : ∀ b, okOf C.X (fun b => (No b ∨ Fy b) ∨ Fx b) Fs2 b → b < w.heap.size → okOf C.X (fun b => (No b ∨ Fy b) ∨ Fx b) Fs2 b ∧ (w.setCells g (xs.length * C.P.cellsOf el') us).heap[b]? = w.heap[b]? := fun b hb _ => ⟨hb, s5 b fun e => hb.2.1 (.inr (e ▸ hgx))⟩
              have hkx : OwnL C.P (w.setCells g (xs.length * C.P.cellsOf el') us) (okOf C.X (fun b => (No b ∨ Fy b) ∨ Fx b) Fs2) xs.flatten (cur.toList.take xs.flatten.length) (fun b => ∃ j, j < xs.flatten.length ∧ Fc j b) :=
                hkids.frame (fun b ⟨j, hj, hb⟩ => s5 b fun e => hbb j hj (e ▸ hb)) hoks
              have hky : OwnL C.P (w.setCells g (xs.length * C.P.cellsOf el') us) (okOf C.X (fun b => (No b ∨ Fy b) ∨ Fx b) Fs2) ys.flatten us G :=
                r3'.frame (fun b hb => s5 b fun e => k3 g hgx (.inr (e ▸ r4 b hb))) hoks
              have hboth := OwnL.append hkx hky fun b hb hh => k3 b (hGx b hb) (.inr (r4 b hh))
              rw [← List.flatten_append] at hboth
              obtain ⟨hbl, Fb, b1, b2, b3⟩ := hboth
              have hlt : (cur.toList.take xs.flatten.length).length = xs.length * C.P.cellsOf el' := by rw [← hkids.1, hxl]
              refine fin hr hrel (.blk Fb (fz := (0, 0)) ⟨rfl, rfl, hz, fun c hc => (List.mem_append.1 hc).elim (hxsz c) (hsz c), rfl, cap, by rw [List.length_append], by rw [List.length_append]; exact hroom, hc2, by rw [s2, hc3]⟩ s1 (fun j v u hv hu => ?_) b2 (fun j hj hh => ?_) (fun b => Iff.rfl)) fun b hb => ?_
              · refine b1 j v u hv ?_
                have hj := (List.getElem?_eq_some_iff.1 hv).1
                rcases Nat.lt_or_ge j (xs.length * C.P.cellsOf el') with hjx | hjx
                · rw [List.getElem?_append_left (by omega), List.getElem?_take, if_pos (by omega)]
                  rw [s3 j hjx] at hu
                  simpa using hu
                · obtain ⟨i, rfl⟩ : ∃ i, j = xs.length * C.P.cellsOf el' + i := ⟨j - xs.length * C.P.cellsOf el', by omega⟩
                  rw [List.getElem?_append_right (by omega), hlt, Nat.add_sub_cancel_left]
                  have hiu : i < us.length := by
                    rw [hbl, List.length_append, hlt] at hj; omega
                  rw [s4 i us[i] (List.getElem?_eq_getElem hiu)] at hu
                  rw [List.getElem?_eq_getElem hiu]; exact hu
              · have := (b3 g).2 ⟨j, hj, hh⟩
                rcases this with ⟨i, hi, hh⟩ | hh
                · exact hbb i hi hh
                · exact k3 g hgx (.inr (r4 g hh))
              · rcases hb with rfl | hb
                · exact .inr hgx
                · rcases (b3 b).2 hb with hb | hb
                  · exact .inr (hGx b hb)
                  · exact .inl (.inr (r4 b hb))
            · refine grow (A := some ⟨g, 0, none⟩) (cap := cap) hxv (by omega) ?_ hkids hGx hxsz
              have hlt : (cur.toList.take xs.flatten.length).length = xs.length * C.P.cellsOf el' := by rw [← hkids.1, hxl]
              exact run_firstCells_some (P := C.P) w.drew inf.size xs.length ⟨g, 0, none⟩ xs.length cap _ (by rw [hlt, hisz]) fun j u hj => by
                rw [List.getElem?_take] at hj
                split at hj
                · rw [add_none, Nat.zero_add]
                  simp only [World.cell?, show w.drew.heap = w.heap from rfl, hg]
                  simpa using hj
                · cases hj
        · cases hi2
      · cases hi2
  · cases hi
end
end Go.Mir

set_option linter.unusedVariables false
set_option linter.unusedSimpArgs false
namespace Go.Mir
open Go.RowKit
theorem V.get_append : ∀ {p q : Pt} {v : V}, v.get (p ++ q) = (v.get p).bind fun x => x.get q
  | [], q, v => by rw [V.get_nil]; rfl
  | s :: p, q, v => by
    rw [List.cons_append, V.get_cons, V.get_cons]
    cases v.kid s with
    | none => rfl
    | some x => exact V.get_append
def V.sub (v v0 : V) : Prop := ∀ p, (v.get p).isSome → (v0.get p).isSome ∧ ∀ w u, adrOf w v u p = adrOf w v0 u p
theorem V.sub_refl (v : V) : v.sub v := fun p h => ⟨h, fun _ _ => rfl⟩
theorem V.sub_trans {a b c : V} (h : a.sub b) (k : b.sub c) : a.sub c := fun p hp => ⟨(k p (h p hp).1).1, fun w u => ((h p hp).2 w u).trans ((k p (h p hp).1).2 w u)⟩
theorem V.sub_set {p : Pt} {v v1 : V} (h : v.set p .dead = some v1) : v1.sub v := by
  intro q hq
  have hn : ¬ (p <+: q ∧ p ≠ q) := by
    rintro ⟨⟨r, rfl⟩, hne⟩
    rw [V.get_append, V.get_set h] at hq
    cases r with
    | nil => exact hne (by simp)
    | cons s r => simp [V.get] at hq
  refine ⟨?_, fun w u => adrOf_set w h hn⟩
  by_cases h1 : p <+: q
  · have : p = q := Classical.byContradiction fun hne => hn ⟨h1, hne⟩
    subst this
    obtain ⟨x, hx⟩ := V.get_of_set h
    simp [hx]
  · by_cases h2 : q <+: p
    · obtain ⟨r, rfl⟩ := h2
      obtain ⟨x, hx⟩ := V.get_of_set h
      rw [V.get_append] at hx
      cases hg : v.get q with
      | none => simp [hg] at hx
      | some y => rfl
    · rw [← V.get_set_other h h1 h2]; exact hq
def Env.sub (e1 e : Env) : Prop := ∀ r a cs, e1.get r = .vs a cs → ∃ cs0, e.get r = .vs a cs0 ∧ cs.length = cs0.length ∧ ∀ (k : Nat) (v : V), cs[k]? = some v → ∃ v0, cs0[k]? = some v0 ∧ v.sub v0
theorem Env.sub_refl (e : Env) : e.sub e := fun r a cs h => ⟨cs, h, rfl, fun k v hv => ⟨v, hv, V.sub_refl v⟩⟩
theorem Env.sub_trans {a b c : Env} (h : a.sub b) (k : b.sub c) : a.sub c := fun r g cs hr => by
  obtain ⟨cs0, h1, h2, h3⟩ := h r g cs hr
  obtain ⟨cs1, k1, k2, k3⟩ := k r g cs0 h1
  refine ⟨cs1, k1, h2.trans k2, fun i v hv => ?_⟩
  obtain ⟨v0, g1, g2⟩ := h3 i v hv
  obtain ⟨v1, m1, m2⟩ := k3 i v0 g1
  exact ⟨v1, m1, V.sub_trans g2 m2⟩
theorem Env.sub_plv {w : World} {e e1 : Env} {tm : Nat → Value} {r k : Nat} {p : Pt} {x : Value} (h : e1.sub e) (hp : PlV w e tm r k p x) (hc : (e1.cell r k p).isSome) : PlV w e1 tm r k p x := by
  obtain ⟨a, cs, v, u, h1, h2, h3, h4, h5⟩ := hp
  obtain ⟨y, hy⟩ := Option.isSome_iff_exists.1 hc
  obtain ⟨a', cs', v', g1, g2, g3⟩ := Env.cell_some hy
  obtain ⟨cs0, k1, k2, k3⟩ := h r a' cs' g1
  rw [h1] at k1; cases k1
  obtain ⟨v0, m1, m2⟩ := k3 k v' g2
  rw [h2] at m1; cases m1
  refine ⟨a, cs', v', u, g1, g2, h3, by rw [g3]; rfl, ?_⟩
  cases p with
  | nil => exact h5
  | cons s p => simp only [valOf] at h5 ⊢; rw [(m2 _ (by rw [g3]; rfl)).2]; exact h5
theorem T.killR_vs {r : Nat} {t : T} {a : Bool} {cs : List V} (h : t.killR r = .vs a cs) : t = .vs a cs := by
  unfold T.killR at h; split at h
  · cases h
  · exact h
theorem T.kill_vs {r k : Nat} {q : Pt} {t : T} {a : Bool} {cs : List V} (h : t.kill r k q = .vs a cs) : t = .vs a cs := by
  cases t <;> simp only [T.kill] at h <;> (try split at h) <;> first | exact h | cases h
theorem Env.sub_dead (rt : Views) (e : Env) (t : Nat) : Env.sub ((t, .dead) :: e.killR rt t) e := by
  intro r a cs hr
  simp only [Env.get] at hr
  split at hr
  · cases hr
  · unfold Env.killR at hr
    rw [Env.get_over] at hr
    have : e.get r = .vs a cs := by split at hr; exact T.killR_vs hr; exact hr
    exact ⟨cs, this, rfl, fun k v hv => ⟨v, hv, V.sub_refl v⟩⟩
theorem Env.sub_takePl {rt : Views} {e e1 : Env} {r k : Nat} {p : Pt} {v : V} (h : e.takePl rt r k p = some (v, e1)) : e1.sub e := by
  unfold Env.takePl at h
  obtain ⟨y, _, h⟩ := Option.bind_eq_some_iff.1 h
  obtain ⟨e2, he, h⟩ := Option.map_eq_some_iff.1 h
  simp only [Prod.mk.injEq] at h
  obtain ⟨_, rfl⟩ := h
  obtain ⟨a, cs, v0, v1, hr, hc, hs, rfl⟩ := Env.setCell_some he
  intro r' a' cs' hr'
  unfold Env.kill at hr'
  rw [Env.get_over] at hr'
  have h1 : Env.get ((r, T.vs a (cs.set k v1)) :: e) r' = .vs a' cs' := by split at hr'; exact T.kill_vs hr'; exact hr'
  simp only [Env.get] at h1
  split at h1
  · rename_i hrr
    subst hrr
    cases h1
    refine ⟨cs, hr, by simp, fun i z hz => ?_⟩
    by_cases hi : i = k
    · subst hi
      rw [List.getElem?_set_self (List.getElem?_eq_some_iff.1 hc).1] at hz; cases hz
      exact ⟨v0, hc, V.sub_set hs⟩
    · rw [List.getElem?_set_ne (Ne.symm hi)] at hz
      exact ⟨z, hz, V.sub_refl z⟩
  · exact ⟨cs', h1, rfl, fun i z hz => ⟨z, hz, V.sub_refl z⟩⟩
theorem Env.sub_takeO (rt : Views) (e : Env) (o : Opd) : (e.takeO rt o).2.sub e := by
  cases o with
  | tmp t =>
    simp only [Env.takeO, Env.takeT]
    split
    · split
      · exact Env.sub_refl e
      · exact Env.sub_dead rt e t
    · split
      · exact Env.sub_refl e
      · exact Env.sub_dead rt e t
    · exact Env.sub_refl e
  | con x => exact Env.sub_refl e
  | fn f => exact Env.sub_refl e
theorem Env.sub_takeAt {rt : Views} {r k : Nat} {p : Pt} : ∀ {n : Nat} {e e1 : Env} {i : Nat} {cs : List V}, Env.takeAt rt r k p e i n = some (cs, e1) → e1.sub e
  | 0, e, e1, i, cs, h => by simp [Env.takeAt] at h; obtain ⟨_, rfl⟩ := h; exact Env.sub_refl _
  | n + 1, e, e1, i, cs, h => by
    simp only [Env.takeAt] at h
    obtain ⟨q, _, h⟩ := Option.bind_eq_some_iff.1 h
    obtain ⟨⟨v, e2⟩, h1, h⟩ := Option.bind_eq_some_iff.1 h
    obtain ⟨⟨vs, e3⟩, h2, h⟩ := Option.map_eq_some_iff.1 h
    simp only [Prod.mk.injEq] at h
    obtain ⟨_, rfl⟩ := h
    exact Env.sub_trans (Env.sub_takeAt h2) (Env.sub_takePl h1)
theorem Env.sub_vals {rt : Views} {e e1 : Env} {o : Opd} {a : Bool} {cs : List V} (h : e.vals rt o = some (a, cs, e1)) : e1.sub e := by
  have h0 := Env.sub_takeO rt e o
  unfold Env.vals at h
  split at h
  · rename_i heq
    rw [heq] at h0
    simp only [Option.some.injEq, Prod.mk.injEq] at h
    obtain ⟨_, _, rfl⟩ := h
    exact h0
  · rename_i heq
    rw [heq] at h0
    obtain ⟨⟨v, e2⟩, hp, h⟩ := Option.map_eq_some_iff.1 h
    simp only [Prod.mk.injEq] at h
    obtain ⟨_, _, rfl⟩ := h
    exact Env.sub_trans (Env.sub_takePl hp) h0
  · rename_i heq
    rw [heq] at h0
    obtain ⟨⟨v, e2⟩, hp, h⟩ := Option.map_eq_some_iff.1 h
    simp only [Prod.mk.injEq] at h
    obtain ⟨_, _, rfl⟩ := h
    exact Env.sub_trans (Env.sub_takeAt hp) h0
  · cases h
abbrev TRe (P : Program) (w : World) (ok : Nat → Prop) (t : T) (u : Value) (F : Nat → Prop) : Prop := TR P w ok [] (fun _ => undef) t u F
section
variable {C : Ctx} {tm : Nat → Value} {w : World}
theorem Own.rest {P : Program} {ok : Nat → Prop} {y : V} {uy : Value} {Fy : Nat → Prop} (h : Own P w ok y uy Fy) {c : List V} {i j : Nat} (hy : (∃ el xs, y = .own el xs ∧ xs[i]? = some c) ∨ (∃ xs, y = .row xs ∧ xs[i]? = some c) ∨ (y = .box c ∧ i = 0)) (hj : j < c.length)
    {ds : List D} (hd : toDs (c.drop j) = some ds) : ∃ g, hdBlk uy = some g ∧ AdrR w (fun b => ok b ∨ Fy b) ds (.pointer (some ⟨g, y.idx (i, j), none⟩)) := by
  cases h with
  | dead => rcases hy with ⟨_, _, h, _⟩ | ⟨_, h, _⟩ | ⟨h, _⟩ <;> cases h
  | d => rcases hy with ⟨_, _, h, _⟩ | ⟨_, h, _⟩ | ⟨h, _⟩ <;> cases h
  | nil => rcases hy with ⟨_, _, h, h2⟩ | ⟨_, h, _⟩ | ⟨h, _⟩ <;> first | (cases h; simp at h2) | cases h
  | @blk _ _ g vs cur e fz F Fc hh hg hc hdj hb hF =>
    refine ⟨g, hh.blk, ?_⟩
    have hidx : ∀ (m : Nat) (v : V), c[j + m]? = some v → vs[y.idx (i, j) + m]? = some v := by
      intro m v hv
      have hk : y.kid (i, j + m) = some v := by
        rcases hy with ⟨el, xs, rfl, hx⟩ | ⟨xs, rfl, hx⟩ | ⟨rfl, rfl⟩ <;> simp [V.kid, *]
      rw [← V.kid_idx hk]
      exact hh.kid hk
    obtain ⟨hl, hget⟩ := toDs_get hd
    have hlen : (c.drop j).length = c.length - j := List.length_drop
    have hvl := hh.len
    have hin : ∀ m, m < c.length - j → y.idx (i, j) + m < vs.length := fun m hm => by
      have := hidx m c[j + m] (List.getElem?_eq_getElem (by omega))
      exact (List.getElem?_eq_some_iff.1 this).1
    refine ⟨by intro e; rw [e] at hl; simp at hl; omega, g, _, (cur.toList.drop (y.idx (i, j))).take (c.length - j), rfl, .inr ((hF g).2 (.inl rfl)), ?_, fun m u hu => ?_, fun m d u hd' hu => ?_⟩
    · rw [List.length_take, List.length_drop, hl, hlen]
      have := hin (c.length - j - 1) (by omega)
      simp; omega
    · rw [List.getElem?_take] at hu
      split at hu
      · simp only [World.cell?, hg]; simpa using hu
      · cases hu
    · rw [List.getElem?_take] at hu
      split at hu
      · rename_i hm
        have hv : c[j + m]? = some c[j + m] := List.getElem?_eq_getElem (by omega)
        have hd2 := hget m c[j + m] d (by rw [List.getElem?_drop]; exact hv) hd'
        have hu' : cur[y.idx (i, j) + m]? = some u := by simpa using hu
        have hown := hc _ _ _ (hidx m _ hv) hu'
        exact (hown.freeze hd2).mono fun b hb' _ => ⟨hb'.imp id fun hb' => (hF b).2 (.inr ⟨_, hin m hm, hb'⟩), rfl⟩
      · cases hu
theorem Rel.restAt {H : Nat → Prop} {e : Env} {Fs : Nat → Nat → Prop} (h : Rel C H e tm w Fs) {r k : Nat} {p : Pt} {ad : Addr} {vs : List V} {ds : List D} (hp : PlA w e tm r k p ad) (hr : e.restAt r k p = some vs) (hd : toDs vs = some ds) :
    AdrR w (fun b => ¬ H b) ds (.pointer (some ad)) := by
  unfold Env.restAt at hr
  cases hl : p.getLast? with
  | none => simp [hl] at hr
  | some s =>
    obtain ⟨i, j⟩ := s
    rw [hl] at hr
    simp only at hr
    have hpp : p = p.dropLast ++ [(i, j)] := by
      rw [List.getLast?_eq_some_iff] at hl
      obtain ⟨q, rfl⟩ := hl
      simp
    cases hc : e.cell r k p.dropLast with
    | none => simp [hc] at hr
    | some y =>
      rw [hc] at hr
      obtain ⟨a, cs, v, u, h1, h2, h3, h4⟩ := hp
      obtain ⟨a', cs', v', g1, g2, g3⟩ := Env.cell_some hc
      rw [h1] at g1; cases g1
      rw [h2] at g2; cases g2
      obtain ⟨F, hF, hs⟩ := h.root h1 h2 h3
      obtain ⟨uy, Fy, _, _, k1, k2, _, _, k3, _⟩ := hF.hole g3
      have key : ∀ c, ((∃ el xs, y = .own el xs ∧ xs[i]? = some c) ∨ (∃ xs, y = .row xs ∧ xs[i]? = some c) ∨ (y = .box c ∧ i = 0)) → j < c.length → vs = c.drop j → AdrR w (fun b => ¬ H b) ds (.pointer (some ad)) := by
        rintro c hy hj rfl
        obtain ⟨g, m1, m2⟩ := k2.rest hy hj hd
        have := adrOf_snoc (s := (i, j)) k1 g3 m1
        rw [← hpp, h4] at this
        cases this
        exact m2.mono fun b hb _ => ⟨hb.elim (fun hb => hb.2.1) fun hb => (h.hx r b (hs b ((k3 b).2 (.inr hb)))).2, rfl⟩
      cases y with
      | own el xs =>
        simp only at hr
        obtain ⟨c, hcx, hr⟩ := Option.bind_eq_some_iff.1 hr
        split at hr
        · rename_i hj; cases hr; exact key c (.inl ⟨_, _, rfl, hcx⟩) hj rfl
        · cases hr
      | row xs =>
        simp only at hr
        obtain ⟨c, hcx, hr⟩ := Option.bind_eq_some_iff.1 hr
        split at hr
        · rename_i hj; cases hr; exact key c (.inr (.inl ⟨_, rfl, hcx⟩)) hj rfl
        · cases hr
      | box c =>
        simp only at hr
        split at hr
        · rename_i hj; cases hr; exact key c (.inr (.inr ⟨rfl, hj.1⟩)) hj.2 rfl
        · cases hr
      | _ => simp at hr
theorem TR.env {P : Program} {ok : Nat → Prop} {e : Env} {t : T} {u : Value} {F : Nat → Prop} (h : TR P w ok e tm t u F) (ht : ∃ a cs, t = .vs a cs) : TRe P w ok t u F := by
  obtain ⟨a, cs, rfl⟩ := ht; exact h
theorem Rel.capsRo {H : Nat → Prop} {e : Env} {Fs : Nat → Nat → Prop} (h : Rel C H e tm w Fs) : ∀ {caps us : List T} {vs : List Value} {b : Bool}, caps.length = vs.length → (∀ (j : Nat) (t : T) (u : Value), caps[j]? = some t → vs[j]? = some u → CapR C.P w (okOf C.X H Fs) e tm t u) →
    Mir.capsRo e caps = some (us, b) → us.length = vs.length ∧ (∀ t ∈ us, (∃ a cs, t = .vs a cs ∧ cs.all V.isD = true) ∨ ∃ c, t = .adr c) ∧
      ∀ (j : Nat) (t : T) (u : Value), us[j]? = some t → vs[j]? = some u → TRe C.P w (fun b => ¬ H b) t u No ∧ (b = false → TRe C.P w (okOf C.X H Fs) t u No)
  | [], us, vs, b, hl, _, hc => by
    simp [Mir.capsRo] at hc
    obtain ⟨rfl, rfl⟩ := hc
    exact ⟨hl, by simp, by simp⟩
  | c :: caps, us, [], b, hl, _, _ => by simp at hl
  | c :: caps, us, v :: vs, b, hl, hall, hc => by
    have h0 := hall 0 c v rfl rfl
    have hr : ∀ (j : Nat) (t : T) (u : Value), caps[j]? = some t → vs[j]? = some u → CapR C.P w (okOf C.X H Fs) e tm t u := fun j t u h1 h2 => hall (j + 1) t u (by simpa using h1) (by simpa using h2)
    have hnh : ∀ b, okOf C.X H Fs b → ¬ H b := fun b hb => hb.2.1
    cases c with
    | at_ r k p =>
      simp only [Mir.capsRo] at hc
      obtain ⟨rs, hrs, hc⟩ := Option.bind_eq_some_iff.1 hc
      obtain ⟨ds, hds, hc⟩ := Option.bind_eq_some_iff.1 hc
      obtain ⟨⟨us', b'⟩, hus, hc⟩ := Option.map_eq_some_iff.1 hc
      simp only [Prod.mk.injEq] at hc
      obtain ⟨rfl, rfl⟩ := hc
      obtain ⟨g1, g2, g3⟩ := Rel.capsRo h (by simpa using hl) hr hus
      obtain ⟨ad, rfl, hp⟩ := h0
      refine ⟨by simp [g1], fun t ht => ?_, fun j t u hj hu => ⟨?_, fun hb => by cases hb⟩⟩
      · rcases List.mem_cons.1 ht with rfl | ht
        · exact .inr ⟨_, rfl⟩
        · exact g2 t ht
      · cases j with
        | zero => simp at hj hu; subst hj; subst hu; exact ⟨fun _ h => h, h.restAt hp hrs hds⟩
        | succ j => exact (g3 j t u (by simpa using hj) (by simpa using hu)).1
    | vs a cs =>
      simp only [Mir.capsRo] at hc
      split at hc
      · rename_i hd
        obtain ⟨⟨us', b'⟩, hus, hc⟩ := Option.map_eq_some_iff.1 hc
        simp only [Prod.mk.injEq] at hc
        obtain ⟨rfl, rfl⟩ := hc
        obtain ⟨g1, g2, g3⟩ := Rel.capsRo h (by simpa using hl) hr hus
        refine ⟨by simp [g1], fun t ht => ?_, fun j t u hj hu => ?_⟩
        · rcases List.mem_cons.1 ht with rfl | ht
          · exact .inl ⟨_, _, rfl, hd⟩
          · exact g2 t ht
        · cases j with
          | zero => simp at hj hu; subst hj; subst hu; exact ⟨VS.okMono h0.2 hnh, fun _ => h0.2⟩
          | succ j => exact g3 j t u (by simpa using hj) (by simpa using hu)
      · cases hc
    | adr c =>
      simp only [Mir.capsRo] at hc
      obtain ⟨⟨us', b'⟩, hus, hc⟩ := Option.map_eq_some_iff.1 hc
      simp only [Prod.mk.injEq] at hc
      obtain ⟨rfl, rfl⟩ := hc
      obtain ⟨g1, g2, g3⟩ := Rel.capsRo h (by simpa using hl) hr hus
      refine ⟨by simp [g1], fun t ht => ?_, fun j t u hj hu => ?_⟩
      · rcases List.mem_cons.1 ht with rfl | ht
        · exact .inr ⟨_, rfl⟩
        · exact g2 t ht
      · cases j with
        | zero => simp at hj hu; subst hj; subst hu; exact ⟨⟨fun _ h => h, h0.mono fun b hb _ => ⟨hnh b hb, rfl⟩⟩, fun _ => ⟨fun _ h => h, h0⟩⟩
        | succ j => exact g3 j t u (by simpa using hj) (by simpa using hu)
    | _ => exact h0.elim
end
end Go.Mir

set_option linter.unusedVariables false
set_option linter.unusedSimpArgs false
namespace Go.Mir
open Go.RowKit
theorem Env.sub_cell {e1 e : Env} {r k : Nat} {p : Pt} (h : e1.sub e) (hc : (e1.cell r k p).isSome) : (e.cell r k p).isSome := by
  obtain ⟨y, hy⟩ := Option.isSome_iff_exists.1 hc
  obtain ⟨a', cs', v', g1, g2, g3⟩ := Env.cell_some hy
  obtain ⟨cs0, k1, k2, k3⟩ := h r a' cs' g1
  obtain ⟨v0, m1, m2⟩ := k3 k v' g2
  obtain ⟨z, hz⟩ := Option.isSome_iff_exists.1 (m2 p (by rw [g3]; rfl)).1
  simp only [Env.cell, k1, m1, Option.bind_some, hz]
  rfl
def A1R (C : Ctx) (H1 : Nat → Prop) (e1 : Env) (tm : Nat → Value) (w : World) (Fs1 : Nat → Nat → Prop) (m : PM) (a : Option Arg) (u : Value) (F : Nat → Prop) : Prop :=
  match a with
  | none => (∀ b, ¬ F b) ∧ m.isIo = false
  | some a => TRe C.P w (okOf C.X H1 Fs1) a.t u F ∧ a.look = false ∧ (∃ ag cs, a.t = .vs ag cs) ∧
    match a.back with
    | none => m.isIo = false
    | some (r, k, p) => m.isIo = true ∧ ((e1.cell r k p).isSome → PlV w e1 tm r k p u)
theorem A1R.mono {C : Ctx} {H1 H2 : Nat → Prop} {e1 e2 : Env} {tm : Nat → Value} {w : World} {Fs1 Fs2 : Nat → Nat → Prop} {m : PM} {a : Option Arg} {u : Value} {F : Nat → Prop} (h : A1R C H1 e1 tm w Fs1 m a u F)
    (hs : e2.sub e1) (ho : OkMono C H1 Fs1 H2 Fs2) : A1R C H2 e2 tm w Fs2 m a u F := by
  cases a with
  | none => exact h
  | some a =>
    obtain ⟨t, look, back⟩ := a
    obtain ⟨h1, h2, h3, h4⟩ := h
    refine ⟨h1.okMono ho, h2, h3, ?_⟩
    cases back with
    | none => exact h4
    | some b => obtain ⟨r, k, p⟩ := b; exact ⟨h4.1, fun hc => Env.sub_plv hs (h4.2 (Env.sub_cell hs hc)) hc⟩
theorem cells_spec {f : Nat → Option V} : ∀ {n i : Nat} {vs : List V}, cells f i n = some vs → vs.length = n ∧ ∀ (j : Nat) (v : V), vs[j]? = some v → f (i + j) = some v
  | 0, i, vs, h => by simp [cells] at h; subst h; simp
  | n + 1, i, vs, h => by
    simp only [cells] at h
    obtain ⟨v, hv, h⟩ := Option.bind_eq_some_iff.1 h
    obtain ⟨vs', hvs, rfl⟩ := Option.map_eq_some_iff.1 h
    obtain ⟨g1, g2⟩ := cells_spec hvs
    refine ⟨by simp [g1], fun j y hj => ?_⟩
    cases j with
    | zero => simp at hj; subst hj; exact hv
    | succ j => rw [show i + (j + 1) = i + 1 + j by omega]; exact g2 j y (by simpa using hj)
section
variable {C : Ctx} {tm : Nat → Value} {w : World}
theorem Rel.arg1 {H : Nat → Prop} {e e1 : Env} {Fs : Nat → Nat → Prop} (h : Rel C H e tm w Fs) {ty : TypeId} {x : Operand} {q : Opd} (hq : Mir.opd C.P ty x = some q) {m : PM} {a : Option Arg} (ha : e.arg1 C.rt m q = some (a, e1)) :
    ∃ (F : Nat → Prop) (Fs1 : Nat → Nat → Prop), Rel C (fun b => H b ∨ F b) e1 tm w Fs1 ∧ OkMono C H Fs (fun b => H b ∨ F b) Fs1 ∧ (∀ b, F b → ¬ H b) ∧ e1.sub e ∧ A1R C (fun b => H b ∨ F b) e1 tm w Fs1 m a (ev tm x) F := by
  have noop : m = .ro → (a, e1) = (none, e) → ∃ (F : Nat → Prop) (Fs1 : Nat → Nat → Prop), Rel C (fun b => H b ∨ F b) e1 tm w Fs1 ∧ OkMono C H Fs (fun b => H b ∨ F b) Fs1 ∧ (∀ b, F b → ¬ H b) ∧ e1.sub e ∧ A1R C (fun b => H b ∨ F b) e1 tm w Fs1 m a (ev tm x) F := fun hm he => by
    simp only [Prod.mk.injEq] at he
    obtain ⟨rfl, rfl⟩ := he
    obtain ⟨h1, h2⟩ := h.noH (G := No) (fun _ h => h)
    exact ⟨No, Fs, h1, h2, fun _ h => h.elim, Env.sub_refl _, fun _ h => h, by rw [hm]; rfl⟩
  obtain ⟨F0, ht, hw⟩ := h.opd hq
  cases m with
  | ro =>
    simp only [Env.arg1] at ha
    split at ha
    · rename_i t ag cs heq
      split at ha
      · simp only [Option.some.injEq] at ha; exact noop rfl ha.symm
      · split at ha
        · rename_i hnd _ ds hds
          simp only [Option.some.injEq, Prod.mk.injEq] at ha
          obtain ⟨rfl, rfl⟩ := ha
          rcases hw with ⟨t2, h1, rfl, hFt⟩ | ⟨_, _, hn⟩
          · cases h1
            rw [heq] at ht
            obtain ⟨k1, k2, k3⟩ := h.empty t hFt
            have k4 := k1.letGo (H' := fun b => H b ∨ No b) fun b hb => hb.elim .inl fun h => h.elim
            refine ⟨No, _, k4, fun b hb => ?_, fun _ h => h.elim, Env.sub_dead _ _ _, ?_, rfl, ⟨_, _, rfl⟩, rfl⟩
            · have := k2 b hb
              exact ⟨this.1, fun hh => this.2.1 (hh.elim .inl fun h => h.elim), this.2.2⟩
            · refine VS.freeze ht hds fun b hb => ?_
              rcases hb with hb | hb
              · have := k2 b hb
                exact ⟨this.1, fun hh => this.2.1 (hh.elim .inl fun h => h.elim), this.2.2⟩
              · refine ⟨(h.hx t b ((hFt b).1 hb)).1, fun hh => hh.elim (h.hx t b ((hFt b).1 hb)).2 fun h => h, fun t' => ?_⟩
                by_cases e1 : t' = t
                · simp [e1]
                · simp only [e1, if_false]; exact fun hh => h.dj t' t b e1 hh ((hFt b).1 hb)
          · exact (hn _ rfl).elim
        · simp only [Option.some.injEq] at ha; exact noop rfl ha.symm
    · simp only [Option.some.injEq] at ha; exact noop rfl ha.symm
  | own =>
    simp only [Env.arg1] at ha
    obtain ⟨⟨ag, cs, e2⟩, hv, heq⟩ := Option.map_eq_some_iff.1 ha
    simp only [Prod.mk.injEq] at heq
    obtain ⟨rfl, rfl⟩ := heq
    obtain ⟨F, Fs1, h1, h2, h3, h4⟩ := h.vals hq hv
    exact ⟨F, Fs1, h1, h4, h3, Env.sub_vals hv, h2, rfl, ⟨_, _, rfl⟩, rfl⟩
  | io =>
    simp only [Env.arg1] at ha
    split at ha
    · rename_i t v0 heq
      obtain ⟨⟨v, e2⟩, hv, he⟩ := Option.map_eq_some_iff.1 ha
      simp only [Prod.mk.injEq] at he
      obtain ⟨rfl, rfl⟩ := he
      rcases hw with ⟨t2, h1, rfl, hFt⟩ | ⟨_, _, hn⟩
      · cases h1
        have hpv : PlV w e tm t 0 [] (tm t) := ⟨false, _, _, tm t, heq, rfl, by simp [Mir.cellsOf], by simp [V.get_nil], rfl⟩
        obtain ⟨F, Fs1, k1, k2, k3, k4, k5, _⟩ := h.takeRef hpv hv
        exact ⟨F, Fs1, k1, k4, k3, Env.sub_takePl hv, VS.ofOne k2, rfl, ⟨_, _, rfl⟩, rfl, fun _ => k5⟩
      · exact (hn _ rfl).elim
    · rename_i r k p _ heq
      obtain ⟨⟨v, e2⟩, hv, he⟩ := Option.map_eq_some_iff.1 ha
      simp only [Prod.mk.injEq] at he
      obtain ⟨rfl, rfl⟩ := he
      rw [heq] at ht
      obtain ⟨F, Fs1, k1, k2, k3, k4, k5, _⟩ := h.takeRef ht.2 hv
      exact ⟨F, Fs1, k1, k4, k3, Env.sub_takePl hv, VS.ofOne k2, rfl, ⟨_, _, rfl⟩, rfl, fun _ => k5⟩
    · rename_i r k p heq
      split at ha
      · rename_i hlast
        obtain ⟨⟨v, e2⟩, hv, he⟩ := Option.bind_eq_some_iff.1 ha
        simp only at he
        split at he
        · rename_i c
          simp only [Option.some.injEq, Prod.mk.injEq] at he
          obtain ⟨rfl, rfl⟩ := he
          rw [heq] at ht
          obtain ⟨_, ad, hx, hpa⟩ := ht
          have hpp : p = p.dropLast ++ [(0, 0)] := by
            rw [List.getLast?_eq_some_iff] at hlast
            obtain ⟨q, rfl⟩ := hlast
            simp
          obtain ⟨Fs', Fx, ux, g1, g2, g3, g4, g5, g6, g7, _⟩ := h.takePl hv
          have hux : ux = ev tm x := by
            rw [hx]
            obtain ⟨a1, cs1, v1, u1, m1, m2, m3, m4, m5⟩ := g3
            obtain ⟨a2, cs2, v2, u2, n1, n2, n3, n4⟩ := hpa
            rw [m1] at n1; cases n1
            rw [m2] at n2; cases n2
            rw [m3] at n3; cases n3
            have hcell : ∃ y, v1.get p.dropLast = some y ∧ y = .box c := by
              unfold Env.takePl at hv
              obtain ⟨y, hy, hv⟩ := Option.bind_eq_some_iff.1 hv
              obtain ⟨z, _, hv⟩ := Option.map_eq_some_iff.1 hv
              simp only [Prod.mk.injEq] at hv
              simp only [Env.cell, m1, m2, Option.bind_some] at hy
              exact ⟨y, hy, hv.1⟩
            obtain ⟨_, hy, rfl⟩ := hcell
            cases g2 with
            | blk _ hh =>
              obtain ⟨_, _, _, rfl⟩ := hh
              have := adrOf_snoc (s := (0, 0)) m5 hy rfl
              rw [← hpp, n4] at this
              simp [V.idx] at this
              rw [this]
          subst hux
          obtain ⟨F, Fs1, k1, k2, k3, k4, k5, _⟩ := h.takeRef g3 hv
          exact ⟨F, Fs1, k1, k4, k3, Env.sub_takePl hv, VS.ofOne k2, rfl, ⟨_, _, rfl⟩, rfl, fun _ => k5⟩
        · cases he
      · cases ha
    · cases ha
theorem Rel.args1 : ∀ {ms : List PM} {os : List Operand} {qs : List Opd} {H : Nat → Prop} {e e1 : Env} {Fs : Nat → Nat → Prop} {l : List (Option Arg)}, Rel C H e tm w Fs → All2 (fun (a : Operand) (b : Opd) => ∃ ty, Mir.opd C.P ty a = some b) os qs →
    Env.args1 C.rt ms e qs = some (l, e1) →
    ∃ (Fl Fs1 : Nat → Nat → Prop), Rel C (fun b => H b ∨ ∃ j, j < os.length ∧ Fl j b) e1 tm w Fs1 ∧ OkMono C H Fs (fun b => H b ∨ ∃ j, j < os.length ∧ Fl j b) Fs1 ∧ l.length = os.length ∧ os.length ≤ ms.length ∧
      (∀ i j b, i < os.length → j < os.length → i ≠ j → Fl i b → ¬ Fl j b) ∧ (∀ j b, j < os.length → Fl j b → ¬ H b) ∧ e1.sub e ∧
      ∀ (j : Nat) (m : PM) (a : Option Arg) (x : Operand), ms[j]? = some m → l[j]? = some a → os[j]? = some x → A1R C (fun b => H b ∨ ∃ j, j < os.length ∧ Fl j b) e1 tm w Fs1 m a (ev tm x) (Fl j)
  | ms, [], _, H, e, e1, Fs, l, h, .nil, ha => by
    have : l = [] ∧ e1 = e := by cases ms <;> simp [Env.args1] at ha <;> exact ⟨ha.1, ha.2.symm⟩
    obtain ⟨rfl, rfl⟩ := this
    exact ⟨fun _ => No, Fs, h.letGo (fun b hb => hb.elim id fun ⟨_, hj, _⟩ => by simp at hj), fun b hb => ⟨hb.1, fun hh => hh.elim hb.2.1 fun ⟨_, hj, _⟩ => by simp at hj, hb.2.2⟩, rfl, by simp, by simp, by simp, Env.sub_refl _, by simp⟩
  | ms, x :: os, _, H, e, e2, Fs, l, h, .cons (b := q) (bs := qs) ⟨ty, hq⟩ hr, ha => by
    cases ms with
    | nil => simp [Env.args1] at ha
    | cons m ms =>
      simp only [Env.args1] at ha
      obtain ⟨⟨a, e1⟩, ha1, ha⟩ := Option.bind_eq_some_iff.1 ha
      obtain ⟨⟨l', e3⟩, ha2, heq⟩ := Option.map_eq_some_iff.1 ha
      simp only [Prod.mk.injEq] at heq
      obtain ⟨rfl, rfl⟩ := heq
      obtain ⟨F, Fs1, g1, g2, g3, g4, g5⟩ := h.arg1 hq ha1
      obtain ⟨Fl, Fs2, k1, k2, k3, k4, k5, k6, k7, k8⟩ := Rel.args1 g1 hr ha2
      have hH : ∀ b, (H b ∨ ∃ j, j < (x :: os).length ∧ (match j with | 0 => F | j + 1 => Fl j) b) ↔ ((H b ∨ F b) ∨ ∃ j, j < os.length ∧ Fl j b) := by
        intro b
        constructor
        · rintro (hb | ⟨j, hj, hb⟩)
          · exact .inl (.inl hb)
          · cases j with
            | zero => exact .inl (.inr hb)
            | succ j => exact .inr ⟨j, by simpa using hj, hb⟩
        · rintro ((hb | hb) | ⟨j, hj, hb⟩)
          · exact .inl hb
          · exact .inr ⟨0, by simp, hb⟩
          · exact .inr ⟨j + 1, by simpa using hj, hb⟩
      have hok : ∀ b, okOf C.X (fun b => (H b ∨ F b) ∨ ∃ j, j < os.length ∧ Fl j b) Fs2 b → okOf C.X (fun b => H b ∨ ∃ j, j < (x :: os).length ∧ (match j with | 0 => F | j + 1 => Fl j) b) Fs2 b := fun b hb => ⟨hb.1, fun hh => hb.2.1 ((hH b).1 hh), hb.2.2⟩
      refine ⟨fun j => match j with | 0 => F | j + 1 => Fl j, Fs2, k1.ext hH, fun b hb => hok b (k2 b (g2 b hb)), by simp [k3], by simp; omega, fun i j b hi hj hij h1 h2 => ?_, fun j b hj hb => ?_, Env.sub_trans k7 g4, fun j m' a' x' hm ha' hx' => ?_⟩
      · cases i with
        | zero =>
          cases j with
          | zero => exact hij rfl
          | succ j => exact k6 j b (by simpa using hj) h2 (.inr h1)
        | succ i =>
          cases j with
          | zero => exact k6 i b (by simpa using hi) h1 (.inr h2)
          | succ j => exact k5 i j b (by simpa using hi) (by simpa using hj) (by omega) h1 h2
      · cases j with
        | zero => exact g3 b hb
        | succ j => exact fun hh => k6 j b (by simpa using hj) hb (.inl hh)
      · cases j with
        | zero =>
          simp at hm ha' hx'; subst hm; subst ha'; subst hx'
          exact g5.mono k7 fun b hb => hok b (k2 b hb)
        | succ j => exact (k8 j m' a' x' (by simpa using hm) (by simpa using ha') (by simpa using hx')).mono (Env.sub_refl _) hok
theorem Rel.arg2 {H : Nat → Prop} {e : Env} {Fs : Nat → Nat → Prop} (h : Rel C H e tm w Fs) {ty : TypeId} {x : Operand} {q : Opd} (hq : Mir.opd C.P ty x = some q) {a : Arg} (ha : e.arg2 q none = some a) :
    a.back = none ∧ ((∃ ag cs, a.t = .vs ag cs) ∨ (∃ c, a.t = .adr c) ∨ ∃ f us, a.t = .fn f us) ∧ TRe C.P w (fun b => ¬ H b) a.t (ev tm x) No ∧ (a.look = false → TRe C.P w (okOf C.X H Fs) a.t (ev tm x) No) := by
  obtain ⟨F, ht, hw⟩ := h.opd hq
  have hnh : ∀ b, okOf C.X H Fs b → ¬ H b := fun b hb => hb.2.1
  simp only [Env.arg2, Env.argV] at ha
  split at ha
  · rename_i t c heq
    obtain ⟨ds, hds, ha⟩ := Option.bind_eq_some_iff.1 ha
    split at ha
    · cases ha
    · rename_i hne
      simp only [Option.some.injEq] at ha
      subst ha
      rw [heq] at ht
      have hown := VS.toOne ht
      have hc0 : 0 < c.length := by
        rw [← (toDs_get hds).1]
        exact List.length_pos_iff.2 (by simpa using hne)
      obtain ⟨g, m1, m2⟩ := hown.rest (i := 0) (j := 0) (.inr (.inr ⟨rfl, rfl⟩)) hc0 hds
      have hg : ev tm x = .pointer (some ⟨g, 0, none⟩) := by
        cases hown with
        | blk _ hh => obtain ⟨_, _, _, hu⟩ := hh; rw [hu] at m1 ⊢; simp [hdBlk] at m1; subst m1; rfl
      rcases hw with ⟨t2, h1, rfl, hFt⟩ | ⟨_, _, hn⟩
      · cases h1
        refine ⟨rfl, .inr (.inl ⟨_, rfl⟩), ⟨fun _ h => h, ?_⟩, fun hl => by cases hl⟩
        rw [hg]
        exact m2.mono fun b hb _ => ⟨hb.elim (hnh b) fun hb => (h.hx t b ((hFt b).1 hb)).2, rfl⟩
      · exact (hn _ rfl).elim
  · rename_i t el xs heq
    obtain ⟨d, hd, rfl⟩ := Option.map_eq_some_iff.1 ha
    rw [heq] at ht
    have hown := VS.toOne ht
    rcases hw with ⟨t2, h1, rfl, hFt⟩ | ⟨_, _, hn⟩
    · cases h1
      exact ⟨rfl, .inl ⟨_, _, rfl⟩, VS.ofOne (.d (fun _ h => h) ((hown.freeze hd).mono fun b hb _ => ⟨hb.elim (hnh b) fun hb => (h.hx t b ((hFt b).1 hb)).2, rfl⟩)), fun hl => by cases hl⟩
    · exact (hn _ rfl).elim
  · rename_i t el heq
    simp only [Option.some.injEq] at ha
    subst ha
    rw [heq] at ht
    rcases hw with ⟨t2, h1, _, _⟩ | ⟨hF, _, _⟩
    · cases h1
    · have hv : VS C.P w (okOf C.X H Fs) false [.d (.sl [])] (ev tm x) No := VS.freeze ht (ds := [.sl []]) rfl fun b hb => hb.elim id fun hb => (hF b hb).elim
      exact ⟨rfl, .inl ⟨_, _, rfl⟩, VS.okMono hv hnh, fun _ => hv⟩
  · rename_i ag cs _ _ _ heq
    split at ha
    · rename_i hd
      simp only [Option.some.injEq] at ha
      subst ha
      rw [heq] at ht
      have hv : VS C.P w (okOf C.X H Fs) ag cs (ev tm x) No := VS.ext ht fun b => ⟨fun h => h.elim, fun hb => OwnL.noD ht.2 hd b hb⟩
      exact ⟨rfl, .inl ⟨_, _, rfl⟩, VS.okMono hv hnh, fun _ => hv⟩
    · cases ha
  · rename_i r k p heq
    obtain ⟨v, hv, ha⟩ := Option.bind_eq_some_iff.1 ha
    obtain ⟨d, hd, rfl⟩ := Option.map_eq_some_iff.1 ha
    rw [heq] at ht
    obtain ⟨a1, cs1, v1, u1, m1, m2, m3, m4, m5⟩ := ht.2
    obtain ⟨a2, cs2, v2, n1, n2, n3⟩ := Env.cell_some hv
    rw [m1] at n1; cases n1
    rw [m2] at n2; cases n2
    obtain ⟨F', hF', hs⟩ := h.root m1 m2 m3
    obtain ⟨ux, Fx, _, _, k1, k2, _, _, k3, _⟩ := hF'.hole n3
    rw [m5] at k1; cases k1
    exact ⟨rfl, .inl ⟨_, _, rfl⟩, VS.ofOne (.d (fun _ h => h) ((k2.freeze hd).mono fun b hb _ => ⟨hb.elim (hnh b) fun hb => (h.hx r b (hs b ((k3 b).2 (.inr hb)))).2, rfl⟩)), fun hl => by cases hl⟩
  · rename_i r k p _ heq
    obtain ⟨vs, hvs, ha⟩ := Option.bind_eq_some_iff.1 ha
    obtain ⟨ds, hds, rfl⟩ := Option.map_eq_some_iff.1 ha
    rw [heq] at ht
    obtain ⟨_, ad, hx, hp⟩ := ht
    exact ⟨rfl, .inr (.inl ⟨_, rfl⟩), ⟨fun _ h => h, by rw [hx]; exact h.restAt hp hvs hds⟩, fun hl => by cases hl⟩
  · rename_i c _ heq
    simp only [Option.some.injEq] at ha
    subst ha
    rw [heq] at ht
    exact ⟨rfl, .inr (.inl ⟨_, rfl⟩), ⟨fun _ h => h, ht.2.mono fun b hb _ => ⟨hnh b hb, rfl⟩⟩, fun _ => ⟨fun _ h => h, ht.2⟩⟩
  · rename_i _ r k p n heq
    obtain ⟨vs, hvs, ha⟩ := Option.bind_eq_some_iff.1 ha
    obtain ⟨ds, hds, rfl⟩ := Option.map_eq_some_iff.1 ha
    rw [heq] at ht
    obtain ⟨_, hn, arr, hx, hs, hall⟩ := ht
    refine ⟨rfl, .inl ⟨_, _, rfl⟩, ⟨fun _ => ⟨arr, hx⟩, ?_⟩, fun hl => by cases hl⟩
    obtain ⟨hl, hget⟩ := cells_spec hvs
    obtain ⟨hdl, hdg⟩ := toDs_get hds
    rw [hx]
    refine OwnL.ofData (by simp [dsV, Mir.cellsOf, hdl, hl, hs]) fun j v u hv hu => ?_
    simp only [dsV, List.getElem?_map] at hv
    obtain ⟨y, hy, rfl⟩ := Option.map_eq_some_iff.1 hv
    have hjl : j < vs.length := by rw [← hdl]; exact (List.getElem?_eq_some_iff.1 hy).1
    have hvj := List.getElem?_eq_getElem hjl
    have hyd := hdg j _ y hvj hy
    have hc := hget j _ hvj
    obtain ⟨q, hq, hc⟩ := Option.bind_eq_some_iff.1 hc
    simp only [Nat.zero_add] at hq
    obtain ⟨q', hq', hpv⟩ := hall j u (by simpa [Mir.cellsOf] using hu)
    rw [hq] at hq'; cases hq'
    obtain ⟨a1, cs1, v1, u1, m1, m2, m3, m4, m5⟩ := hpv
    obtain ⟨a2, cs2, v2, n1, n2, n3⟩ := Env.cell_some hc
    rw [m1] at n1; cases n1
    rw [m2] at n2; cases n2
    obtain ⟨F', hF', hs'⟩ := h.root m1 m2 m3
    obtain ⟨ux, Fx, _, _, k1, k2, _, _, k3, _⟩ := hF'.hole n3
    rw [m5] at k1; cases k1
    exact .d (fun _ h => h) ((k2.freeze hyd).mono fun b hb _ => ⟨hb.elim (hnh b) fun hb => (h.hx r b (hs' b ((k3 b).2 (.inr hb)))).2, rfl⟩)
  · rename_i f caps heq
    obtain ⟨⟨us, b⟩, hus, rfl⟩ := Option.map_eq_some_iff.1 ha
    rw [heq] at ht
    obtain ⟨_, vs, hx, hl, hall⟩ := ht
    obtain ⟨g1, g2, g3⟩ := h.capsRo hl hall hus
    have mk : ∀ {ok : Nat → Prop}, (∀ (j : Nat) (t : T) (u : Value), us[j]? = some t → vs[j]? = some u → TRe C.P w ok t u No) → TRe C.P w ok (.fn f us) (ev tm x) No := fun hh => by
      refine ⟨fun _ h => h, vs, hx, g1, fun j t u hj hu => ?_⟩
      have h1 := hh j t u hj hu
      rcases g2 t (List.mem_of_getElem? hj) with ⟨ag, cs, rfl, hd⟩ | ⟨c, rfl⟩
      · exact ⟨hd, h1⟩
      · exact h1.2
    exact ⟨rfl, .inr (.inr ⟨_, _, rfl⟩), mk fun j t u hj hu => (g3 j t u hj hu).1, fun hb => mk fun j t u hj hu => (g3 j t u hj hu).2 hb⟩
  · cases ha
end
end Go.Mir

set_option linter.unusedVariables false
set_option linter.unusedSimpArgs false
namespace Go.Mir
open Go.RowKit
theorem Rel.revive {C : Ctx} {H : Nat → Prop} {e : Env} {tm : Nat → Value} {w : World} {Fs : Nat → Nat → Prop} (h : Rel C H e tm w Fs) {u r k : Nat} {p : Pt} {ad : Addr} (hd : e.get u = .dead) (hp : PlA w e tm r k p ad) (hx : tm u = .pointer (some ad)) (hv : (u, r) ∈ C.rt) (hne : r ≠ u) :
    Rel C H ((u, .at_ r k p) :: e) tm w Fs := by
  have hget : ∀ t, Env.get ((u, .at_ r k p) :: e) t = if u = t then .at_ r k p else e.get t := fun t => rfl
  have hpa : ∀ r' k' q ad', PlA w e tm r' k' q ad' → PlA w ((u, .at_ r k p) :: e) tm r' k' q ad' := fun r' k' q ad' ⟨a, cs, v, x, g1, g2⟩ => by
    refine ⟨a, cs, v, x, ?_, g2⟩
    rw [hget, if_neg]
    · exact g1
    · rintro rfl; rw [hd] at g1; cases g1
  have hpv : ∀ r' k' q y, PlV w e tm r' k' q y → PlV w ((u, .at_ r k p) :: e) tm r' k' q y := fun r' k' q y ⟨a, cs, v, x, g1, g2⟩ => by
    refine ⟨a, cs, v, x, ?_, g2⟩
    rw [hget, if_neg]
    · exact g1
    · rintro rfl; rw [hd] at g1; cases g1
  have hF : ∀ b, ¬ Fs u b := fun b hb => by
    have := h.tr u
    rw [hd] at this
    exact this b hb
  refine ⟨fun t => ?_, h.dj, h.hx, fun t r' hr => ?_, h.gr, h.nw, h.hn⟩
  · rw [hget]
    split
    · rename_i he
      subst he
      exact ⟨hF, ad, hx, hpa r k p ad hp⟩
    · exact (h.tr t).change (fun _ _ => rfl) (fun _ hb _ => ⟨hb, rfl⟩) (fun r' k' q ad' _ _ hq => hpa r' k' q ad' hq) (fun r' k' q y _ _ hq => hpv r' k' q y hq)
  · rw [hget] at hr
    split at hr
    · rename_i he
      subst he
      simp [T.roots] at hr
      subst hr
      exact ⟨hv, hne⟩
    · exact h.vw t r' hr
theorem adrOf_snoc_inv {w : World} {s : Nat × Nat} : ∀ {p : Pt} {v : V} {u : Value} {ad : Addr}, adrOf w v u (p ++ [s]) = some ad → (∃ y, v.get p = some y) → ∃ x y g, valOf w v u p = some x ∧ v.get p = some y ∧ hdBlk x = some g ∧ ad = ⟨g, y.idx s, none⟩
  | [], v, u, ad, h, _ => by
    simp only [List.nil_append, adrOf] at h
    obtain ⟨g, hg, h⟩ := Option.bind_eq_some_iff.1 h
    simp at h
    exact ⟨u, v, g, rfl, by simp [V.get_nil], hg, h.symm⟩
  | t :: p, v, u, ad, h, hy => by
    obtain ⟨y, hy⟩ := hy
    rw [V.get_cons] at hy
    obtain ⟨v', hk, hy⟩ := Option.bind_eq_some_iff.1 hy
    have h' : ((hdBlk u).bind fun g => (w.cell? ⟨g, v.idx t, none⟩).bind fun u' => (v.kid t).bind fun v' => adrOf w v' u' (p ++ [s])) = some ad := by cases p <;> exact h
    obtain ⟨g, hg, h'⟩ := Option.bind_eq_some_iff.1 h'
    obtain ⟨u', hc, h'⟩ := Option.bind_eq_some_iff.1 h'
    obtain ⟨v'', hk', h'⟩ := Option.bind_eq_some_iff.1 h'
    rw [hk] at hk'; cases hk'
    obtain ⟨x, y', g', k1, k2, k3, k4⟩ := adrOf_snoc_inv h' ⟨y, hy⟩
    refine ⟨x, y', g', ?_, by rw [V.get_cons, hk]; exact k2, k3, k4⟩
    simp only [valOf]
    cases p with
    | nil =>
      simp only [valOf, Option.some.injEq] at k1
      subst k1
      simp [adrOf, hg, hc]
    | cons t2 p2 =>
      rw [adrOf_step hg hc hk]
      exact k1
theorem Rel.again {C : Ctx} {H H0 : Nat → Prop} {e0 : Env} {tm : Nat → Value} {w0 w : World} {Fs0 : Nat → Nat → Prop} (h0 : Rel C H0 e0 tm w0 Fs0) {r k : Nat} {p : Pt} {c0 c : List V} (hb0 : e0.cell r k p = some (.box c0)) {x : Value} (hx0 : ∀ y, PlV w0 e0 tm r k p y → y = x) :
    ∀ {us : List Nat} {e : Env} {Fs : Nat → Nat → Prop}, Rel C H e tm w Fs → e.cell r k p = some (.box c) → PlV w e tm r k p x → Rel C H (Env.again C.rt e0 r k p us e) tm w Fs
  | [], e, Fs, h, hb, hx => h
  | u :: us, e, Fs, h, hb, hx => by
    simp only [Env.again]
    split
    · rename_i r' k' q hg hd
      split
      · rename_i j hl
        split
        · rename_i hc
          obtain ⟨rfl, rfl, rfl, hv, hne⟩ := hc
          have ht := h0.tr u
          rw [hg] at ht
          obtain ⟨_, ad, htm, a, cs, v, u0, g1, g2, g3, g4⟩ := ht
          obtain ⟨a', cs', v', m1, m2, m3⟩ := Env.cell_some hb0
          rw [g1] at m1; cases m1
          rw [g2] at m2; cases m2
          obtain ⟨x0, y0, g, k1, k2, k3, k4⟩ := adrOf_snoc_inv g4 ⟨_, m3⟩
          rw [m3] at k2; cases k2
          obtain rfl := hx0 x0 ⟨a, cs, v, u0, g1, g2, g3, by rw [m3]; rfl, k1⟩
          obtain ⟨a1, cs1, v1, u1, n1, n2, n3, n4, n5⟩ := hx
          obtain ⟨a2, cs2, v2, q1, q2, q3⟩ := Env.cell_some hb
          rw [n1] at q1; cases q1
          rw [n2] at q2; cases q2
          have hpa : PlA w e tm r' k' (p ++ [(0, j)]) ad := ⟨a1, cs1, v1, u1, n1, n2, n3, by rw [k4]; exact (adrOf_snoc (s := (0, j)) n5 q3 k3 : adrOf w v1 u1 (p ++ [(0, j)]) = some ⟨g, (V.box c).idx (0, j), none⟩)⟩
          have hr : Env.get ((u, .at_ r' k' (p ++ [(0, j)])) :: e) r' = e.get r' := by
            simp only [Env.get]; rw [if_neg (Ne.symm hne)]
          refine Rel.again (c := c) h0 hb0 hx0 (h.revive hd hpa htm hv hne) ?_ ?_
          · simp only [Env.cell, hr, n1, n2, Option.bind_some, q3]
          · exact ⟨a1, cs1, v1, u1, by rw [hr]; exact n1, n2, n3, n4, n5⟩
        · exact Rel.again h0 hb0 hx0 h hb hx
      · exact Rel.again h0 hb0 hx0 h hb hx
    · exact Rel.again h0 hb0 hx0 h hb hx
theorem PlV.uniq {w : World} {e : Env} {tm : Nat → Value} {r k : Nat} {p : Pt} {x y : Value} (h : PlV w e tm r k p x) (h' : PlV w e tm r k p y) : x = y := by
  obtain ⟨a, cs, v, u, h1, h2, h3, _, h5⟩ := h
  obtain ⟨a', cs', v', u', k1, k2, k3, _, k5⟩ := h'
  rw [h1] at k1; cases k1
  rw [h2] at k2; cases k2
  rw [h3] at k3; cases k3
  rw [h5] at k5; exact Option.some.inj k5
theorem PlV.filled {w : World} {e e1 : Env} {tm : Nat → Value} {rt : Views} {r k : Nat} {p : Pt} {y : V} {x : Value} (hs : e.setCell r k p y = some e1) (hv : PlV w e tm r k p x) :
    (e1.kill rt r k p).cell r k p = some y ∧ PlV w (e1.kill rt r k p) tm r k p x := by
  obtain ⟨a, cs, v, v1, hr, hc, hset, rfl⟩ := Env.setCell_some hs
  obtain ⟨a', cs', v', u, hr', hc', hu, _, hval⟩ := hv
  rw [hr] at hr'; cases hr'
  rw [hc] at hc'; cases hc'
  have hk : k < cs.length := (List.getElem?_eq_some_iff.1 hc).1
  have hg : Env.get (Env.kill rt ((r, .vs a (cs.set k v1)) :: e) r k p) r = .vs a (cs.set k v1) := by
    unfold Env.kill
    rw [Env.get_over]
    have : Env.get ((r, T.vs a (cs.set k v1)) :: e) r = .vs a (cs.set k v1) := by simp [Env.get]
    rw [this]
    split <;> rfl
  have hgv : v1.get p = some y := V.get_set hset
  refine ⟨?_, a, cs.set k v1, v1, u, hg, List.getElem?_set_self hk, hu, by rw [hgv]; rfl, ?_⟩
  · simp only [Env.cell, hg, List.getElem?_set_self hk, Option.bind_some, hgv]
  · rw [← hval]
    cases p with
    | nil => rfl
    | cons s p => simp only [valOf]; rw [adrOf_set w hset fun hh => hh.2 rfl]
end Go.Mir

set_option linter.unusedVariables false
set_option linter.unusedSimpArgs false
namespace Go.Mir
open Go.RowKit
def ioVals : List PM → List Value → List Value
  | m :: ms, u :: us => if m.isIo then u :: ioVals ms us else ioVals ms us
  | _, _ => []
def T.isVal : T → Bool
  | .vs _ _ => true
  | .tup _ => true
  | _ => false
def CallR (P : Program) (pm : FuncId → List PM) (f : FuncId) (args : List T) (r : Res) : Prop :=
  (∃ fn, P.funcs[f]? = some fn ∧ (fn.name == "runtime.NumGoroutine") = false ∧ fn.body.isNone = false) ∧ r.1.isVal = true ∧
  ∀ (X : Nat → Prop) (w : World) (us : List Value) (Fa : Nat → Nat → Prop), (∀ b, X b → b < w.heap.size) → args.length = us.length →
    (∀ (j : Nat) (t : T) (u : Value), args[j]? = some t → us[j]? = some u → TRe P w (fun b => ¬ X b ∧ ∀ j, j < args.length → ¬ Fa j b) t u (Fa j)) →
    (∀ i j b, i < args.length → j < args.length → i ≠ j → Fa i b → ¬ Fa j b) → (∀ j b, j < args.length → Fa j b → ¬ X b) →
    Calls P f us.toArray w fun en w' => ∃ v, en = .returned v ∧ Grow (fun b => ∃ j, j < args.length ∧ Fa j b) w w' ∧ ∃ Fr Fo : Nat → Prop,
      TRe P w' (fun b => ¬ X b ∧ ¬ Fr b ∧ ¬ Fo b) r.1 v Fr ∧ OwnL P w' (fun b => ¬ X b ∧ ¬ Fr b ∧ ¬ Fo b) r.2 (ioVals (pm f) us) Fo ∧ (∀ b, Fr b → ¬ Fo b) ∧
      ∀ b, Fr b ∨ Fo b → ¬ X b ∧ ((∃ j, j < args.length ∧ Fa j b) ∨ w.heap.size ≤ b)
theorem RO.any {w : World} {ok ok' : Nat → Prop} {x : D} {u : Value} (h : RO w ok x u) (hn : V.noSl (.d x) = true) : RO w ok' x u := by
  cases h with
  | sc h => exact .sc h
  | nil => exact .nil
  | sl us h0 => simp [V.noSl] at hn; exact (h0 hn).elim
theorem noSls_get : ∀ {cs : List V}, noSls cs = true → ∀ (j : Nat) (v : V), cs[j]? = some v → v.noSl = true
  | [], _, j, v, h => by simp at h
  | c :: cs, hn, j, v, h => by
    simp only [noSls, Bool.and_eq_true] at hn
    cases j with
    | zero => simp at h; subst h; exact hn.1
    | succ j => exact noSls_get hn.2 j v (by simpa using h)
theorem noSls_append : ∀ {a b : List V}, noSls (a ++ b) = (noSls a && noSls b)
  | [], b => by simp [noSls]
  | c :: a, b => by simp only [List.cons_append, noSls, noSls_append (a := a), Bool.and_assoc]
theorem noSlss_flat : ∀ {xs : List (List V)}, noSlss xs = true → noSls xs.flatten = true
  | [], _ => rfl
  | c :: xs, h => by
    simp only [noSlss, Bool.and_eq_true] at h
    rw [List.flatten_cons, noSls_append, h.1, noSlss_flat h.2]; rfl
theorem Own.any {P : Program} {w : World} {ok ok' : Nat → Prop} {v : V} {u : Value} {F : Nat → Prop} (h : Own P w ok v u F) (hn : v.noSl = true) : Own P w ok' v u F := by
  induction h with
  | dead h1 hF => exact .dead h1 hF
  | d hF hr => exact .d hF (hr.any hn)
  | nil hF => exact .nil hF
  | @blk v u g vs cur e fz F Fs hh hg hc hd hb hF ih =>
    refine .blk Fs hh hg (fun j v' u' hv hu => ih j v' u' hv hu ?_) hd hb hF
    have hvs : noSls vs = true := by
      cases v <;> simp only [Shape] at hh
      · obtain ⟨_, _, _, _, rfl, _⟩ := hh; exact noSlss_flat (by simpa [V.noSl] using hn)
      · obtain ⟨_, rfl, _⟩ := hh; exact noSlss_flat (by simpa [V.noSl] using hn)
      · obtain ⟨_, rfl, _⟩ := hh; simpa [V.noSl] using hn
    exact noSls_get hvs j v' hv
theorem OwnL.any {P : Program} {w : World} {ok ok' : Nat → Prop} {cs : List V} {us : List Value} {F : Nat → Prop} (h : OwnL P w ok cs us F) (hn : noSls cs = true) : OwnL P w ok' cs us F := by
  obtain ⟨hl, Fs, g1, g2, g3⟩ := h
  exact ⟨hl, Fs, fun j v u hv hu => (g1 j v u hv hu).any (noSls_get hn j v hv), g2, g3⟩
theorem TRe.any {P : Program} {w : World} {ok ok' : Nat → Prop} {t : T} {u : Value} {F : Nat → Prop} (h : TRe P w ok t u F) (hn : t.noSl = true) : TRe P w ok' t u F := by
  cases t with
  | vs a cs => exact ⟨h.1, h.2.any hn⟩
  | tup ts =>
    obtain ⟨xs, hx, hl, Fs, g1, g2, g3⟩ := h
    simp only [T.noSl, List.all_eq_true] at hn
    exact ⟨xs, hx, hl, Fs, fun j c x hc hx => ⟨(g1 j c x hc hx).1, (g1 j c x hc hx).2.any (hn c (List.mem_of_getElem? hc))⟩, g2, g3⟩
  | _ => simp [T.noSl] at hn
theorem TRe.env {P : Program} {w : World} {ok : Nat → Prop} {e : Env} {tm : Nat → Value} {t : T} {u : Value} {F : Nat → Prop} (h : TRe P w ok t u F) (hv : t.isVal = true) : TR P w ok e tm t u F := by
  cases t with
  | vs a cs => exact h
  | tup ts => exact h
  | _ => simp [T.isVal] at hv
section
variable {C : Ctx} {e e' : Env} {tm : Nat → Value} {w : World} {Fs : Nat → Nat → Prop} {o : Oper} {call : FuncId → List T → Option Res} {pm : FuncId → List PM}
theorem Rel.args2 {H : Nat → Prop} (h : Rel C H e tm w Fs) : ∀ {os : List Operand} {qs : List Opd} {l : List (Option Arg)} {ags : List Arg}, All2 (fun (a : Operand) (b : Opd) => ∃ ty, Mir.opd C.P ty a = some b) os qs → Env.args2 e qs l = some ags →
    ags.length = os.length ∧ ∀ (j : Nat) (a : Arg) (x : Operand), ags[j]? = some a → os[j]? = some x → l[j]? = some (some a) ∨ (l[j]? = some none ∧ a.back = none ∧ TRe C.P w (fun b => ¬ H b) a.t (ev tm x) No ∧ (a.look = false → TRe C.P w (okOf C.X H Fs) a.t (ev tm x) No))
  | [], _, l, ags, .nil, ha => by
    cases l with
    | nil => simp [Env.args2] at ha; subst ha; simp
    | cons a l => simp [Env.args2] at ha
  | x :: os, _, l, ags, .cons (b := q) (bs := qs) ⟨ty, hq⟩ hr, ha => by
    cases l with
    | nil => simp [Env.args2] at ha
    | cons a0 l =>
      simp only [Env.args2] at ha
      obtain ⟨a, ha1, ha⟩ := Option.bind_eq_some_iff.1 ha
      obtain ⟨as', has, rfl⟩ := Option.map_eq_some_iff.1 ha
      obtain ⟨g1, g2⟩ := Rel.args2 h hr has
      refine ⟨by simp [g1], fun j a' x' hj hx => ?_⟩
      cases j with
      | zero =>
        simp at hj hx; subst hj; subst hx
        cases a0 with
        | some b => simp [Env.arg2] at ha1; subst ha1; exact .inl rfl
        | none =>
          obtain ⟨k1, _, k2, k3⟩ := h.arg2 hq ha1
          exact .inr ⟨rfl, k1, k2, k3⟩
      | succ j => exact g2 j a' x' (by simpa using hj) (by simpa using hx)
theorem Rel.worldPlV {H : Nat → Prop} (h : Rel C H e tm w Fs) {w' : World} (hg : Grow H w w') {r k : Nat} {p : Pt} {x : Value} (hp : PlV w e tm r k p x) : PlV w' e tm r k p x := by
  obtain ⟨a, cs, v, u, h1, h2, h3, h5, h4⟩ := hp
  obtain ⟨F, hF, hs⟩ := h.root h1 h2 h3
  have hf : ∀ b, F b → w'.heap[b]? = w.heap[b]? := fun b hb => hg.block b ((h.tr r).lt b (hs b hb)) (h.hx r b (hs b hb)).2
  refine ⟨a, cs, v, u, h1, h2, h3, h5, ?_⟩
  cases p with
  | nil => exact h4
  | cons s p =>
    simp only [valOf] at h4 ⊢
    rw [adrOf_frame hF hf]
    obtain ⟨ad, ha, hc⟩ := Option.bind_eq_some_iff.1 h4
    rw [ha]
    exact (World.cell?_of_block (w := w) (hf _ (adrOf_mem hF h5 ha).1)).trans hc
theorem ioVals_none : ∀ {ms : List PM} {us : List Value}, (∀ (j : Nat) (m : PM), j < us.length → ms[j]? = some m → m.isIo = false) → ioVals ms us = []
  | [], us, _ => by cases us <;> rfl
  | m :: ms, [], _ => rfl
  | m :: ms, u :: us, h => by
    have h0 := h 0 m (by simp) rfl
    simp only [ioVals, h0, Bool.false_eq_true, if_false]
    exact ioVals_none fun j m hj hm => h (j + 1) m (by simpa using hj) (by simpa using hm)
theorem backs_io : ∀ {ags : List Arg} {us : List Value} {ms : List PM}, ags.length ≤ us.length → ags.length ≤ ms.length → (∀ (j : Nat) (a : Arg) (m : PM), ags[j]? = some a → ms[j]? = some m → (a.back.isSome = m.isIo)) →
    (∀ (j : Nat) (m : PM), ags.length ≤ j → j < us.length → ms[j]? = some m → m.isIo = false) →
    (ags.filterMap (·.back) = [] → ioVals ms us = []) ∧ ∀ b, ags.filterMap (·.back) = [b] → ∃ (j : Nat) (a : Arg) (u : Value), ags[j]? = some a ∧ a.back = some b ∧ us[j]? = some u ∧ ioVals ms us = [u]
  | [], us, ms, _, _, _, h => by
    refine ⟨fun _ => ioVals_none fun j m hj hm => h j m (by simp) hj hm, fun b hb => by simp at hb⟩
  | a :: ags, [], ms, h1, _, _, _ => by simp at h1
  | a :: ags, u :: us, [], _, h2, _, _ => by simp at h2
  | a :: ags, u :: us, m :: ms, h1, h2, h3, h4 => by
    have h0 := h3 0 a m rfl rfl
    obtain ⟨g1, g2⟩ := backs_io (ags := ags) (us := us) (ms := ms) (by simpa using h1) (by simpa using h2) (fun j a m hj hm => h3 (j + 1) a m (by simpa using hj) (by simpa using hm))
      (fun j m hl hj hm => h4 (j + 1) m (by simpa using hl) (by simpa using hj) (by simpa using hm))
    cases hb : a.back with
    | none =>
      rw [hb] at h0
      have hm : m.isIo = false := h0.symm
      have hf : List.filterMap (·.back) (a :: ags) = List.filterMap (·.back) ags := by simp [List.filterMap_cons, hb]
      rw [hf]
      simp only [ioVals, hm, Bool.false_eq_true, if_false]
      exact ⟨g1, fun b hb => by obtain ⟨j, a', u', k1, k2, k3, k4⟩ := g2 b hb; exact ⟨j + 1, a', u', by simpa using k1, k2, by simpa using k3, k4⟩⟩
    | some bk =>
      rw [hb] at h0
      have hm : m.isIo = true := h0.symm
      have hf : List.filterMap (·.back) (a :: ags) = bk :: List.filterMap (·.back) ags := by simp [List.filterMap_cons, hb]
      rw [hf]
      simp only [ioVals, hm, if_true]
      refine ⟨fun h => by simp at h, fun b hbb => ?_⟩
      simp only [List.cons.injEq] at hbb
      obtain ⟨rfl, hbb⟩ := hbb
      exact ⟨0, a, u, rfl, hb, rfl, by rw [g1 hbb]⟩
theorem All2.length {α β : Type} {R : α → β → Prop} {ags : List α} {bs : List β} (h : All2 R ags bs) : ags.length = bs.length := by
  induction h with
  | nil => rfl
  | cons _ _ ih => simp [ih]
theorem Env.backs_cases {rt : Views} {e e2 : Env} {ags : List Arg} {outs : List V} (h : e.backs rt ags outs = some e2) :
    (ags.filterMap (·.back) = [] ∧ outs = [] ∧ e2 = e) ∨ ∃ r k p v e1, ags.filterMap (·.back) = [(r, k, p)] ∧ outs = [v] ∧ e.cell r k p = some .dead ∧ e.setCell r k p v = some e1 ∧ e2 = e1.kill rt r k p := by
  unfold Env.backs at h
  generalize ags.filterMap (·.back) = l at h
  match l, outs, h with
  | [], [], h => simp only [Option.some.injEq] at h; exact .inl ⟨rfl, rfl, h.symm⟩
  | [(r, k, p)], [v], h =>
    simp only at h
    split at h
    · rename_i hd
      obtain ⟨e1, h1, h2⟩ := Option.map_eq_some_iff.1 h
      exact .inr ⟨r, k, p, v, e1, rfl, rfl, hd, h1, h2.symm⟩
    · cases h
def capVals (C : Ctx) (tm : Nat → Value) (f : FuncId) (cx : Option Opd) (cv : List Value) : Prop :=
  match cx with
  | none => cv = []
  | some q => ∃ x ty, Mir.opd C.P ty x = some q ∧ ev tm x = .func (.func f) #[] cv.toArray
theorem Rel.capsOf {H : Nat → Prop} (h : Rel C H e tm w Fs) {f : FuncId} {cx : Option Opd} {cv : List Value} {caps : List T} (hcx : capVals C tm f cx cv) (hc : e.capsOf f cx = some caps) :
    caps.length = cv.length ∧ ∀ (j : Nat) (t : T) (u : Value), caps[j]? = some t → cv[j]? = some u → CapR C.P w (okOf C.X H Fs) e tm t u := by
  cases cx with
  | none =>
    simp only [capVals] at hcx
    simp only [Env.capsOf, Option.some.injEq] at hc
    subst hcx; subst hc
    simp
  | some q =>
    obtain ⟨x, ty, hq, hx⟩ := hcx
    simp only [Env.capsOf] at hc
    obtain ⟨F, ht, _⟩ := h.opd hq
    split at hc
    · rename_i g caps' heq
      split at hc
      · rename_i hg
        simp only [Option.some.injEq] at hc
        subst hc; subst hg
        rw [heq] at ht
        obtain ⟨_, vs, hx', hl, hall⟩ := ht
        rw [hx] at hx'
        simp only [Value.func.injEq, true_and] at hx'
        have : cv = vs := by simpa using hx'
        subst this
        exact ⟨hl, hall⟩
      · cases hc
    · cases hc
theorem ok_callG {f : FuncId} {cx : Option Opd} {os : List Operand} {qs : List Opd} (hq : All2 (fun (a : Operand) (b : Opd) => ∃ ty, Mir.opd C.P ty a = some b) os qs) {cv : List Value} (hcx : capVals C tm f cx cv)
    (hcall : ∀ args r, call f args = some r → CallR C.P pm f args r) {dst : Option Nat} {e1 : Env} {l : List (Option Arg)} {Fl Fs1 : Nat → Nat → Prop} {ags : List Arg} {caps cs : List T} {bl : Bool} {t : T} {outs : List V}
    (g1 : Rel C (fun b => No b ∨ ∃ j, j < os.length ∧ Fl j b) e1 tm w Fs1) (g3' : os.length ≤ (pm f).length) (g4 : ∀ i j b, i < os.length → j < os.length → i ≠ j → Fl i b → ¬ Fl j b)
    (g7 : ∀ (j : Nat) (m : PM) (a : Option Arg) (x : Operand), (pm f)[j]? = some m → l[j]? = some a → os[j]? = some x → A1R C (fun b => No b ∨ ∃ j, j < os.length ∧ Fl j b) e1 tm w Fs1 m a (ev tm x) (Fl j))
    (hdrop : ((List.drop qs.length (pm f)).all fun m => !m.isIo) = true) (ha2 : Env.args2 e1 qs l = some ags) (hcaps : e1.capsOf f cx = some caps) (hc : Mir.capsRo e1 caps = some (cs, bl)) (hr : call f (ags.map (·.t) ++ cs) = some (t, outs))
    {e0 : Env} {Fs0 : Nat → Nat → Prop} (h0 : Rel C No e0 tm w Fs0) (hsub : e1.sub e0)
    (hlook : ¬ ((bl || ags.any (·.look)) && !(t.noSl && noSls outs)) = true) (hi4 : ((Env.backs C.rt e1 ags outs).bind fun e2 => (e0.regain C.rt e2 ags outs).put C.rt dst t) = some e') :
    (∃ fn, C.P.funcs[f]? = some fn ∧ (fn.name == "runtime.NumGoroutine") = false ∧ fn.body.isNone = false) ∧
    Calls C.P f (os.map (ev tm) ++ cv).toArray w fun en w' => ∃ v Fs', en = .returned v ∧ Rel C No e' (setTm tm dst v) w' Fs' := by
  obtain ⟨k1, k2⟩ := g1.args2 hq ha2
  obtain ⟨c0, c0'⟩ := g1.capsOf hcx hcaps
  obtain ⟨c1, c2, c3⟩ := g1.capsRo c0 c0' hc
  obtain ⟨hfn, hval, hcr⟩ := hcall _ _ hr
  refine ⟨hfn, ?_⟩
  have hql : os.length = qs.length := hq.length
  obtain ⟨lk, hlk⟩ : ∃ lk : Bool, lk = (bl || ags.any (·.look)) := ⟨_, rfl⟩
  obtain ⟨X', hX1, hX2⟩ : ∃ X' : Nat → Prop, (lk = true → ∀ b, ¬ X' b) ∧ (lk = false → ∀ b, X' b ↔ (C.X b ∨ ∃ t, Fs1 t b)) := by
    cases lk with
    | true => exact ⟨No, fun _ _ h => h, fun h => by cases h⟩
    | false => exact ⟨fun b => C.X b ∨ ∃ t, Fs1 t b, fun h => (by cases h), fun _ _ => Iff.rfl⟩
  obtain ⟨Fa, hFaI⟩ : ∃ Fa : Nat → Nat → Prop, ∀ j b, Fa j b ↔ (j < os.length ∧ Fl j b) := ⟨fun j b => j < os.length ∧ Fl j b, fun _ _ => Iff.rfl⟩
  have hFaLt : ∀ j b, Fa j b → j < os.length ∧ Fl j b := fun j b => (hFaI j b).1
  have hFaOf : ∀ j b, j < os.length → Fl j b → Fa j b := fun j b hj hb => (hFaI j b).2 ⟨hj, hb⟩
  have hlen : (ags.map (·.t) ++ cs).length = (os.map (ev tm) ++ cv).length := by simp [k1, c1]
  have hX'ok : ∀ b, okOf C.X (fun b => No b ∨ ∃ j, j < os.length ∧ Fl j b) Fs1 b → ¬ X' b ∧ ∀ j, j < (ags.map (·.t) ++ cs).length → ¬ Fa j b := fun b hb => by
    refine ⟨?_, fun j _ hj => ?_⟩
    · cases hl : lk with
      | true => exact hX1 hl b
      | false => exact fun hx => ((hX2 hl b).1 hx).elim hb.1 fun ⟨t, h1⟩ => hb.2.2 t h1
    · obtain ⟨h1, h2⟩ := hFaLt j b hj
      exact hb.2.1 (.inr ⟨j, h1, h2⟩)
  have hNH : lk = true → ∀ b, ¬ (No b ∨ ∃ j, j < os.length ∧ Fl j b) → ¬ X' b ∧ ∀ j, j < (ags.map (·.t) ++ cs).length → ¬ Fa j b := fun hl b hb => by
    refine ⟨hX1 hl b, fun j _ hj => ?_⟩
    obtain ⟨h1, h2⟩ := hFaLt j b hj
    exact hb (.inr ⟨j, h1, h2⟩)
  have hX'lt : ∀ b, X' b → b < w.heap.size := fun b hb => by
    cases hl : lk with
    | true => exact (hX1 hl b hb).elim
    | false =>
      rcases (hX2 hl b).1 hb with h1 | ⟨t, h1⟩
      · have := C.hX b h1; have := g1.gr.size; omega
      · exact (g1.tr t).lt b h1
  have hargs : ∀ (j : Nat) (t : T) (u : Value), (ags.map (·.t) ++ cs)[j]? = some t → (os.map (ev tm) ++ cv)[j]? = some u → TRe C.P w (fun b => ¬ X' b ∧ ∀ j, j < (ags.map (·.t) ++ cs).length → ¬ Fa j b) t u (Fa j) := by
    intro j t u hj hu
    by_cases hjo : j < os.length
    · rw [List.getElem?_append_left (by simpa [k1] using hjo)] at hj
      rw [List.getElem?_append_left (by simpa using hjo)] at hu
      rw [List.getElem?_map] at hj hu
      obtain ⟨a, haj, rfl⟩ := Option.map_eq_some_iff.1 hj
      obtain ⟨x, hxj, rfl⟩ := Option.map_eq_some_iff.1 hu
      have hms : ∃ m, (pm f)[j]? = some m := ⟨_, List.getElem?_eq_getElem (by omega)⟩
      obtain ⟨m, hm⟩ := hms
      rcases k2 j a x haj hxj with h1 | ⟨h1, h2, h3, h4⟩
      · have := g7 j m _ x hm h1 hxj
        refine TR.ext (this.1.okMono hX'ok) fun b => ⟨fun hb => (hFaLt j b hb).2, hFaOf j b hjo⟩
      · have hn := (g7 j m _ x hm h1 hxj).1
        cases hl : lk with
        | true => exact TR.ext (h3.okMono (hNH hl)) fun b => ⟨fun hb => (hn b (hFaLt j b hb).2).elim, fun hb => hb.elim⟩
        | false =>
          have hal : a.look = false := by
            have : ags.any (·.look) = false := by
              cases h5 : ags.any (·.look)
              · rfl
              · rw [h5, hl] at hlk; simp at hlk
            have h6 := List.any_eq_false.1 this a (List.mem_of_getElem? haj)
            simpa using h6
          exact TR.ext ((h4 hal).okMono hX'ok) fun b => ⟨fun hb => (hn b (hFaLt j b hb).2).elim, fun hb => hb.elim⟩
    · rw [List.getElem?_append_right (by simpa [k1] using hjo)] at hj
      rw [List.getElem?_append_right (by simpa using hjo)] at hu
      have hll : (ags.map (·.t)).length = (os.map (ev tm)).length := by simp [k1]
      rw [hll] at hj
      obtain ⟨d1, d2⟩ := c3 _ t u hj hu
      cases hl : lk with
      | true => exact TR.ext (d1.okMono (hNH hl)) fun b => ⟨fun hb => (hjo (hFaLt j b hb).1).elim, fun hb => hb.elim⟩
      | false =>
        have hbl : bl = false := by
          cases h5 : bl
          · rfl
          · rw [h5, hl] at hlk; simp at hlk
        exact TR.ext ((d2 hbl).okMono hX'ok) fun b => ⟨fun hb => (hjo (hFaLt j b hb).1).elim, fun hb => hb.elim⟩
  have hFaX : ∀ j b, j < (ags.map (·.t) ++ cs).length → Fa j b → ¬ X' b := fun j b _ hb hx => by
    obtain ⟨h1, h2⟩ := hFaLt j b hb
    cases hl : lk with
    | true => exact hX1 hl b hx
    | false =>
      rcases (hX2 hl b).1 hx with h3 | ⟨t, h3⟩
      · exact (g1.hn b (.inr ⟨j, h1, h2⟩)).1 h3
      · exact (g1.hx t b h3).2 (.inr ⟨j, h1, h2⟩)
  have hbig := hcr X' w (os.map (ev tm) ++ cv) Fa hX'lt hlen hargs
    (fun i j b _ _ hij h1 h2 => g4 i j b (hFaLt i b h1).1 (hFaLt j b h2).1 hij (hFaLt i b h1).2 (hFaLt j b h2).2) hFaX
  refine hbig.mono fun en w' ⟨v, hen, hgr, Fr, Fo, hv, ho, hdj, hin⟩ => ?_
  have hgr' : Grow (fun b => No b ∨ ∃ j, j < os.length ∧ Fl j b) w w' := hgr.mono fun b _ ⟨j, _, hb⟩ => .inr ⟨j, hFaLt j b hb⟩
  have R2 : Rel C (fun b => Fr b ∨ Fo b) e1 tm w' Fs1 := g1.world hgr' fun b hb => by
    refine ⟨?_, hb.elim (hv.lt b) (ho.lt b)⟩
    rcases (hin b hb).2 with ⟨j, _, h1⟩ | h1
    · exact .inl (.inr ⟨j, hFaLt j b h1⟩)
    · exact .inr h1
  have hokk : lk = false → ∀ b, (¬ X' b ∧ ¬ Fr b ∧ ¬ Fo b) → okOf C.X (fun b => Fr b ∨ Fo b) Fs1 b := fun hl b hb => by
    have h1 : ¬ (C.X b ∨ ∃ t, Fs1 t b) := fun hh => hb.1 ((hX2 hl b).2 hh)
    exact ⟨fun hx => h1 (.inl hx), fun hh => hh.elim hb.2.1 hb.2.2, fun t ht => h1 (.inr ⟨t, ht⟩)⟩
  have hsl : lk = true → t.noSl = true ∧ noSls outs = true := fun hl => by
    have h1 := hlook
    rw [← hlk, hl] at h1
    simpa using h1
  have hv' : TRe C.P w' (okOf C.X (fun b => Fr b ∨ Fo b) Fs1) t v Fr := by
    cases hl : lk with
    | true => exact hv.any (hsl hl).1
    | false => exact hv.okMono (hokk hl)
  have ho' : OwnL C.P w' (okOf C.X (fun b => Fr b ∨ Fo b) Fs1) outs (ioVals (pm f) (os.map (ev tm) ++ cv)) Fo := by
    cases hl : lk with
    | true => exact ho.any (hsl hl).2
    | false => exact ho.frame (fun _ _ => rfl) fun b hb _ => ⟨hokk hl b hb, rfl⟩
  obtain ⟨e2, hb2, hput⟩ := Option.bind_eq_some_iff.1 hi4
  have hbk := backs_io (ags := ags) (us := os.map (ev tm) ++ cv) (ms := pm f) (by simp [k1]) (by omega) (fun j a m haj hm => by
      have hjo : j < os.length := by have := (List.getElem?_eq_some_iff.1 haj).1; omega
      have hxj := List.getElem?_eq_getElem hjo
      rcases k2 j a _ haj hxj with h1 | ⟨h1, h2, _, _⟩
      · have := (g7 j m _ _ hm h1 hxj).2.2.2
        cases hab : a.back with
        | none => rw [hab] at this; simp only at this; rw [this]; rfl
        | some b => rw [hab] at this; obtain ⟨r, k, p⟩ := b; simp only at this; rw [this.1]; rfl
      · have hn := (g7 j m _ _ hm h1 hxj).2
        rw [h2, hn]; rfl)
    (fun j m hl hj hm => by
      have := List.all_eq_true.1 hdrop m (by
        rw [List.mem_drop_iff_getElem]
        obtain ⟨h1, h2⟩ := List.getElem?_eq_some_iff.1 hm
        exact ⟨j - qs.length, by omega, by rw [← h2]; congr 1; omega⟩)
      simpa using this)
  rcases Env.backs_cases hb2 with ⟨hfm, hou, rfl⟩ | ⟨r, k, p, vo, e3, hfm, hou, hdead, hset, rfl⟩
  · rw [hou] at ho'
    have hFo : ∀ b, ¬ Fo b := fun b hb => by
      obtain ⟨_, Fq, _, _, h3⟩ := ho'
      obtain ⟨j, hj, _⟩ := (h3 b).1 hb
      simp at hj
    have hreg : ∀ e9 : Env, e0.regain C.rt e9 ags outs = e9 := fun e9 => by simp [Env.regain, hfm]
    rw [hreg] at hput
    obtain ⟨Fs', h'⟩ := R2.put hput (TRe.env hv' hval) fun b hb => .inl hb
    exact ⟨v, Fs', hen, h'.letGo fun b hb => hb.elim⟩
  · rw [hou] at ho'
    obtain ⟨j, a, u, q1, q2, q3, q4⟩ := hbk.2 _ hfm
    have hjo : j < os.length := by have := (List.getElem?_eq_some_iff.1 q1).1; omega
    have hxj := List.getElem?_eq_getElem hjo
    have hu : u = ev tm os[j] := by
      rw [List.getElem?_append_left (by simpa using hjo), List.getElem?_map, hxj] at q3
      exact (Option.some.inj q3).symm
    have hms : ∃ m, (pm f)[j]? = some m := ⟨_, List.getElem?_eq_getElem (by omega)⟩
    obtain ⟨m, hm⟩ := hms
    have hpl : PlV w e1 tm r k p u := by
      rcases k2 j a _ q1 hxj with h1 | ⟨h1, h2, _, _⟩
      · have := (g7 j m _ _ hm h1 hxj).2.2.2
        rw [q2] at this
        rw [hu]
        exact this.2 (by rw [hdead]; rfl)
      · rw [q2] at h2; cases h2
    have hpl' : PlV w' e1 tm r k p u := g1.worldPlV hgr' hpl
    rw [q4] at ho'
    obtain ⟨_, Fq, f1, f2, f3⟩ := ho'
    have hown := f1 0 vo u rfl rfl
    obtain ⟨Fs2, R3, hok3⟩ := R2.backPl hdead hset hpl' hown fun b hb => .inr ((f3 b).2 ⟨0, by simp, hb⟩)
    have hFrH : ∀ b, Fr b → (Fr b ∨ Fo b) ∧ ¬ Fq 0 b := fun b hb => ⟨.inl hb, fun hq => hdj b hb ((f3 b).2 ⟨0, by simp, hq⟩)⟩
    have R4 : Rel C (fun b => (Fr b ∨ Fo b) ∧ ¬ Fq 0 b) (e0.regain C.rt (e3.kill C.rt r k p) ags outs) tm w' Fs2 := by
      unfold Env.regain
      split
      · rename_i r' k' p' c hfm' hou'
        rw [hfm] at hfm'
        simp only [List.cons.injEq, Prod.mk.injEq, and_true] at hfm'
        obtain ⟨rfl, rfl, rfl⟩ := hfm'
        simp only [List.cons.injEq, and_true] at hou
        subst hou
        split
        · rename_i c0 hb0
          obtain ⟨d1, d2⟩ := PlV.filled (rt := C.rt) hset hpl'
          exact Rel.again h0 hb0 (fun y hy => (Env.sub_plv hsub hy (by rw [hdead]; rfl)).uniq hpl) R3 d1 d2
        · exact R3
      · exact R3
    obtain ⟨Fs', h'⟩ := R4.put hput (TRe.env (hv'.okMono hok3) hval) hFrH
    refine ⟨v, Fs', hen, h'.letGo fun b hb => hb.elim⟩
theorem ok_callF (h : Rel C No e tm w Fs) {f : FuncId} {cx : Option Opd} {os : List Operand} {qs : List Opd} (hq : All2 (fun (a : Operand) (b : Opd) => ∃ ty, Mir.opd C.P ty a = some b) os qs) {cv : List Value} (hcx : capVals C tm f cx cv)
    (hcall : ∀ args r, call f args = some r → CallR C.P pm f args r) {dst : Option Nat} (hi : Env.callF call pm C.rt e dst f cx qs = some e') :
    (∃ fn, C.P.funcs[f]? = some fn ∧ (fn.name == "runtime.NumGoroutine") = false ∧ fn.body.isNone = false) ∧
    Calls C.P f (os.map (ev tm) ++ cv).toArray w fun en w' => ∃ v Fs', en = .returned v ∧ Rel C No e' (setTm tm dst v) w' Fs' := by
  unfold Env.callF at hi
  split at hi
  case isFalse => cases hi
  case isTrue hdrop =>
    obtain ⟨⟨l, e1⟩, ha1, hi1⟩ := Option.bind_eq_some_iff.1 hi
    obtain ⟨ags, ha2, hi2⟩ := Option.bind_eq_some_iff.1 hi1
    obtain ⟨caps, hcaps, hi25⟩ := Option.bind_eq_some_iff.1 hi2
    obtain ⟨⟨cs, bl⟩, hc, hi3⟩ := Option.bind_eq_some_iff.1 hi25
    obtain ⟨⟨t, outs⟩, hr, hi4⟩ := Option.bind_eq_some_iff.1 hi3
    clear hi hi1 hi2 hi25 hi3
    obtain ⟨Fl, Fs1, g1, g2, g3, g3', g4, g5, g6, g7⟩ := h.args1 hq ha1
    simp only at ha2 hcaps hc hr hi4
    split at hi4
    case isTrue => cases hi4
    case isFalse hlook => exact ok_callG hq hcx hcall g1 g3' g4 g7 hdrop ha2 hcaps hc hr h g6 hlook hi4
theorem ok_callR (h : Rel C No e tm w Fs) {f : FuncId} {os : List Operand} {qs : List Opd} (hq : All2 (fun (a : Operand) (b : Opd) => ∃ ty, Mir.opd C.P ty a = some b) os qs)
    (hcall : ∀ args r, call f args = some r → CallR C.P pm f args r) {dst : Option Nat} (hi : Env.callR call pm C.rt e dst f qs = some e') :
    (∃ fn, C.P.funcs[f]? = some fn ∧ (fn.name == "runtime.NumGoroutine") = false ∧ fn.body.isNone = false) ∧
    Calls C.P f (os.map (ev tm) ++ []).toArray w fun en w' => ∃ v Fs', en = .returned v ∧ Rel C No e' (setTm tm dst v) w' Fs' := by
  unfold Env.callR at hi
  split at hi
  case isFalse => cases hi
  case isTrue hpm =>
    obtain ⟨ags, ha2, hi2⟩ := Option.bind_eq_some_iff.1 hi
    obtain ⟨⟨t, outs⟩, hr, hi4⟩ := Option.bind_eq_some_iff.1 hi2
    clear hi hi2
    simp only at ha2 hr hi4
    split at hi4
    case isTrue => cases hi4
    case isFalse hlook =>
      split at hi4
      case isFalse => cases hi4
      case isTrue hout =>
        have hout' : outs = [] := by simpa using hout
        subst hout'
        have hql := hq.length
        refine ok_callG (cx := none) (cv := []) (l := qs.map fun _ => none) (Fl := fun _ => No) (Fs1 := Fs) (caps := []) (cs := []) (bl := false) hq rfl hcall
          (h.letGo fun b hb => hb.elim id fun ⟨_, _, hj⟩ => hj) (by omega) (fun _ _ _ _ _ _ h1 => h1.elim) (fun j m a x hm ha hx => ?_) ?_ ha2 rfl rfl (by simpa using hr) h (Env.sub_refl _) (by simpa using hlook) ?_
        · rw [List.getElem?_map] at ha
          obtain ⟨_, _, rfl⟩ := Option.map_eq_some_iff.1 ha
          refine ⟨fun _ h => h, ?_⟩
          have := List.all_eq_true.1 hpm.1 m (List.mem_of_getElem? hm)
          simpa using this
        · rw [List.all_eq_true]
          exact fun m hm => List.all_eq_true.1 hpm.1 m (List.mem_of_mem_drop hm)
        · have hb : ∀ {ags : List Arg} {l : List Opd}, Env.args2 e l (l.map fun _ => none) = some ags → ags.filterMap (·.back) = [] := by
            intro ags l
            induction l generalizing ags with
            | nil => intro h; simp [Env.args2] at h; subst h; rfl
            | cons o l ih =>
              intro h
              simp only [List.map_cons, Env.args2] at h
              obtain ⟨a, ha, h⟩ := Option.bind_eq_some_iff.1 h
              obtain ⟨as', has, rfl⟩ := Option.map_eq_some_iff.1 h
              have hback : a.back = none := by
                simp only [Env.arg2, Env.argV] at ha
                split at ha
                · obtain ⟨ds, _, ha⟩ := Option.bind_eq_some_iff.1 ha
                  split at ha
                  · cases ha
                  · cases ha; rfl
                · obtain ⟨d, _, rfl⟩ := Option.map_eq_some_iff.1 ha; rfl
                · cases ha; rfl
                · split at ha
                  · cases ha; rfl
                  · cases ha
                · obtain ⟨v, _, ha⟩ := Option.bind_eq_some_iff.1 ha
                  obtain ⟨d, _, rfl⟩ := Option.map_eq_some_iff.1 ha; rfl
                · obtain ⟨v, _, ha⟩ := Option.bind_eq_some_iff.1 ha
                  obtain ⟨d, _, rfl⟩ := Option.map_eq_some_iff.1 ha; rfl
                · cases ha; rfl
                · obtain ⟨v, _, ha⟩ := Option.bind_eq_some_iff.1 ha
                  obtain ⟨d, _, rfl⟩ := Option.map_eq_some_iff.1 ha; rfl
                · obtain ⟨d, _, rfl⟩ := Option.map_eq_some_iff.1 ha; rfl
                · cases ha
              rw [List.filterMap_cons, hback, ih has]
          simp only [Env.backs, hb ha2, Option.bind_some, Env.regain]
          exact hi4
end
end Go.Mir

set_option linter.unusedVariables false
set_option linter.unusedSimpArgs false
namespace Go.Mir
open Go.RowKit
section
variable {C : Ctx} {e e' : Env} {tm : Nat → Value} {w : World} {Fs : Nat → Nat → Prop} {o : Oper} {call : FuncId → List T → Option Res} {pm : FuncId → List PM}
theorem toDss_append : ∀ {xs ys : List (List V)} {ds es : List (List D)}, toDss xs = some ds → toDss ys = some es → toDss (xs ++ ys) = some (ds ++ es)
  | [], ys, ds, es, h1, h2 => by simp [toDss] at h1; subst h1; simpa using h2
  | x :: xs, ys, ds, es, h1, h2 => by
    simp only [toDss] at h1
    obtain ⟨a, ha, h1⟩ := Option.bind_eq_some_iff.1 h1
    obtain ⟨b, hb, rfl⟩ := Option.map_eq_some_iff.1 h1
    simp [toDss, ha, toDss_append hb h2]
theorem toDss_len : ∀ {xs : List (List V)} {ds : List (List D)}, toDss xs = some ds → ds.length = xs.length
  | [], ds, h => by simp [toDss] at h; subst h; rfl
  | x :: xs, ds, h => by
    simp only [toDss] at h
    obtain ⟨a, ha, h⟩ := Option.bind_eq_some_iff.1 h
    obtain ⟨b, hb, rfl⟩ := Option.map_eq_some_iff.1 h
    simp [toDss_len hb]
theorem ok_appd (h : Rel C No e tm w Fs) {t t' el t1 t2 : TypeId} {x y : Operand} {qx qy : Opd} (hop : o.op = .call { callee := .builtin .append, args := #[x, y], argTypes := #[t, t'] }) (hu : C.P.underlying t = some (.slice el))
    (ht' : ∃ el', C.P.underlying t' = some (.slice el')) (hz : 0 < C.P.cellsOf el) (hb : 0 < C.P.bytesOf el) {zv : Value} (hzv : (C.P.info? el).bind (·.zero) = some zv) (hzs : zv.cells.size = C.P.cellsOf el)
    (hx : Mir.opd C.P t1 x = some qx) (hy : Mir.opd C.P t2 y = some qy) (hi : ioI call pm C.rt e o.dst (.appd el (C.P.cellsOf el) (C.P.bytesOf el) qx qy) = some e') : Done C o e' tm w := by
  simp only [ioI] at hi
  split at hi
  · rename_i hstr
    obtain ⟨ys, hys, hi1⟩ := Option.bind_eq_some_iff.1 hi
    clear hi
    split at hi1
    case isFalse => cases hi1
    case isTrue hown =>
      split at hi1
      case h_2 => cases hi1
      rename_i r k p heqx
      obtain ⟨⟨v0, e2⟩, hv, hi2⟩ := Option.bind_eq_some_iff.1 hi1
      clear hi1
      split at hi2
      · rename_i el' xs e2' heq
        simp only [Prod.mk.injEq] at heq
        obtain ⟨rfl, rfl⟩ := heq
        split at hi2
        · rename_i hc
          obtain ⟨rfl, hbytes, hall⟩ := hc
          obtain ⟨ds, hds, hi3⟩ := Option.bind_eq_some_iff.1 hi2
          obtain ⟨dys, hdys, hi4⟩ := Option.bind_eq_some_iff.1 hi3
          obtain ⟨e3, he3, hi2⟩ := Option.bind_eq_some_iff.1 hi4
          clear hi3 hi4
          have hsz : ∀ c ∈ ys, c.length = C.P.cellsOf el' := fun c hc => by have := List.all_eq_true.1 hall c hc; simpa using this
          obtain ⟨Fy, Fs1, us, G, r1, r2, r3, r4, hsrc⟩ := h.src (str := false) (by simpa using ht') hy hstr hys hz hsz (.inl hown)
          obtain ⟨F0, ht0, _⟩ := r1.opd hx
          rw [heqx] at ht0
          obtain ⟨Fs2, Fx, ux, k1, hownx, kp, k3, kiff, kp2, kdead, _⟩ := r1.takePl hv
          have hux : ev tm x = ux := kp.det ht0.2 |>.symm
          have k4 : OkMono C (fun b => No b ∨ Fy b) Fs1 (fun b => (No b ∨ Fy b) ∨ Fx b) Fs2 := fun b hb => ⟨hb.1, fun hh => by
            have := (kiff b).1 (hh.elim .inl fun h => .inr (.inl h))
            exact this.elim hb.2.1 fun ⟨t, ht⟩ => hb.2.2 t ht, fun t ht => by
            have := (kiff b).1 (.inr (.inr ⟨t, ht⟩))
            exact this.elim hb.2.1 fun ⟨t, ht⟩ => hb.2.2 t ht⟩
          have r3' := r3.ok k4
          obtain ⟨inf, hI, hisz⟩ := info_of_cells hz
          have hiby : inf.bytes = C.P.bytesOf el' := by simp [Program.bytesOf, hI]
          have hz0 : inf.zero = some zv := by rw [hI] at hzv; simpa using hzv
          have hnm : xs.length + ys.length ≤ 140737488355328 := Nat.le_trans (Nat.le_mul_of_pos_right _ hb) hbytes
          have hnm2 : xs.length + ys.length ≤ maxLen := by simp only [maxLen]; omega
          rw [← hisz] at hsrc
          have hul : us.length = ys.length * C.P.cellsOf el' := by rw [← r3.1, flat_len hsz]
          have fin : ∀ {v' : Value} {w' : World} {H : Nat → Prop} {F' : Nat → Prop}, (Builtin.append_ #[t, t'] o.type #[ux, ev tm y]).run C.P w = .ok v' w' → Rel C H e2 tm w' Fs2 → Own C.P w' (okOf C.X H Fs2) (.own el' (xs ++ ys)) v' F' → (∀ b, F' b → H b) →
              PlV w' e2 tm r k p ux → RO w' (fun b => okOf C.X H Fs2 b ∨ H b) (.sl ds) ux → Done C o e' tm w := by
            intro v' w' H F' hr hrel ho hF hpl hro
            rw [← hux] at hr
            have hok : ∀ b, okOf C.X H Fs2 b ∨ H b → okOf C.X No Fs2 b := fun b hb => hb.elim (fun hb => ⟨hb.1, fun h => h, hb.2.2⟩) fun hb => ⟨(hrel.hn b hb).1, fun h => h, fun t ht => (hrel.hx t b ht).2 hb⟩
            have htd : (V.own el' (xs ++ ys)).toD = some (.sl (ds ++ dys)) := by simp only [V.toD, toDss_append hds hdys]; rfl
            have hro2 := (ho.freeze htd).mono (w' := w') (ok' := okOf C.X No Fs2) fun b hb _ => ⟨hok b (hb.imp id (hF b)), rfl⟩
            obtain ⟨Fs3, q1, q2⟩ := (hrel.letGo (H' := No) fun b hb => hb.elim).backPl (Fy := No) kdead he3 hpl (.d (fun _ h => h) (hro.mono fun b hb _ => ⟨hok b hb, rfl⟩)) fun b hb => hb.elim
            obtain ⟨Fs', h'⟩ := q1.put (F := No) hi2 (VS.ofOne (.d (fun _ h => h) (hro2.mono fun b hb _ => ⟨q2 b hb, rfl⟩))) fun b hb => hb.elim
            exact done_mk (by simp [execOp, hop, resolve, invoke, builtin, hr]) (h'.letGo (H' := No) fun b hb => hb.elim)
          have htd0 : (V.own el' xs).toD = some (.sl ds) := by simp only [V.toD, hds]; rfl
          have hroW := hownx.freeze htd0
          have grow : ∀ {A : Option Addr} {cap : Nat} {olds : List Value} {Gx : Nat → Prop}, ux = .slice A xs.length cap → cap < xs.length + ys.length → (Builtin.firstCells inf.size xs.length (.slice A xs.length cap)).run C.P w.drew = .ok olds.toArray w.drew →
              OwnL C.P w (okOf C.X (fun b => (No b ∨ Fy b) ∨ Fx b) Fs2) xs.flatten olds Gx → (∀ b, Gx b → Fx b) → (∀ c ∈ xs, c.length = C.P.cellsOf el') → Done C o e' tm w := by
            intro A cap olds Gx hxv hcap hfc hox hGx hxsz
            have hr := run_append_grow_src (P := C.P) w t t' o.type el' inf zv hu hI hz0 A xs.length cap olds hfc (ev tm y) ys.length us hsrc hcap (by omega) (growslice_fits hcap (by rw [hiby]; exact hbytes))
            have hd := k1.world (H' := fun b => (No b ∨ Fy b) ∨ Fx b) (Grow.drew _ w) fun b hb => ⟨.inl hb, (k1.hn b hb).2.2⟩
            have hall2 : OwnL C.P w.drew (okOf C.X (fun b => (No b ∨ Fy b) ∨ Fx b) Fs2) (xs ++ ys).flatten (olds ++ us) (fun b => Gx b ∨ G b) := by
              rw [List.flatten_append]
              exact (OwnL.append hox r3' fun b hb hh => k3 b (hGx b hb) (.inr (r4 b hh))).frame (fun _ _ => rfl) fun b hb _ => ⟨hb, rfl⟩
            have hcg := grownCap_ge w (xs.length + ys.length) cap el'
            have hol : olds.length = xs.length * C.P.cellsOf el' := by rw [← hox.1, flat_len hxsz]
            obtain ⟨m1, m2⟩ := hd.newBlk hall2 (fun b hb => hb.elim (fun hb => .inr (hGx b hb)) fun hb => .inl (.inr (r4 b hb))) ((olds ++ us).toArray ++ Builtin.zeroCells zv.cells (grownCap w (xs.length + ys.length) cap el' - (xs.length + ys.length)))
              (fun j u hj hu => by rw [Array.getElem?_append_left (by simpa using hj)]; simpa using hu) el' (v := .own el' (xs ++ ys)) (u := .slice (some ⟨w.heap.size, 0, none⟩) (xs.length + ys.length) (grownCap w (xs.length + ys.length) cap el'))
              ⟨rfl, rfl, hz, fun c hc => (List.mem_append.1 hc).elim (hxsz c) (hsz c), rfl, _, by rw [List.length_append]; rfl, by rw [List.length_append]; exact hcg, grownCap_le_maxLen w _ cap el' hnm2, by
                rw [Array.size_append, size_zeroCells, hzs, List.size_toArray, List.length_append, hol, hul, ← Nat.add_mul, ← Nat.add_mul]
                congr 1
                omega⟩
            refine fin (by rw [hxv]; exact hr) m1 m2 (fun b hb => ?_) (k1.worldPlV ((Grow.drew _ w).trans (Grow.alloc _ _ _)) kp2) (hroW.mono fun b hb hlt => ⟨?_, Below.heap_alloc w.drew _ b hlt⟩)
            · rcases hb with rfl | hb | hb
              · exact .inr rfl
              · exact .inl (.inr (hGx b hb))
              · exact .inl (.inl (.inr (r4 b hb)))
            · rcases hb with hb | hb
              · exact .inl ⟨hb.1, fun hh => hh.elim hb.2.1 fun h => by have : b < w.drew.heap.size := hlt; omega, hb.2.2⟩
              · exact .inr (.inl (.inr hb))
          cases hownx with
          | @nil _ A F hF =>
            by_cases hm : ys.length = 0
            · have hy0 : ys = [] := List.eq_nil_of_length_eq_zero hm
              subst hy0
              have hus : us = [] := List.eq_nil_of_length_eq_zero (by rw [hul]; simp)
              subst hus
              refine fin (v' := .slice A 0 0) (w' := w) ?_ k1 (Own.nil hF) (fun b hb => (hF b hb).elim) kp2 (by
                simp only [toDss, Option.some.injEq] at hds; subst hds; exact .nil)
              have hsc := hsrc.cells
              have hsl := hsrc.len
              simp only [List.length_nil] at hsc hsl
              rcases hsrc.kind with ⟨e', hk⟩ | hk <;> cases A <;> simp [Builtin.append_, run_underlying hu, run_underlying hk, sizeOf, typeInfo, hI, hsl, hsc, storeCells]
            · exact grow (A := A) (cap := 0) (olds := []) (Gx := No) rfl (by simp; omega) (by cases A <;> simp [Builtin.firstCells, loadCells, loadCellsFrom]) OwnL.nil (fun _ h => h.elim) (by simp)
          | @blk _ _ g vs cur el2 fz F Fc hh hg hc hd hbb hF =>
            obtain ⟨rfl, rfl, _, hxsz, rfl, cap, rfl, hc1, hc2, hc3⟩ := hh
            have hxl := flat_len hxsz
            have hkids : OwnL C.P w (okOf C.X (fun b => (No b ∨ Fy b) ∨ Fx b) Fs2) xs.flatten (cur.toList.take xs.flatten.length) (fun b => ∃ j, j < xs.flatten.length ∧ Fc j b) := by
              have hle : xs.flatten.length ≤ cur.size := by rw [hxl, hc3]; exact Nat.mul_le_mul_right _ hc1
              refine ⟨by rw [List.length_take, Nat.min_eq_left (by simpa using hle)], Fc, fun j z y hz hy => ?_, hd, fun b => Iff.rfl⟩
              rw [List.getElem?_take] at hy
              split at hy
              · exact hc j z y hz (by simpa using hy)
              · cases hy
            have hGx : ∀ b, (∃ j, j < xs.flatten.length ∧ Fc j b) → Fx b := fun b hb => (hF b).2 (.inr hb)
            by_cases hroom : xs.length + ys.length ≤ cap
            · have hfit : xs.length * C.P.cellsOf el' + us.length ≤ cur.size := by rw [hul, ← Nat.add_mul, hc3]; exact Nat.mul_le_mul_right _ hroom
              obtain ⟨cur', s1, s2, s3, s4, s5, s6, s7, s8, s9⟩ := setCells_row us (xs.length * C.P.cellsOf el') w cur hg hfit
              have hr := run_append_room_src (P := C.P) w t t' o.type el' inf hu hI g 0 xs.length cap (ev tm y) ys.length us hsrc hroom
                (fun j hj => by simp only [World.cell?, hg, hisz]; simp; omega) (fun j hj => by simp [World.frozen?, hg])
              rw [Nat.zero_add, hisz] at hr
              have hgx : Fx g := (hF g).2 (.inl rfl)
              have hgr : Grow (fun b => (No b ∨ Fy b) ∨ Fx b) w (w.setCells g (xs.length * C.P.cellsOf el') us) := ⟨s6, s7, s8, by omega, fun k _ hk => s5 k fun e => hk (.inr (e ▸ hgx))⟩
              have hrel := k1.world (H' := fun b => (No b ∨ Fy b) ∨ Fx b) hgr fun b hb => ⟨.inl hb, by rw [s9]; exact (k1.hn b hb).2.2⟩
              have hoks : ∀ b, okOf C.X (fun b => (No b ∨ Fy b) ∨ Fx b) Fs2 b → b < w.heap.size → okOf C.X (fun b => (No b ∨ Fy b) ∨ Fx b) Fs2 b ∧ (w.setCells g (xs.length * C.P.cellsOf el') us).heap[b]? = w.heap[b]? := fun b hb _ => ⟨hb, s5 b fun e => hb.2.1 (.inr (e ▸ hgx))⟩
              have hkx : OwnL C.P (w.setCells g (xs.length * C.P.cellsOf el') us) (okOf C.X (fun b => (No b ∨ Fy b) ∨ Fx b) Fs2) xs.flatten (cur.toList.take xs.flatten.length) (fun b => ∃ j, j < xs.flatten.length ∧ Fc j b) :=
                hkids.frame (fun b ⟨j, hj, hb⟩ => s5 b fun e => hbb j hj (e ▸ hb)) hoks
              have hky : OwnL C.P (w.setCells g (xs.length * C.P.cellsOf el') us) (okOf C.X (fun b => (No b ∨ Fy b) ∨ Fx b) Fs2) ys.flatten us G :=
                r3'.frame (fun b hb => s5 b fun e => k3 g hgx (.inr (e ▸ r4 b hb))) hoks
              have hboth := OwnL.append hkx hky fun b hb hh => k3 b (hGx b hb) (.inr (r4 b hh))
              rw [← List.flatten_append] at hboth
              obtain ⟨hbl, Fb, b1, b2, b3⟩ := hboth
              have hlt : (cur.toList.take xs.flatten.length).length = xs.length * C.P.cellsOf el' := by rw [← hkids.1, hxl]
              have hF2 : ∀ b, (b = g ∨ ∃ j, j < (xs ++ ys).flatten.length ∧ Fb j b) → (No b ∨ Fy b) ∨ Fx b := fun b hb => by
                rcases hb with rfl | hb
                · exact .inr hgx
                · rcases (b3 b).2 hb with hb | hb
                  · exact .inr (hGx b hb)
                  · exact .inl (.inr (r4 b hb))
              have hOwn : Own C.P (w.setCells g (xs.length * C.P.cellsOf el') us) (okOf C.X (fun b => (No b ∨ Fy b) ∨ Fx b) Fs2) (.own el' (xs ++ ys)) (.slice (some ⟨g, 0, none⟩) (xs.length + ys.length) cap) (fun b => b = g ∨ ∃ j, j < (xs ++ ys).flatten.length ∧ Fb j b) := by
                refine .blk Fb (fz := (0, 0)) ⟨rfl, rfl, hz, fun c hc => (List.mem_append.1 hc).elim (hxsz c) (hsz c), rfl, cap, by rw [List.length_append], by rw [List.length_append]; exact hroom, hc2, by rw [s2, hc3]⟩ s1 (fun j v u hv hu => ?_) b2 (fun j hj hh => ?_) (fun b => Iff.rfl)
                · refine b1 j v u hv ?_
                  have hj := (List.getElem?_eq_some_iff.1 hv).1
                  rcases Nat.lt_or_ge j (xs.length * C.P.cellsOf el') with hjx | hjx
                  · rw [List.getElem?_append_left (by omega), List.getElem?_take, if_pos (by omega)]
                    rw [s3 j hjx] at hu
                    simpa using hu
                  · obtain ⟨i, rfl⟩ : ∃ i, j = xs.length * C.P.cellsOf el' + i := ⟨j - xs.length * C.P.cellsOf el', by omega⟩
                    rw [List.getElem?_append_right (by omega), hlt, Nat.add_sub_cancel_left]
                    have hiu : i < us.length := by
                      rw [hbl, List.length_append, hlt] at hj; omega
                    rw [s4 i us[i] (List.getElem?_eq_getElem hiu)] at hu
                    rw [List.getElem?_eq_getElem hiu]; exact hu
                · have := (b3 g).2 ⟨j, hj, hh⟩
                  rcases this with ⟨i, hi, hh⟩ | hh
                  · exact hbb i hi hh
                  · exact k3 g hgx (.inr (r4 g hh))
              have htd : (V.own el' (xs ++ ys)).toD = some (.sl (ds ++ dys)) := by simp only [V.toD, toDss_append hds hdys]; rfl
              have hdl : ds.length = xs.length := toDss_len hds
              have hcut := (hOwn.freeze htd).cut (l := 0) (h := xs.length) (sz := 1) (Nat.zero_le _) (by rw [List.length_append]; omega) (.inl rfl)
              rw [← hdl, List.take_left, List.drop_zero, hdl] at hcut
              refine fin hr hrel hOwn hF2 (k1.worldPlV hgr kp2) ?_
              have hsl : sliced (some ⟨g, 0, none⟩) 0 xs.length cap 1 = .slice (some ⟨g, 0, none⟩) xs.length cap := by
                unfold sliced
                split <;> simp [Addr.add]
              rw [hsl] at hcut
              exact hcut.mono fun b hb _ => ⟨hb.imp id (hF2 b), rfl⟩
            · refine grow (A := some ⟨g, 0, none⟩) (cap := cap) rfl (by omega) ?_ hkids hGx hxsz
              have hlt : (cur.toList.take xs.flatten.length).length = xs.length * C.P.cellsOf el' := by rw [← hkids.1, hxl]
              exact run_firstCells_some (P := C.P) w.drew inf.size xs.length ⟨g, 0, none⟩ xs.length cap _ (by rw [hlt, hisz]) fun j u hj => by
                rw [List.getElem?_take] at hj
                split at hj
                · rw [add_none, Nat.zero_add]
                  simp only [World.cell?, show w.drew.heap = w.heap from rfl, hg]
                  simpa using hj
                · cases hj
        · cases hi2
      · cases hi2
  · cases hi
end
end Go.Mir

set_option linter.unusedVariables false
set_option linter.unusedSimpArgs false
namespace Go.Mir
open Go.RowKit
section
variable {C : Ctx} {e e' : Env} {tm : Nat → Value} {w : World} {Fs : Nat → Nat → Prop} {o : Oper} {call : FuncId → List T → Option Res} {pm : FuncId → List PM}
def Called (C : Ctx) (o : Oper) (e' : Env) (tm : Nat → Value) (w : World) : Prop :=
  ∃ f args, (execOp (ev tm) o).run C.P w = .ok (.enter f args) w ∧ Calls C.P f args w fun en w' => ∃ v Fs', en = .returned v ∧ Rel C No e' (setTm tm o.dst v) w' Fs'
theorem enters_fn {P : Program} {f : FuncId} (h : ∃ fn, P.funcs[f]? = some fn ∧ (fn.name == "runtime.NumGoroutine") = false ∧ fn.body.isNone = false) (args : Array Value) (w : World) : (callFunc f args).run P w = .ok (.enter f args) w := by
  obtain ⟨fn, hf, hn, hb⟩ := h
  have h1 : fn.name ≠ "runtime.NumGoroutine" := by simpa using hn
  cases hc : fn.body with
  | none => rw [hc] at hb; cases hb
  | some c => simp [callFunc, hf, h1, hc]
theorem ok_call (h : Rel C No e tm w Fs) {f : FuncId} {args : Array Operand} {tys : Array TypeId} {qs : List Opd} {ts : List TypeId} (hop : o.op = .call { callee := .value (.func f), args := args, argTypes := tys }) (hq : opds C.P ts args.toList = some qs)
    (hcall : ∀ f args r, call f args = some r → CallR C.P pm f args r) (hi : ioI call pm C.rt e o.dst (.call f qs) = some e') : Called C o e' tm w := by
  simp only [ioI] at hi
  obtain ⟨hfn, hc⟩ := ok_callF h (opds_all hq) (cv := []) (cx := none) rfl (hcall f) hi
  refine ⟨f, (args.map (ev tm)), ?_, ?_⟩
  · have he := enters_fn hfn (args.map (ev tm)) w
    unfold execOp
    simp [hop, resolve, Deferred.ofValue, invoke, ev, he]
  · have : (args.map (ev tm)) = (args.toList.map (ev tm) ++ []).toArray := by
      apply Array.ext'; simp
    rw [this]; exact hc
theorem ok_callr (h : Rel C No e tm w Fs) {f : FuncId} {args : Array Operand} {tys : Array TypeId} {qs : List Opd} {ts : List TypeId} (hop : o.op = .call { callee := .value (.func f), args := args, argTypes := tys }) (hq : opds C.P ts args.toList = some qs)
    (hcall : ∀ f args r, call f args = some r → CallR C.P pm f args r) (hi : ioI call pm C.rt e o.dst (.callr f qs) = some e') : Called C o e' tm w := by
  simp only [ioI] at hi
  obtain ⟨hfn, hc⟩ := ok_callR h (opds_all hq) (hcall f) hi
  refine ⟨f, (args.map (ev tm)), ?_, ?_⟩
  · have he := enters_fn hfn (args.map (ev tm)) w
    unfold execOp
    simp [hop, resolve, Deferred.ofValue, invoke, ev, he]
  · have : (args.map (ev tm)) = (args.toList.map (ev tm) ++ []).toArray := by
      apply Array.ext'; simp
    rw [this]; exact hc
theorem ok_callv (h : Rel C No e tm w Fs) {t : Nat} {args : Array Operand} {tys : Array TypeId} {qs : List Opd} {ts : List TypeId} (hop : o.op = .call { callee := .value (.tmp t), args := args, argTypes := tys }) (hq : opds C.P ts args.toList = some qs)
    (hcall : ∀ f args r, call f args = some r → CallR C.P pm f args r) (hi : ioI call pm C.rt e o.dst (.callv (.tmp t) qs) = some e') : Called C o e' tm w := by
  simp only [ioI] at hi
  split at hi
  · rename_i f caps heq
    have ht := h.tr t
    simp only [Env.opd] at heq
    rw [heq] at ht
    obtain ⟨_, vs, hx, hl, _⟩ := ht
    obtain ⟨hfn, hc⟩ := ok_callF h (opds_all hq) (cv := vs) (cx := some (.tmp t)) ⟨.tmp t, 0, rfl, hx⟩ (hcall f) hi
    refine ⟨f, _, ?_, hc⟩
    have he := enters_fn hfn (args.toList.map (ev tm) ++ vs).toArray w
    unfold execOp
    simp [hop, resolve, Deferred.ofValue, invoke, ev, hx]
    have ha : (args.toList.map (ev tm) ++ vs).toArray = args.map (ev tm) ++ vs.toArray := by
      apply Array.ext'; simp
    rw [ha] at he ⊢
    exact he
  · cases hi
theorem ok_op (h : Rel C No e tm w Fs) {m : Option Md} {i : I} (hp : prepI C.P m o = some i) (hcall : ∀ f args r, call f args = some r → CallR C.P pm f args r)
    (hi : ioI call pm C.rt e o.dst i = some e') : Done C o e' tm w ∨ Called C o e' tm w := by
  obtain ⟨op, hop⟩ : ∃ op, o.op = op := ⟨_, rfl⟩
  unfold prepI at hp
  rw [hop] at hp
  cases op with
  | move x =>
    simp only at hp
    obtain ⟨q, hq, rfl⟩ := Option.map_eq_some_iff.1 hp
    exact .inl (ok_move h (.inl hop) hq hi)
  | assign x =>
    simp only at hp
    obtain ⟨q, hq, rfl⟩ := Option.map_eq_some_iff.1 hp
    exact .inl (ok_move h (.inr hop) hq hi)
  | pick c a b =>
    simp only at hp
    obtain ⟨qc, hc, hp⟩ := Option.bind_eq_some_iff.1 hp
    obtain ⟨qa, ha, hp⟩ := Option.bind_eq_some_iff.1 hp
    obtain ⟨qb, hb, rfl⟩ := Option.map_eq_some_iff.1 hp
    exact .inl (ok_pick h hop hc ha hb hi)
  | alloc t =>
    simp only at hp
    obtain ⟨z, hz, rfl⟩ := Option.map_eq_some_iff.1 hp
    exact .inl (ok_alloc h hop hz hi)
  | box t x =>
    simp only at hp
    obtain ⟨q, hq, rfl⟩ := Option.map_eq_some_iff.1 hp
    exact .inl (ok_box h hop hq hi)
  | build t ps =>
    simp only at hp
    split at hp
    · rename_i fs hu
      obtain ⟨z, hz, hp⟩ := Option.bind_eq_some_iff.1 hp
      obtain ⟨places, hpl, hp⟩ := Option.bind_eq_some_iff.1 hp
      obtain ⟨qs, hq, rfl⟩ := Option.map_eq_some_iff.1 hp
      exact .inl (ok_build h hop hu hz hpl hq hi)
    · cases hp
  | buildSlice t n ps =>
    simp only at hp
    split at hp
    · rename_i el hu
      obtain ⟨z, hz, hp⟩ := Option.bind_eq_some_iff.1 hp
      split at hp
      · rename_i hzl
        obtain ⟨qs, hq, rfl⟩ := Option.map_eq_some_iff.1 hp
        exact .inl (ok_bslice h hop hu hz hzl hq hi)
      · cases hp
    · cases hp
  | load t a =>
    simp only at hp
    split at hp
    · rename_i hu
      obtain ⟨q, hq, rfl⟩ := Option.map_eq_some_iff.1 hp
      exact .inl (ok_load h hop hu hq hi)
    · cases hp
  | store t a v =>
    simp only at hp
    split at hp
    · rename_i hu
      obtain ⟨qa, ha, hp⟩ := Option.bind_eq_some_iff.1 hp
      obtain ⟨qv, hv, rfl⟩ := Option.map_eq_some_iff.1 hp
      exact .inl (ok_store h hop hu.2 hu.1 ha hv (storeI_store hi))
    · cases hp
  | nilCheck x =>
    simp only at hp
    obtain ⟨q, hq, rfl⟩ := Option.map_eq_some_iff.1 hp
    exact .inl (ok_nilc h hop hq hi)
  | binOp bo t x y t3 =>
    simp only at hp
    obtain ⟨ks, hk, hp⟩ := Option.bind_eq_some_iff.1 hp
    obtain ⟨qx, hx, hp⟩ := Option.bind_eq_some_iff.1 hp
    obtain ⟨qy, hy, rfl⟩ := Option.map_eq_some_iff.1 hp
    exact .inl (ok_bin h hop hk hx hy hi)
  | unOp uo t x =>
    simp only at hp
    obtain ⟨q, hq, rfl⟩ := Option.map_eq_some_iff.1 hp
    exact .inl (ok_un h hop hq hi)
  | convert src dst x =>
    simp only at hp
    split at hp
    · rename_i k0 k hs hd
      obtain ⟨q, hq, rfl⟩ := Option.map_eq_some_iff.1 hp
      exact .inl (ok_conv h hop hs hd hq hi)
    · rename_i hs hd
      obtain ⟨q, hq, rfl⟩ := Option.map_eq_some_iff.1 hp
      exact .inl (ok_same h hop hs hd hq hi)
    · rename_i el hs hd
      split at hp
      · rename_i he
        obtain ⟨q, hq, rfl⟩ := Option.map_eq_some_iff.1 hp
        exact .inl (ok_s2b h hop hs hd he hq hi)
      · cases hp
    · rename_i el hs hd
      split at hp
      · rename_i he
        obtain ⟨q, hq, rfl⟩ := Option.map_eq_some_iff.1 hp
        exact .inl (ok_b2s h hop hs hd he hq hi)
      · cases hp
    · rename_i el0 el hs hd
      split at hp
      · rename_i hsd
        subst hsd
        split at hp
        · rename_i he
          obtain ⟨q, hq, rfl⟩ := Option.map_eq_some_iff.1 hp
          exact .inl (ok_s2s h hop hd he hq hi)
        · cases hp
      · cases hp
    · cases hp
  | makeFunc fn first caps =>
    cases fn with
    | func f =>
      simp only at hp
      split at hp
      · rename_i hf
        obtain ⟨qs, hq, rfl⟩ := Option.map_eq_some_iff.1 hp
        exact .inl (ok_mkfn h hop (by simpa using hf) hq hi)
      · cases hp
    | _ => cases hp
  | makeSlice t l c =>
    simp only at hp
    split at hp
    · rename_i el hu
      obtain ⟨z, hz, hp⟩ := Option.bind_eq_some_iff.1 hp
      split at hp
      · rename_i hzl
        obtain ⟨ql, hl, hp⟩ := Option.bind_eq_some_iff.1 hp
        obtain ⟨qc, hc, rfl⟩ := Option.map_eq_some_iff.1 hp
        exact .inl (ok_mkslice h hop hu hz hzl hl hc hi)
      · cases hp
    · cases hp
  | slice t x lo hi2 mx =>
    simp only at hp
    split at hp
    · cases hp
    · rename_i hmx
      have hmx : mx = none := by simpa using hmx
      subst hmx
      split at hp
      · rename_i hu
        obtain ⟨q, hq, hp⟩ := Option.bind_eq_some_iff.1 hp
        obtain ⟨ql, hl, hp⟩ := Option.bind_eq_some_iff.1 hp
        obtain ⟨qh, hh, rfl⟩ := Option.map_eq_some_iff.1 hp
        exact .inl (ok_sliceS h hop hu hq hl hh hi)
      · rename_i el hu
        split at hp
        · rename_i hz
          obtain ⟨q, hq, hp⟩ := Option.bind_eq_some_iff.1 hp
          obtain ⟨ql, hl, hp⟩ := Option.bind_eq_some_iff.1 hp
          obtain ⟨qh, hh, hI⟩ := Option.map_eq_some_iff.1 hp
          have hi' : ioI call pm C.rt e o.dst (.slice false (C.P.cellsOf el) q ql qh) = some e' := by
            subst hI
            unfold sliceI at hi
            split at hi
            · simp only [ioI] at hi ⊢
              split at hi
              · exact hi
              · cases hi
            · exact hi
          exact .inl (ok_slice h hop hu hz hq hl hh hi')
        · cases hp
      · cases hp
  | fieldAddr s x f =>
    simp only at hp
    split at hp
    · rename_i fs hu
      obtain ⟨fd, hf, hp⟩ := Option.bind_eq_some_iff.1 hp
      split at hp
      · cases hp
      · rename_i hz
        obtain ⟨q, hq, rfl⟩ := Option.map_eq_some_iff.1 hp
        exact .inl (ok_fieldA h hop hu hf hz hq hi)
    · cases hp
  | field s x f =>
    simp only at hp
    split at hp
    · rename_i fs hu
      obtain ⟨fd, hf, hp⟩ := Option.bind_eq_some_iff.1 hp
      split at hp
      · rename_i hfu
        obtain ⟨q, hq, rfl⟩ := Option.map_eq_some_iff.1 hp
        exact .inl (ok_field h hop hu hf hfu hq hi)
      · cases hp
    · cases hp
  | indexAddr t x i2 =>
    simp only at hp
    split at hp
    · rename_i el hu
      obtain ⟨qx, hx, hp⟩ := Option.bind_eq_some_iff.1 hp
      obtain ⟨qi, hy, rfl⟩ := Option.map_eq_some_iff.1 hp
      exact .inl (ok_indexA h hop hu hx hy hi)
    · cases hp
  | index t x i2 =>
    simp only at hp
    split at hp
    · rename_i hu
      obtain ⟨qx, hx, hp⟩ := Option.bind_eq_some_iff.1 hp
      obtain ⟨qi, hy, rfl⟩ := Option.map_eq_some_iff.1 hp
      exact .inl (ok_indexS h hop hu hx hy hi)
    · cases hp
  | extract x n =>
    simp only at hp
    obtain ⟨q, hq, rfl⟩ := Option.map_eq_some_iff.1 hp
    exact .inl (ok_extract h hop hq hi)
  | call c =>
    obtain ⟨callee, args, tys⟩ := c
    cases callee with
    | value x =>
      cases x with
      | func f =>
        simp only at hp
        obtain ⟨qs, hq, hp⟩ := Option.map_eq_some_iff.1 hp
        split at hp
        · subst hp; exact .inr (ok_callr h hop hq hcall hi)
        · subst hp; exact .inr (ok_call h hop hq hcall hi)
      | tmp t =>
        simp only at hp
        obtain ⟨qs, hq, rfl⟩ := Option.map_eq_some_iff.1 hp
        exact .inr (ok_callv h hop hq hcall hi)
      | _ => cases hp
    | builtin b =>
      cases b with
      | len =>
        simp only at hp
        split at hp
        · rename_i x t ha ht
          obtain rfl : args = #[x] := by simpa using congrArg List.toArray ha
          obtain rfl : tys = #[t] := by simpa using congrArg List.toArray ht
          split at hp
          · rename_i hu
            obtain ⟨q, hq, rfl⟩ := Option.map_eq_some_iff.1 hp
            exact .inl (ok_lenS h hop hu hq hi)
          · rename_i el hu
            obtain ⟨q, hq, rfl⟩ := Option.map_eq_some_iff.1 hp
            exact .inl (ok_len h hop hu hq hi)
          · cases hp
        · cases hp
      | append =>
        simp only at hp
        split at hp
        · rename_i x y t t' ha ht
          obtain rfl : args = #[x, y] := by simpa using congrArg List.toArray ha
          obtain rfl : tys = #[t, t'] := by simpa using congrArg List.toArray ht
          split at hp
          · rename_i el hu
            split at hp
            · rename_i hz
              obtain ⟨hz1, hz2, hz3⟩ := hz
              obtain ⟨zv, hzv, hzs⟩ : ∃ zv, (C.P.info? el).bind (·.zero) = some zv ∧ zv.cells.size = C.P.cellsOf el := by
                cases hzz : (C.P.info? el).bind (·.zero) with
                | none => rw [hzz] at hz3; simp at hz3
                | some zv => rw [hzz] at hz3; exact ⟨zv, rfl, by simpa using hz3⟩
              split at hp
              · rename_i el' hu'
                obtain ⟨qx, hx, hp⟩ := Option.bind_eq_some_iff.1 hp
                obtain ⟨qy, hy, rfl⟩ := Option.map_eq_some_iff.1 hp
                unfold appI at hi
                split at hi
                · exact .inl (ok_appd h hop hu ⟨_, hu'⟩ hz1 hz2 hzv hzs hx hy hi)
                · exact .inl (ok_app h hop hu (by simpa using ⟨_, hu'⟩) hz1 hz2 hzv hzs hx hy hi)
              · rename_i hu'
                split at hp
                · rename_i hc1
                  obtain ⟨qx, hx, hp⟩ := Option.bind_eq_some_iff.1 hp
                  obtain ⟨qy, hy, rfl⟩ := Option.map_eq_some_iff.1 hp
                  exact .inl (ok_app h hop hu (by simpa using ⟨hu', hc1⟩) hz1 hz2 hzv hzs hx hy hi)
                · cases hp
              · cases hp
            · cases hp
          · cases hp
        · cases hp
      | min =>
        simp only at hp
        split at hp
        · rename_i x y ha
          obtain rfl : args = #[x, y] := by simpa using congrArg List.toArray ha
          obtain ⟨qx, hx, hp⟩ := Option.bind_eq_some_iff.1 hp
          obtain ⟨qy, hy, rfl⟩ := Option.map_eq_some_iff.1 hp
          exact .inl (ok_mn h hop hx hy hi)
        · cases hp
      | max =>
        simp only at hp
        split at hp
        · rename_i x y ha
          obtain rfl : args = #[x, y] := by simpa using congrArg List.toArray ha
          obtain ⟨qx, hx, hp⟩ := Option.bind_eq_some_iff.1 hp
          obtain ⟨qy, hy, rfl⟩ := Option.map_eq_some_iff.1 hp
          exact .inl (ok_mx h hop hx hy hi)
        · cases hp
      | _ => cases hp
    | _ => cases hp
  | _ => cases hp
end
end Go.Mir

set_option linter.unusedVariables false
set_option linter.unusedSimpArgs false
namespace Go.Mir
open Go.RowKit
def tmOf (a : Act) : Nat → Value := fun t => a.tmps.getD t undef
theorem eval_tmOf (a : Act) : a.eval = ev (tmOf a) := by
  funext x; cases x <;> rfl
structure Fix where
  n : Nat
  ios : List (Nat × Value)
def Fix.ok (X : Fix) (a : Act) : Prop := a.tmps.size = X.n ∧ a.defers = [] ∧ ∀ p ∈ X.ios, tmOf a p.1 = p.2
def dstOk (X : Fix) (d : Option Nat) : Bool :=
  match d with
  | none => true
  | some u => decide (u < X.n) && X.ios.all fun p => p.1 != u
theorem put_tmOf {X : Fix} {a : Act} {d : Option Nat} {v : Value} (h : X.ok a) (hd : dstOk X d = true) : tmOf (a.put d v) = setTm (tmOf a) d v ∧ X.ok (a.put d v) := by
  cases d with
  | none => exact ⟨rfl, h⟩
  | some u =>
    simp only [dstOk, Bool.and_eq_true, decide_eq_true_eq] at hd
    have h1 : tmOf (a.put (some u) v) = setTm (tmOf a) (some u) v := by
      funext t
      simp only [tmOf, Act.put, setTm]
      by_cases e : t = u
      · subst e
        have : t < a.tmps.size := by rw [h.1]; exact hd.1
        simp [this]
      · simp [Array.getElem?_setIfInBounds_ne (Ne.symm e), e]
    refine ⟨h1, by simp [Act.put, h.1], h.2.1, fun p hp => ?_⟩
    have h2 := List.all_eq_true.1 hd.2 p hp
    have h3 : p.1 ≠ u := by simpa using h2
    rw [h1]
    simp only [setTm, h3, if_false]
    exact h.2.2 p hp
def prepO (P : Program) (ops : List Oper) (m : Option Md) (o : Oper) : Option Ins :=
  match o.guard with
  | none => some ⟨o.dst, none, (prepI P m o).getD .bad⟩
  | some (g, want) => ((ops[g]?).bind (·.dst)).map fun t => ⟨o.dst, some (t, want), (prepI P m o).getD .bad⟩
def St (C : Ctx) (X : Fix) (e : Env) (a : Act) (w : World) : Prop := X.ok a ∧ ∃ Fs, Rel C No e (tmOf a) w Fs
section
variable {C : Ctx} {X : Fix} {e e' : Env} {a : Act} {w : World} {call : FuncId → List T → Option Res} {pm : FuncId → List PM} {Q : Exit → Act → World → Prop}
theorem Rel.skip {tm : Nat → Value} {Fs : Nat → Nat → Prop} (h : Rel C No e tm w Fs) {dst : Option Nat} (hp : e.put C.rt dst (.tup []) = some e') : ∃ Fs', Rel C No e' (setTm tm dst undef) w Fs' := by
  obtain ⟨Fs', h'⟩ := h.put (F := No) (x := undef) hp ⟨[], rfl, rfl, fun _ => No, by simp, by simp, by simp⟩ fun b hb => hb.elim
  exact ⟨Fs', h'.letGo fun b hb => hb.elim⟩
theorem wpOp_ok (h : St C X e a w) {ops : Array Oper} {i : Nat} {o : Oper} {m : Option Md} {s : Ins} (ho : ops[i]? = some o) (hp : prepO C.P ops.toList m o = some s) (hd : dstOk X o.dst = true)
    (hcall : ∀ f args r, call f args = some r → CallR C.P pm f args r) (hi : ioO call pm C.rt e s = some e') {K : Act → World → Prop} (hK : ∀ a' w', St C X e' a' w' → K a' w') : wpOp C.P ops Q i K a w := by
  obtain ⟨hX, Fs, hr⟩ := h
  unfold wpOp
  simp only [ho]
  unfold prepO at hp
  obtain ⟨ins, hins0⟩ : ∃ ins, ins = (prepI C.P m o).getD .bad := ⟨_, rfl⟩
  rw [← hins0] at hp
  have main : ioI call pm C.rt e o.dst ins = some e' → Oper.wp C.P o a w K Q := fun hi => by
    have hins : prepI C.P m o = some ins := by
      cases hpi : prepI C.P m o with
      | none => rw [hpi] at hins0; simp only [Option.getD_none] at hins0; subst hins0; simp [ioI] at hi
      | some j => rw [hpi] at hins0; simp only [Option.getD_some] at hins0; rw [hins0]
    unfold Oper.wp
    rw [eval_tmOf]
    rcases ok_op hr hins hcall hi with ⟨v, w', Fs', hrun, hr'⟩ | ⟨f, args, hrun, hc⟩
    · obtain ⟨h1, h2⟩ := put_tmOf (v := v) hX hd
      have hst : St C X e' (a.put o.dst v) w' := ⟨h2, Fs', by rw [h1]; exact hr'⟩
      rcases hrun with hrun | ⟨hrun, rfl⟩
      · rw [hrun, Oper.upon_value]; exact hK _ _ hst
      · rw [hrun, Oper.upon_skip]; exact hK _ _ hst
    · rw [hrun, Oper.upon_enter]
      refine hc.mono fun en w' ⟨v, Fs', hen, hr'⟩ => ?_
      subst hen
      obtain ⟨h1, h2⟩ := put_tmOf (v := v) hX hd
      exact hK _ _ ⟨h2, Fs', by rw [h1]; exact hr'⟩
  have skip : e.put C.rt o.dst (.tup []) = some e' → K (a.put o.dst undef) w := fun hs => by
    obtain ⟨Fs', hr'⟩ := hr.skip hs
    obtain ⟨h1, h2⟩ := put_tmOf (v := undef) hX hd
    exact hK _ _ ⟨h2, Fs', by rw [h1]; exact hr'⟩
  cases hg : o.guard with
  | none =>
    rw [hg] at hp
    simp only [Option.some.injEq] at hp
    subst hp
    have hw : Region.wanted o (yielded ops a.tmps) = true := by simp [Region.wanted, hg]
    simp only [hw, if_true]
    exact .inl (main hi)
  | some gw =>
    obtain ⟨g, want⟩ := gw
    rw [hg] at hp
    simp only at hp
    obtain ⟨t, ht, rfl⟩ := Option.map_eq_some_iff.1 hp
    simp only [ioO] at hi
    obtain ⟨b, hb, hi⟩ := Option.bind_eq_some_iff.1 hi
    have ht' : (ops[g]?).bind (·.dst) = some t := by simpa using ht
    have hy : yielded ops a.tmps g = b := by
      unfold yielded
      rw [ht']
      unfold T.gd? at hb
      split at hb
      · rename_i q heq
        simp only [Option.some.injEq] at hb
        subst hb
        have hv : tmOf a t = .bool q := hr.toBool (x := .tmp t) (q := .tmp t) (ty := 0) rfl (by simp [Env.opd, T.bool?, heq])
        have hlt : t < a.tmps.size := by
          rcases Nat.lt_or_ge t a.tmps.size with h | h
          · exact h
          · simp [tmOf, Array.getElem?_eq_none h, undef] at hv
        have : a.tmps[t]? = some (.bool q) := by
          simp only [tmOf, Array.getD_eq_getD_getElem?] at hv
          rw [Array.getElem?_eq_getElem hlt] at hv ⊢
          simpa using hv
        simp [this]
      · rename_i heq
        simp only [Option.some.injEq] at hb
        subst hb
        have h0 := hr.tr t
        rw [heq] at h0
        obtain ⟨xs, hx, hl, _⟩ := h0
        have : xs = [] := by
          cases xs with
          | nil => rfl
          | cons _ _ => simp at hl
        subst this
        simp only [Option.bind_some]
        cases hq : a.tmps[t]? with
        | none => rfl
        | some v =>
          have : v = .tuple #[] := by
            rw [← hx]; simp only [tmOf, Array.getD_eq_getD_getElem?, hq, Option.getD_some]
          subst this; rfl
      · cases hb
    have hw : Region.wanted o (yielded ops a.tmps) = decide (b = some want) := by
      simp only [Region.wanted, hg, hy]
      by_cases e : b = some want <;> simp [e]
    rw [hw]
    by_cases e1 : b = some want
    · simp only [e1, if_true] at hi
      simp only [e1, decide_true, if_true]
      exact .inl (main hi)
    · simp only [e1, if_false] at hi
      simp only [e1, decide_false, Bool.false_eq_true, if_false]
      exact skip hi
end
end Go.Mir

set_option linter.unusedVariables false
set_option linter.unusedSimpArgs false
namespace Go.Mir
open Go.RowKit
theorem Env.get_keep (e : Env) (l : List Nat) (t : Nat) : (e.keep l).get t = if t ∈ l then (e.get t).within l else .dead := by
  have : ∀ l' : List Nat, Env.get (l'.map fun t => (t, (e.get t).within l)) t = if t ∈ l' then (e.get t).within l else .dead := by
    intro l'
    induction l' with
    | nil => simp [Env.get]
    | cons u l' ih =>
      simp only [List.map_cons, Env.get, List.mem_cons]
      by_cases h : u = t
      · subst h; simp
      · simp only [h, if_false, Ne.symm h, false_or]; exact ih
  exact this l
theorem T.within_cases (l : List Nat) (t : T) : (t.within l = t ∧ ∀ r ∈ t.roots, r ∈ l) ∨ (t.within l = .dead ∧ t.roots ≠ []) := by
  unfold T.within
  split
  · rename_i h; exact .inl ⟨rfl, fun r hr => by simpa using List.all_eq_true.1 h r hr⟩
  · rename_i h; exact .inr ⟨rfl, fun hn => h (by simp [hn])⟩
theorem TR.noF {P : Program} {w : World} {ok : Nat → Prop} {e : Env} {tm : Nat → Value} {t : T} {x : Value} {F : Nat → Prop} (h : TR P w ok e tm t x F) (hr : t.roots ≠ []) : ∀ b, ¬ F b := by
  cases t with
  | dead => exact h
  | vs a cs => simp [T.roots] at hr
  | tup ts => simp [T.roots] at hr
  | at_ r k p => exact h.1
  | ref r k p => exact h.1
  | refs r k p n => exact h.1
  | adr c => exact h.1
  | fn f caps => exact h.1
theorem Rel.keep {C : Ctx} {e : Env} {tm : Nat → Value} {w : World} {Fs : Nat → Nat → Prop} (h : Rel C No e tm w Fs) (l : List Nat) : Rel C No (e.keep l) tm w fun t b => t ∈ l ∧ Fs t b := by
  have hok : ∀ b, okOf C.X No Fs b → b < w.heap.size → okOf C.X No (fun t b => t ∈ l ∧ Fs t b) b ∧ w.heap[b]? = w.heap[b]? := fun b hb _ => ⟨⟨hb.1, hb.2.1, fun t ht => hb.2.2 t ht.2⟩, rfl⟩
  have hvs : ∀ r a cs, r ∈ l → e.get r = .vs a cs → (e.keep l).get r = .vs a cs := fun r a cs hr hg => by
    rw [Env.get_keep, if_pos hr, hg]; simp [T.within, T.roots]
  have key : ∀ t, TR C.P w (okOf C.X No fun t b => t ∈ l ∧ Fs t b) (e.keep l) tm ((e.keep l).get t) (tm t) (fun b => t ∈ l ∧ Fs t b) := fun t => by
    rw [Env.get_keep]
    by_cases ht : t ∈ l
    · rw [if_pos ht]
      rcases T.within_cases l (e.get t) with ⟨h1, h2⟩ | ⟨h1, h2⟩
      · rw [h1]
        refine TR.ext (F := Fs t) ?_ fun b => ⟨fun hb => hb.2, fun hb => ⟨ht, hb⟩⟩
        refine (h.tr t).change (fun _ _ => rfl) hok (fun r k p ad hr _ ⟨a, cs, v, u, g1, g2⟩ => ⟨a, cs, v, u, hvs r a cs (h2 r hr) g1, g2⟩) (fun r k p x hr _ ⟨a, cs, v, u, g1, g2⟩ => ⟨a, cs, v, u, hvs r a cs (h2 r hr) g1, g2⟩)
      · rw [h1]
        exact fun b hb => (h.tr t).noF h2 b hb.2
    · rw [if_neg ht]
      exact fun b hb => ht hb.1
  refine ⟨key, fun t t' b hne h1 h2 => h.dj t t' b hne h1.2 h2.2, fun t b hb => h.hx t b hb.2, fun u r hr => ?_, h.gr, fun t b hb => h.nw t b hb.2, h.hn⟩
  rw [Env.get_keep] at hr
  split at hr
  · rcases T.within_cases l (e.get u) with ⟨h1, _⟩ | ⟨h1, _⟩
    · rw [h1] at hr; exact h.vw u r hr
    · rw [h1] at hr; simp [T.roots] at hr
  · simp [T.roots] at hr
section
variable {C : Ctx} {X : Fix} {e e' : Env} {a : Act} {w : World} {call : FuncId → List T → Option Res} {pm : FuncId → List PM} {Q : Exit → Act → World → Prop}
theorem St.keep (h : St C X e a w) (k : Option (List Nat)) : St C X (e.keep? k) a w := by
  cases k with
  | none => exact h
  | some l => obtain ⟨hX, Fs, hr⟩ := h; exact ⟨hX, _, hr.keep l⟩
structure RegAnn where
  md : List (Nat × Md) := []
  keep : Option (List Nat) := none
  dr : List (Bool × List Nat) := []
  cl : List (List Nat) := []
def annOf (l : List (Nat × RegAnn)) (id : Nat) : RegAnn := (l.lookup id).getD {}
def prepOs (P : Program) (ops : List Oper) (md : List (Nat × Md)) : Nat → List Oper → Option (List Ins)
  | _, [] => some []
  | i, o :: os => (prepO P ops (md.lookup i) o).bind fun s => (prepOs P ops md (i + 1) os).map (s :: ·)
def dstsOk (n : Nat) (ios : List Nat) (ops : List Oper) : Bool :=
  ops.all fun o => match o.dst with
    | none => true
    | some u => decide (u < n) && ios.all fun p => p != u
theorem wpOps_ok {ops : Array Oper} {md : List (Nat × Md)} (hcall : ∀ f args r, call f args = some r → CallR C.P pm f args r) (hd : ∀ o ∈ ops.toList, dstOk X o.dst = true) :
    ∀ {l : List Oper} {ss : List Ins} {i : Nat} {e : Env} {a : Act} {w : World}, (∀ j, l[j]? = ops[i + j]?) → prepOs C.P ops.toList md i l = some ss → St C X e a w → ioL call pm C.rt e ss = some e' →
      (∀ a' w', St C X e' a' w' → Q .normal a' w') → wpOps C.P ops Q (List.range' i l.length) a w
  | [], ss, i, e, a, w, hl, hp, h, hi, hQ => by
    simp [prepOs] at hp
    subst hp
    simp [ioL] at hi
    subst hi
    simpa [wpOps] using hQ _ _ h
  | o :: l, ss, i, e, a, w, hl, hp, h, hi, hQ => by
    simp only [prepOs] at hp
    obtain ⟨s, hs, hp⟩ := Option.bind_eq_some_iff.1 hp
    obtain ⟨ss', hss, rfl⟩ := Option.map_eq_some_iff.1 hp
    simp only [ioL] at hi
    obtain ⟨e1, h1, hi⟩ := Option.bind_eq_some_iff.1 hi
    have ho : ops[i]? = some o := by simpa using (hl 0).symm
    rw [List.length_cons, List.range'_succ, wpOps_cons]
    refine wpOp_ok h ho hs (hd o (by simpa using Array.mem_of_getElem? ho)) hcall h1 fun a' w' h' => ?_
    exact wpOps_ok hcall hd (fun j => by have := hl (j + 1); simpa [Nat.add_assoc, Nat.add_comm 1 j] using this) hss h' hi hQ
end
end Go.Mir

set_option linter.unusedVariables false
set_option linter.unusedSimpArgs false
namespace Go.Mir
open Go.RowKit
def I.reader : I → Bool
  | .mov .cp _ => true
  | .pick .. => true
  | .load .cp _ _ _ => true
  | .nilc _ => true
  | .bin .. => true
  | .un .. => true
  | .conv .. => true
  | .same _ => true
  | .s2b _ => true
  | .b2s _ => true
  | .slice true _ _ _ _ => true
  | .cut .. => true
  | .fieldA .. => true
  | .field .. => true
  | .indexA .. => true
  | .indexS .. => true
  | .len .. => true
  | .mn .. => true
  | .mx .. => true
  | .alloc _ => true
  | .callr .. => true
  | _ => false
def Env.le (e e2 : Env) : Prop := ∀ t, e.get t = .dead ∨ e.get t = e2.get t
section
variable {e e2 : Env} (h : e.le e2)
include h
theorem Env.le_opd {o : Opd} : e.opd o = .dead ∨ e.opd o = e2.opd o := by
  cases o with
  | tmp t => exact h t
  | _ => exact .inr rfl
theorem Env.le_opd' {o : Opd} (hn : e.opd o ≠ .dead) : e2.opd o = e.opd o := (Env.le_opd h).elim (fun hh => (hn hh).elim) Eq.symm
theorem Env.le_cell {r k : Nat} {p : Pt} {v : V} (hc : e.cell r k p = some v) : e2.cell r k p = some v := by
  obtain ⟨a, cs, v0, g1, g2, g3⟩ := Env.cell_some hc
  have : e2.get r = .vs a cs := by
    rcases h r with hh | hh
    · rw [hh] at g1; cases g1
    · rw [← hh]; exact g1
  simp only [Env.cell, this, g2, Option.bind_some, g3]
omit h in
theorem Env.le_cells {f f2 : Nat → Option V} (hf : ∀ i v, f i = some v → f2 i = some v) : ∀ {i n : Nat} {vs : List V}, cells f i n = some vs → cells f2 i n = some vs
  | i, 0, vs, hc => by simpa [cells] using hc
  | i, n + 1, vs, hc => by
    simp only [cells] at hc ⊢
    obtain ⟨v, hv, hc⟩ := Option.bind_eq_some_iff.1 hc
    obtain ⟨vs', hvs, rfl⟩ := Option.map_eq_some_iff.1 hc
    rw [hf i v hv, Option.bind_some, Env.le_cells hf hvs]; rfl
theorem Env.le_cellsAt {r k : Nat} {p : Pt} {n : Nat} {vs : List V} (hc : e.cellsAt r k p n = some vs) : e2.cellsAt r k p n = some vs :=
  Env.le_cells (fun i v hv => by
    obtain ⟨q, hq, hv⟩ := Option.bind_eq_some_iff.1 hv
    rw [hq]; exact Env.le_cell h hv) hc
theorem Env.le_ptr {o : Opd} {p : Ptr} (hp : e.ptr o = some p) : e2.ptr o = some p := by
  have : e.opd o ≠ .dead := fun hd => by simp [Env.ptr, hd] at hp
  simp only [Env.ptr, Env.le_opd' h this] at hp ⊢
  exact hp
theorem Env.le_elems {o : Opd} {xs : List (List V)} (he : e.elems o = some xs) : e2.elems o = some xs := by
  have : e.opd o ≠ .dead := fun hd => by simp [Env.elems, hd] at he
  unfold Env.elems at he ⊢
  rw [Env.le_opd' h this]
  split at he
  · exact he
  · exact he
  · exact he
  · rename_i r k p _
    split at he
    · rename_i hc; rw [Env.le_cell h hc]; exact he
    · rename_i hc; rw [Env.le_cell h hc]; exact he
    · cases he
  · exact he
  · cases he
theorem Env.le_str {o : Opd} {s : ByteArray} (hs : (e.opd o).str? = some s) : (e2.opd o).str? = some s := by
  have : e.opd o ≠ .dead := fun hd => by simp [hd, T.str?] at hs
  rw [Env.le_opd' h this]; exact hs
theorem Env.le_int {o : Opd} {s : IntKind × Int} (hs : (e.opd o).int? = some s) : (e2.opd o).int? = some s := by
  have : e.opd o ≠ .dead := fun hd => by simp [hd, T.int?] at hs
  rw [Env.le_opd' h this]; exact hs
theorem Env.le_bool {o : Opd} {s : Bool} (hs : (e.opd o).bool? = some s) : (e2.opd o).bool? = some s := by
  have : e.opd o ≠ .dead := fun hd => by simp [hd, T.bool?] at hs
  rw [Env.le_opd' h this]; exact hs
theorem Env.le_bound {n : Int} {o : Option Opd} {m : Int} (hs : e.bound n o = some m) : e2.bound n o = some m := by
  cases o with
  | none => exact hs
  | some o =>
    simp only [Env.bound] at hs ⊢
    obtain ⟨x, hx, rfl⟩ := Option.map_eq_some_iff.1 hs
    rw [Env.le_int h hx]; rfl
theorem Env.le_cpT {o : Opd} {t : T} (hs : T.cp o (e.opd o) = some t) : T.cp o (e2.opd o) = some t := by
  have : e.opd o ≠ .dead := fun hd => by simp [hd, T.cp] at hs
  rw [Env.le_opd' h this]; exact hs
theorem Env.le_restAt {r k : Nat} {p : Pt} {vs : List V} (hs : e.restAt r k p = some vs) : e2.restAt r k p = some vs := by
  unfold Env.restAt at hs ⊢
  split at hs
  · cases hs
  · rename_i i j hl
    split at hs
    · rename_i hc; rw [Env.le_cell h hc]; exact hs
    · rename_i hc; rw [Env.le_cell h hc]; exact hs
    · rename_i hc; rw [Env.le_cell h hc]; exact hs
    · cases hs
theorem Env.le_capsRo : ∀ {caps : List T} {r : List T × Bool}, capsRo e caps = some r → capsRo e2 caps = some r
  | [], r, hc => hc
  | c :: caps, r, hc => by
    cases c with
    | at_ r k p =>
      simp only [capsRo] at hc ⊢
      obtain ⟨vs, hvs, hc⟩ := Option.bind_eq_some_iff.1 hc
      obtain ⟨ds, hds, hc⟩ := Option.bind_eq_some_iff.1 hc
      obtain ⟨x, hx, rfl⟩ := Option.map_eq_some_iff.1 hc
      rw [Env.le_restAt h hvs, Option.bind_some, hds, Option.bind_some, Env.le_capsRo hx]; rfl
    | vs a cs =>
      simp only [capsRo] at hc ⊢
      split at hc
      · rename_i hd
        obtain ⟨x, hx, rfl⟩ := Option.map_eq_some_iff.1 hc
        rw [if_pos hd, Env.le_capsRo hx]; rfl
      · cases hc
    | adr c =>
      simp only [capsRo] at hc ⊢
      obtain ⟨x, hx, rfl⟩ := Option.map_eq_some_iff.1 hc
      rw [Env.le_capsRo hx]; rfl
    | _ => simp [capsRo] at hc
theorem Env.le_argV {o : Opd} {x : T} {a : Arg} (ha : e.argV o x = some a) : e2.argV o x = some a := by
  have h1 : ∀ {r k : Nat} {p : Pt}, ((e.cell r k p).bind fun v => (v.toD).map fun x => (⟨.one (.d x), true, none⟩ : Arg)) = some a → ((e2.cell r k p).bind fun v => (v.toD).map fun x => (⟨.one (.d x), true, none⟩ : Arg)) = some a := fun hh => by
    obtain ⟨v, hv, hh⟩ := Option.bind_eq_some_iff.1 hh
    rw [Env.le_cell h hv]; exact hh
  have h2 : ∀ {r k : Nat} {p : Pt}, ((e.restAt r k p).bind fun vs => (toDs vs).map fun ds => (⟨.adr ds, true, none⟩ : Arg)) = some a → ((e2.restAt r k p).bind fun vs => (toDs vs).map fun ds => (⟨.adr ds, true, none⟩ : Arg)) = some a := fun hh => by
    obtain ⟨v, hv, hh⟩ := Option.bind_eq_some_iff.1 hh
    rw [Env.le_restAt h hv]; exact hh
  have h3 : ∀ {f : FuncId} {caps : List T}, ((capsRo e caps).map fun (x : List T × Bool) => (⟨.fn f x.1, x.2, none⟩ : Arg)) = some a → ((capsRo e2 caps).map fun (x : List T × Bool) => (⟨.fn f x.1, x.2, none⟩ : Arg)) = some a := fun hh => by
    obtain ⟨v, hv, hh⟩ := Option.map_eq_some_iff.1 hh
    rw [Env.le_capsRo h hv]; simp [hh]
  have h4 : ∀ {r k : Nat} {p : Pt} {n : Nat}, ((e.cellsAt r k p n).bind fun vs => (toDs vs).map fun ds => (⟨.vs true (dsV ds), true, none⟩ : Arg)) = some a → ((e2.cellsAt r k p n).bind fun vs => (toDs vs).map fun ds => (⟨.vs true (dsV ds), true, none⟩ : Arg)) = some a := fun hh => by
    obtain ⟨v, hv, hh⟩ := Option.bind_eq_some_iff.1 hh
    rw [Env.le_cellsAt h hv]; exact hh
  cases o <;> cases x <;> simp only [Env.argV] at ha ⊢
  all_goals first | exact ha | exact h1 ha | exact h2 ha | exact h3 ha | exact h4 ha | skip
  all_goals
    rename_i ag cs
    cases ag <;> rcases cs with _ | ⟨v, _ | ⟨v2, cs⟩⟩ <;> try (cases v)
    all_goals first | exact ha | skip
    all_goals
      rename_i xs
      cases xs <;> exact ha
theorem Env.le_args2 : ∀ {os : List Opd} {ags : List Arg}, Env.args2 e os (os.map fun _ => none) = some ags → Env.args2 e2 os (os.map fun _ => none) = some ags
  | [], ags, ha => ha
  | o :: os, ags, ha => by
    simp only [List.map_cons, Env.args2] at ha ⊢
    obtain ⟨a, h1, ha⟩ := Option.bind_eq_some_iff.1 ha
    obtain ⟨as', has, rfl⟩ := Option.map_eq_some_iff.1 ha
    have hn : e.opd o ≠ .dead := fun hd => by
      simp only [Env.arg2, hd, Env.argV] at h1
      cases o <;> simp at h1
    have h2 : e2.arg2 o none = some a := by
      simp only [Env.arg2] at h1 ⊢
      rw [Env.le_opd' h hn]
      exact Env.le_argV h h1
    rw [h2, Option.bind_some, Env.le_args2 has]; rfl
theorem reader_le {call : FuncId → List T → Option Res} {pm : FuncId → List PM} {rt : Views} {dst : Option Nat} {i : I} {e1 : Env} (hr : i.reader = true) (hi : ioI call pm rt e dst i = some e1) :
    ∃ t, e.put rt dst t = some e1 ∧ ioI call pm rt e2 dst i = e2.put rt dst t := by
  cases i with
  | mov m x =>
    cases m <;> simp only [I.reader] at hr <;> try (cases hr)
    simp only [ioI] at hi ⊢
    obtain ⟨t, ht, hp⟩ := Option.bind_eq_some_iff.1 hi
    exact ⟨t, hp, by rw [Env.le_cpT h ht]; rfl⟩
  | pick c a b =>
    simp only [ioI] at hi ⊢
    obtain ⟨q, hq, hi⟩ := Option.bind_eq_some_iff.1 hi
    obtain ⟨t, ht, hp⟩ := Option.bind_eq_some_iff.1 hi
    exact ⟨t, hp, by rw [Env.le_bool h hq, Option.bind_some, Env.le_cpT h ht]; rfl⟩
  | alloc z => exact ⟨_, hi, rfl⟩
  | load m agg n a =>
    cases m <;> simp only [I.reader] at hr <;> try (cases hr)
    simp only [ioI] at hi ⊢
    obtain ⟨p, hp, hi⟩ := Option.bind_eq_some_iff.1 hi
    rw [Env.le_ptr h hp, Option.bind_some]
    cases p with
    | adr c =>
      simp only at hi ⊢
      obtain ⟨t, ht, hp⟩ := Option.bind_eq_some_iff.1 hi
      exact ⟨t, hp, by rw [ht]; rfl⟩
    | at_ r k p =>
      simp only at hi ⊢
      obtain ⟨cs, hcs, hi⟩ := Option.bind_eq_some_iff.1 hi
      rw [Env.le_cellsAt h hcs, Option.bind_some]
      split at hi
      · rename_i hd
        rw [if_pos hd]
        split at hi
        · rename_i hag; rw [if_pos hag]; exact ⟨_, hi, rfl⟩
        · cases hi
      · rename_i hd
        rw [if_neg hd]
        split at hi
        · exact ⟨_, hi, rfl⟩
        · exact ⟨_, hi, rfl⟩
        · exact ⟨_, hi, rfl⟩
        · exact ⟨_, hi, rfl⟩
        · cases hi
  | nilc x =>
    simp only [ioI] at hi ⊢
    obtain ⟨p, hp, hi⟩ := Option.bind_eq_some_iff.1 hi
    rw [Env.le_ptr h hp, Option.bind_some]
    cases p <;> exact ⟨_, hi, rfl⟩
  | bin ks o x y =>
    simp only [ioI] at hi ⊢
    obtain ⟨v, hv, hp⟩ := Option.bind_eq_some_iff.1 hi
    have hx : e.opd x ≠ .dead := fun hd => by rw [hd] at hv; cases ks <;> simp [Mir.bin] at hv
    have hy : e.opd y ≠ .dead := fun hd => by rw [hd] at hv; cases ks <;> simp [Mir.bin] at hv
    exact ⟨_, hp, by rw [Env.le_opd' h hx, Env.le_opd' h hy, hv]; rfl⟩
  | un o x =>
    simp only [ioI] at hi ⊢
    obtain ⟨v, hv, hp⟩ := Option.bind_eq_some_iff.1 hi
    have hx : e.opd x ≠ .dead := fun hd => by rw [hd] at hv; cases o <;> simp [Mir.un] at hv
    exact ⟨_, hp, by rw [Env.le_opd' h hx, hv]; rfl⟩
  | conv k x =>
    simp only [ioI] at hi ⊢
    obtain ⟨v, hv, hp⟩ := Option.bind_eq_some_iff.1 hi
    exact ⟨_, hp, by rw [Env.le_int h hv]; rfl⟩
  | same x =>
    simp only [ioI] at hi ⊢
    obtain ⟨v, hv, hp⟩ := Option.bind_eq_some_iff.1 hi
    exact ⟨_, hp, by rw [Env.le_str h hv]; rfl⟩
  | s2b x =>
    simp only [ioI] at hi ⊢
    obtain ⟨v, hv, hp⟩ := Option.bind_eq_some_iff.1 hi
    exact ⟨_, hp, by rw [Env.le_str h hv]; rfl⟩
  | b2s x =>
    simp only [ioI] at hi ⊢
    split at hi
    · cases hi
    · rename_i hns
      obtain ⟨xs, hxs, hi⟩ := Option.bind_eq_some_iff.1 hi
      obtain ⟨ds, hds, hi⟩ := Option.bind_eq_some_iff.1 hi
      obtain ⟨l, hl, hp⟩ := Option.bind_eq_some_iff.1 hi
      have hx : e.opd x ≠ .dead := fun hd => by simp [Env.elems, hd] at hxs
      rw [Env.le_opd' h hx, if_neg hns, Env.le_elems h hxs, Option.bind_some, hds, Option.bind_some, hl]
      exact ⟨_, hp, rfl⟩
  | slice str sz x lo hi2 =>
    cases str <;> simp only [I.reader] at hr <;> try (cases hr)
    simp only [ioI] at hi ⊢
    obtain ⟨s, hs, hi⟩ := Option.bind_eq_some_iff.1 hi
    obtain ⟨l, hl, hi⟩ := Option.bind_eq_some_iff.1 hi
    obtain ⟨g, hg, hi⟩ := Option.bind_eq_some_iff.1 hi
    rw [Env.le_str h hs, Option.bind_some, Env.le_bound h hl, Option.bind_some, Env.le_bound h hg, Option.bind_some]
    split at hi
    · rename_i hc; rw [if_pos hc]; exact ⟨_, hi, rfl⟩
    · cases hi
  | cut sz x lo hi2 =>
    simp only [ioI] at hi ⊢
    have hx : e.opd x ≠ .dead := fun hd => by simp [hd] at hi
    rw [Env.le_opd' h hx]
    split at hi
    · obtain ⟨l, hl, hi⟩ := Option.bind_eq_some_iff.1 hi
      obtain ⟨g, hg, hi⟩ := Option.bind_eq_some_iff.1 hi
      simp only [Env.le_bound h hl, Option.bind_some, Env.le_bound h hg]
      split at hi
      · rename_i hc; rw [if_pos hc]; exact ⟨_, hi, rfl⟩
      · cases hi
    · cases hi
  | fieldA off x =>
    simp only [ioI] at hi ⊢
    obtain ⟨p, hp, hi⟩ := Option.bind_eq_some_iff.1 hi
    rw [Env.le_ptr h hp, Option.bind_some]
    cases p with
    | at_ r k p =>
      simp only at hi ⊢
      obtain ⟨q, hq, hi⟩ := Option.bind_eq_some_iff.1 hi
      obtain ⟨v, hv, hi⟩ := Option.bind_eq_some_iff.1 hi
      rw [hq, Option.bind_some, Env.le_cell h hv]
      exact ⟨_, hi, rfl⟩
    | adr c =>
      simp only at hi ⊢
      split at hi
      · rename_i hc; rw [if_pos hc]; exact ⟨_, hi, rfl⟩
      · cases hi
  | field off n agg x =>
    simp only [ioI] at hi ⊢
    have hx : e.opd x ≠ .dead := fun hd => by simp [hd] at hi
    rw [Env.le_opd' h hx]
    split at hi
    · split at hi
      · rename_i hc
        obtain ⟨t, ht, hp⟩ := Option.bind_eq_some_iff.1 hi
        simp only [if_pos hc, ht, Option.bind_some]
        exact ⟨_, hp, rfl⟩
      · cases hi
    · cases hi
  | indexA sz x i =>
    simp only [ioI] at hi ⊢
    obtain ⟨p, hp, hi⟩ := Option.bind_eq_some_iff.1 hi
    rw [Env.le_int h hp, Option.bind_some]
    split at hi
    · rename_i hn
      rw [if_pos hn]
      have hx : e.opd x ≠ .dead := fun hd => by simp [hd] at hi
      rw [Env.le_opd' h hx]
      split at hi
      · rename_i heq
        obtain ⟨c, hc, hi⟩ := Option.bind_eq_some_iff.1 hi
        rw [hc, Option.bind_some]
        split at hi
        · rename_i hsz; rw [if_pos hsz]; exact ⟨_, hi, rfl⟩
        · cases hi
      · rename_i heq _
        obtain ⟨c, hc, hi⟩ := Option.bind_eq_some_iff.1 hi
        rw [hc, Option.bind_some]
        split at hi
        · rename_i hsz; rw [if_pos hsz]; exact ⟨_, hi, rfl⟩
        · cases hi
      · rename_i heq _
        obtain ⟨c, hc, hi⟩ := Option.bind_eq_some_iff.1 hi
        rw [hc, Option.bind_some]
        split at hi
        · rename_i hsz; rw [if_pos hsz]; exact ⟨_, hi, rfl⟩
        · cases hi
      · rename_i heq
        split at hi
        · rename_i hc0
          rw [Env.le_cell h hc0]
          obtain ⟨c, hc, hi⟩ := Option.bind_eq_some_iff.1 hi
          simp only [hc, Option.bind_some]
          split at hi
          · rename_i hsz; rw [if_pos hsz]; exact ⟨_, hi, rfl⟩
          · cases hi
        · rename_i hc0
          rw [Env.le_cell h hc0]
          obtain ⟨c, hc, hi⟩ := Option.bind_eq_some_iff.1 hi
          simp only [hc, Option.bind_some]
          split at hi
          · rename_i hsz; rw [if_pos hsz]; exact ⟨_, hi, rfl⟩
          · cases hi
        · cases hi
      · cases hi
    · cases hi
  | indexS x i =>
    simp only [ioI] at hi ⊢
    obtain ⟨p, hp, hi⟩ := Option.bind_eq_some_iff.1 hi
    obtain ⟨s, hs, hi⟩ := Option.bind_eq_some_iff.1 hi
    rw [Env.le_int h hp, Option.bind_some, Env.le_str h hs, Option.bind_some]
    split at hi
    · rename_i hc
      obtain ⟨b, hb, hi⟩ := Option.bind_eq_some_iff.1 hi
      rw [if_pos hc, hb]
      exact ⟨_, hi, rfl⟩
    · cases hi
  | len str x =>
    cases str with
    | true =>
      simp only [ioI] at hi ⊢
      obtain ⟨s, hs, hi⟩ := Option.bind_eq_some_iff.1 hi
      rw [Env.le_str h hs]
      exact ⟨_, hi, rfl⟩
    | false =>
      simp only [ioI] at hi ⊢
      split at hi
      · cases hi
      · rename_i hns
        obtain ⟨xs, hxs, hi⟩ := Option.bind_eq_some_iff.1 hi
        have hx : e.opd x ≠ .dead := fun hd => by simp [Env.elems, hd] at hxs
        rw [Env.le_opd' h hx, if_neg hns, Env.le_elems h hxs]
        exact ⟨_, hi, rfl⟩
  | mn x y =>
    simp only [ioI] at hi ⊢
    obtain ⟨a, ha, hi⟩ := Option.bind_eq_some_iff.1 hi
    obtain ⟨b, hb, hi⟩ := Option.bind_eq_some_iff.1 hi
    rw [Env.le_int h ha, Option.bind_some, Env.le_int h hb]
    exact ⟨_, hi, rfl⟩
  | mx x y =>
    simp only [ioI] at hi ⊢
    obtain ⟨a, ha, hi⟩ := Option.bind_eq_some_iff.1 hi
    obtain ⟨b, hb, hi⟩ := Option.bind_eq_some_iff.1 hi
    rw [Env.le_int h ha, Option.bind_some, Env.le_int h hb]
    exact ⟨_, hi, rfl⟩
  | callr f os =>
    simp only [ioI, Env.callR] at hi ⊢
    split at hi
    · rename_i hc
      rw [if_pos hc]
      obtain ⟨ags, has, hi⟩ := Option.bind_eq_some_iff.1 hi
      obtain ⟨⟨t, outs⟩, ht, hi⟩ := Option.bind_eq_some_iff.1 hi
      rw [Env.le_args2 h has, Option.bind_some, ht, Option.bind_some]
      simp only at hi ⊢
      split at hi
      · cases hi
      · rename_i hl
        rw [if_neg hl]
        split at hi
        · rename_i ho; rw [if_pos ho]; exact ⟨_, hi, rfl⟩
        · cases hi
    · cases hi
  | _ => simp [I.reader] at hr
end
end Go.Mir

set_option linter.unusedVariables false
set_option linter.unusedSimpArgs false
namespace Go.Mir
open Go.RowKit
theorem Env.get_keep_append (e1 e : Env) (l : List Nat) (t : Nat) : Env.get (e1.keep l ++ e) t = if t ∈ l then (e1.get t).within l else e.get t := by
  have : ∀ l' : List Nat, Env.get ((l'.map fun t => (t, (e1.get t).within l)) ++ e) t = if t ∈ l' then (e1.get t).within l else e.get t := by
    intro l'
    induction l' with
    | nil => simp
    | cons u l' ih =>
      simp only [List.map_cons, List.cons_append, Env.get, List.mem_cons]
      by_cases h : u = t
      · subst h; simp
      · simp only [h, if_false, Ne.symm h, false_or]; exact ih
  exact this l
theorem T.within_le (l : List Nat) (t : T) : t.within l = .dead ∨ t.within l = t := by
  unfold T.within; split <;> simp
theorem Env.keep_le (e : Env) (l : List Nat) : (e.keep l).le e := fun t => by
  rw [Env.get_keep]
  split
  · exact T.within_le l _
  · exact .inl rfl
theorem Env.get_keys {e : Env} {l : List Nat} (h : e.all (fun p => l.contains p.1) = true) {t : Nat} (ht : t ∉ l) : e.get t = .dead := by
  induction e with
  | nil => rfl
  | cons p e ih =>
    obtain ⟨u, v⟩ := p
    simp only [List.all_cons, Bool.and_eq_true] at h
    simp only [Env.get]
    rw [if_neg, ih h.2]
    rintro rfl
    exact ht (by simpa using h.1)
theorem Env.put_get {rt : Views} {e e1 : Env} {d : Nat} {t : T} (h : e.put rt (some d) t = some e1) : e1.get d = t := by
  simp only [Env.put] at h
  split at h
  · simp only [Option.some.injEq] at h; subst h; simp [Env.get]
  · cases h
theorem dr_small {call : FuncId → List T → Option Res} {pm : FuncId → List PM} {rt : Views} {e e' : Env} {s : Ins} {R : List Nat} (hr : s.op.reader = true) (hd : drO call pm rt e (s, false, R) = some e') : ioO call pm rt e s = some e' := by
  simp only [drO] at hd
  obtain ⟨e1, h1, hd⟩ := Option.bind_eq_some_iff.1 hd
  simp only [Bool.false_eq_true, if_false] at hd
  have main : ioI call pm rt (e.keep R) s.dst s.op = some e1 → ioI call pm rt e s.dst s.op = some e' := fun hi => by
    obtain ⟨t, ht, hi2⟩ := reader_le (Env.keep_le e R) hr hi
    rw [hi2]
    cases hds : s.dst with
    | none => rw [hds] at hd; simpa [Env.put] using hd
    | some d =>
      rw [hds] at hd ht
      simp only at hd
      rw [Env.put_get ht] at hd
      simpa using hd
  simp only [ioO] at h1 ⊢
  cases hg : s.guard with
  | none => rw [hg] at h1; exact main h1
  | some g =>
    obtain ⟨j, want⟩ := g
    rw [hg] at h1
    simp only at h1 ⊢
    obtain ⟨b, hb, h1⟩ := Option.bind_eq_some_iff.1 h1
    have hb' : (e.get j).gd? = some b := by
      rcases Env.keep_le e R j with h | h
      · rw [h] at hb; cases hb
      · rw [← h]; exact hb
    rw [hb', Option.bind_some]
    split at h1
    · rename_i hw; rw [if_pos hw]; exact main h1
    · rename_i hw
      rw [if_neg hw]
      cases hds : s.dst with
      | none => rw [hds] at hd; simpa [Env.put] using hd
      | some d =>
        rw [hds] at hd h1
        simp only at hd
        rw [Env.put_get h1] at hd
        simpa using hd
theorem Rel.keepTR {C : Ctx} {e : Env} {tm : Nat → Value} {w : World} {Fs : Nat → Nat → Prop} (h : Rel C No e tm w Fs) (l : List Nat) {ok' : Nat → Prop} (hok' : ∀ b, okOf C.X No Fs b → ok' b) (t : Nat) :
    TR C.P w ok' (e.keep l) tm ((e.keep l).get t) (tm t) (fun b => t ∈ l ∧ Fs t b) := by
  have hvs : ∀ r a cs, r ∈ l → e.get r = .vs a cs → (e.keep l).get r = .vs a cs := fun r a cs hr hg => by
    rw [Env.get_keep, if_pos hr, hg]; simp [T.within, T.roots]
  rw [Env.get_keep]
  by_cases ht : t ∈ l
  · rw [if_pos ht]
    rcases T.within_cases l (e.get t) with ⟨h1, h2⟩ | ⟨h1, h2⟩
    · rw [h1]
      refine TR.ext (F := Fs t) ?_ fun b => ⟨fun hb => hb.2, fun hb => ⟨ht, hb⟩⟩
      refine (h.tr t).change (fun _ _ => rfl) (fun b hb _ => ⟨hok' b hb, rfl⟩) (fun r k p ad hr _ ⟨a, cs, v, u, g1, g2⟩ => ⟨a, cs, v, u, hvs r a cs (h2 r hr) g1, g2⟩) (fun r k p x hr _ ⟨a, cs, v, u, g1, g2⟩ => ⟨a, cs, v, u, hvs r a cs (h2 r hr) g1, g2⟩)
    · rw [h1]
      exact fun b hb => (h.tr t).noF h2 b hb.2
  · rw [if_neg ht]
    exact fun b hb => ht hb.1
def Ctx.among (C : Ctx) (R : List Nat) (w : World) (Fs : Nat → Nat → Prop) (hX : ∀ b, (C.X b ∨ ∃ t, t ∉ R ∧ Fs t b) → b < w.heap.size) : Ctx :=
  { P := C.P, X := fun b => C.X b ∨ ∃ t, t ∉ R ∧ Fs t b, w0 := w, F0 := fun b => ∃ t, t ∈ R ∧ Fs t b, rt := C.rt, hX := hX }
theorem Rel.amongX {C : Ctx} {e : Env} {tm : Nat → Value} {w : World} {Fs : Nat → Nat → Prop} (h : Rel C No e tm w Fs) (R : List Nat) : ∀ b, (C.X b ∨ ∃ t, t ∉ R ∧ Fs t b) → b < w.heap.size := fun b hb => by
  rcases hb with hb | ⟨t, _, hb⟩
  · have := C.hX b hb; have := h.gr.size; omega
  · exact (h.tr t).lt b hb
theorem Rel.among {C : Ctx} {e : Env} {tm : Nat → Value} {w : World} {Fs : Nat → Nat → Prop} (h : Rel C No e tm w Fs) (R : List Nat) : Rel (C.among R w Fs (h.amongX R)) No (e.keep R) tm w fun t b => t ∈ R ∧ Fs t b := by
  refine ⟨fun t => h.keepTR R (fun b hb => ⟨fun hx => hx.elim hb.1 fun ⟨t, _, ht⟩ => hb.2.2 t ht, fun h => h, fun t ht => hb.2.2 t ht.2⟩) t, fun t t' b hne h1 h2 => h.dj t t' b hne h1.2 h2.2, fun t b hb => ⟨fun hx => ?_, fun h => h⟩, fun u r hr => ?_, Grow.refl _ _, fun t b hb => .inl ⟨t, hb⟩, fun b hb => hb.elim⟩
  · rcases hx with hx | ⟨t', ht', hx⟩
    · exact (h.hx t b hb.2).1 hx
    · exact h.dj t t' b (by rintro rfl; exact ht' hb.1) hb.2 hx
  · rw [Env.get_keep] at hr
    split at hr
    · rcases T.within_cases R (e.get u) with ⟨h1, _⟩ | ⟨h1, _⟩
      · rw [h1] at hr; exact h.vw u r hr
      · rw [h1] at hr; simp [T.roots] at hr
    · simp [T.roots] at hr
theorem Rel.rejoin {C : Ctx} {e e1 : Env} {tm tm' : Nat → Value} {w w' : World} {Fs Fs1 : Nat → Nat → Prop} {R : List Nat} (h : Rel C No e tm w Fs) (hcl : ∀ r, r ∈ R → ∀ u, (u, r) ∈ C.rt → u ∈ R)
    (h' : Rel (C.among R w Fs (h.amongX R)) No e1 tm' w' Fs1) (hk : e1.all (fun p => R.contains p.1) = true) (ht : ∀ t, t ∉ R → tm' t = tm t) :
    Rel C No (e1.keep R ++ e) tm' w' fun t b => (t ∈ R ∧ Fs1 t b) ∨ (t ∉ R ∧ Fs t b) := by
  have hgr : Grow (fun b => ∃ t, t ∈ R ∧ Fs t b) w w' := h'.gr
  have hfr : ∀ t, t ∉ R → ∀ b, Fs t b → w'.heap[b]? = w.heap[b]? := fun t htR b hb => hgr.block b ((h.tr t).lt b hb) fun ⟨t', ht', hb'⟩ => h.dj t t' b (by rintro rfl; exact htR ht') hb hb'
  have hok1 : ∀ b, okOf (C.among R w Fs (h.amongX R)).X No Fs1 b → okOf C.X No (fun t b => (t ∈ R ∧ Fs1 t b) ∨ (t ∉ R ∧ Fs t b)) b := fun b hb =>
    ⟨fun hx => hb.1 (.inl hx), fun h => h, fun t hh => hh.elim (fun hh => hb.2.2 t hh.2) fun hh => hb.1 (.inr ⟨t, hh⟩)⟩
  have hok2 : ∀ b, okOf C.X No Fs b → b < w.heap.size → okOf C.X No (fun t b => (t ∈ R ∧ Fs1 t b) ∨ (t ∉ R ∧ Fs t b)) b ∧ w'.heap[b]? = w.heap[b]? := fun b hb hl => by
    refine ⟨⟨hb.1, fun h => h, fun t hh => ?_⟩, hgr.block b hl fun ⟨t, _, hb'⟩ => hb.2.2 t hb'⟩
    rcases hh with ⟨_, hh⟩ | ⟨_, hh⟩
    · rcases h'.nw t b hh with ⟨t', _, hf⟩ | hf
      · exact hb.2.2 t' hf
      · simp only [Ctx.among] at hf; omega
    · exact hb.2.2 t hh
  have hget1 : ∀ r a cs, r ∈ R → e1.get r = .vs a cs → Env.get (e1.keep R ++ e) r = .vs a cs := fun r a cs hr hg => by
    rw [Env.get_keep_append, if_pos hr, hg]; simp [T.within, T.roots]
  have hget2 : ∀ r, r ∉ R → Env.get (e1.keep R ++ e) r = e.get r := fun r hr => by rw [Env.get_keep_append, if_neg hr]
  have hF1 : ∀ t, t ∉ R → ∀ b, ¬ Fs1 t b := fun t htR b hb => by
    have := h'.tr t
    rw [Env.get_keys hk htR] at this
    exact this b hb
  refine ⟨fun t => ?_, fun t t' b hne h1 h2 => ?_, fun t b hb => ⟨?_, fun h => h⟩, fun u r hr => ?_, ?_, fun t b hb => ?_, fun b hb => hb.elim⟩
  · by_cases htR : t ∈ R
    · rw [Env.get_keep_append, if_pos htR]
      rcases T.within_cases R (e1.get t) with ⟨h1, h2⟩ | ⟨h1, h2⟩
      · rw [h1]
        refine TR.ext (F := Fs1 t) ?_ fun b => ⟨fun hb => hb.elim (fun hb => hb.2) fun hb => (hb.1 htR).elim, fun hb => .inl ⟨htR, hb⟩⟩
        refine (h'.tr t).change (fun _ _ => rfl) (fun b hb _ => ⟨hok1 b hb, rfl⟩) (fun r k p ad hr _ ⟨a, cs, v, u, g1, g2⟩ => ⟨a, cs, v, u, hget1 r a cs (h2 r hr) g1, g2⟩)
          (fun r k p x hr _ ⟨a, cs, v, u, g1, g2⟩ => ⟨a, cs, v, u, hget1 r a cs (h2 r hr) g1, g2⟩)
      · rw [h1]
        rintro b (hb | hb)
        · exact (h'.tr t).noF h2 b hb.2
        · exact hb.1 htR
    · rw [hget2 t htR, ht t htR]
      refine TR.ext (F := Fs t) ?_ fun b => ⟨fun hb => hb.elim (fun hb => (htR hb.1).elim) fun hb => hb.2, fun hb => .inr ⟨htR, hb⟩⟩
      have hroot : ∀ r, r ∈ (e.get t).roots → r ∉ R := fun r hr hrR => htR (hcl r hrR t (h.vw t r hr).1)
      refine (h.tr t).change (hfr t htR) hok2 (fun r k p ad hr _ ⟨a, cs, v, u, g1, g2, g3, g4⟩ => ?_) (fun r k p x hr _ ⟨a, cs, v, u, g1, g2, g3, g5, g4⟩ => ?_)
      · have hrR := hroot r hr
        obtain ⟨F, hF, hs⟩ := h.root g1 g2 g3
        exact ⟨a, cs, v, u, by rw [hget2 r hrR, g1], g2, by rw [ht r hrR]; exact g3, (adrOf_frame hF fun b hb => hfr r hrR b (hs b hb)).trans g4⟩
      · have hrR := hroot r hr
        obtain ⟨F, hF, hs⟩ := h.root g1 g2 g3
        refine ⟨a, cs, v, u, by rw [hget2 r hrR, g1], g2, by rw [ht r hrR]; exact g3, g5, ?_⟩
        cases p with
        | nil => exact g4
        | cons s p =>
          simp only [valOf] at g4 ⊢
          rw [adrOf_frame hF fun b hb => hfr r hrR b (hs b hb)]
          obtain ⟨ad, ha, hc⟩ := Option.bind_eq_some_iff.1 g4
          rw [ha]
          exact (World.cell?_of_block (w := w) (hfr r hrR _ (hs _ (adrOf_mem hF g5 ha).1))).trans hc
  · rcases h1 with ⟨a1, h1⟩ | ⟨a1, h1⟩ <;> rcases h2 with ⟨a2, h2⟩ | ⟨a2, h2⟩
    · exact h'.dj t t' b hne h1 h2
    · exact (h'.hx t b h1).1 (.inr ⟨t', a2, h2⟩)
    · exact (h'.hx t' b h2).1 (.inr ⟨t, a1, h1⟩)
    · exact h.dj t t' b hne h1 h2
  · rcases hb with ⟨_, hb⟩ | ⟨_, hb⟩
    · exact fun hx => (h'.hx t b hb).1 (.inl hx)
    · exact (h.hx t b hb).1
  · rw [Env.get_keep_append] at hr
    split at hr
    · rcases T.within_cases R (e1.get u) with ⟨h1, _⟩ | ⟨h1, _⟩
      · rw [h1] at hr; exact h'.vw u r hr
      · rw [h1] at hr; simp [T.roots] at hr
    · exact h.vw u r hr
  · refine h.gr.trans' hgr fun i hi ⟨t, _, hb⟩ => ?_
    rcases h.nw t i hb with h1 | h1
    · exact h1
    · omega
  · rcases hb with ⟨_, hb⟩ | ⟨_, hb⟩
    · rcases h'.nw t b hb with ⟨t', _, hf⟩ | hf
      · exact h.nw t' b hf
      · have := h.gr.size
        simp only [Ctx.among] at hf
        exact .inr (by omega)
    · exact h.nw t b hb
end Go.Mir

set_option linter.unusedVariables false
set_option linter.unusedSimpArgs false
namespace Go.Mir
def Vw (rt : Views) (e : Env) : Prop := ∀ u r, r ∈ (e.get u).roots → (u, r) ∈ rt ∧ r ≠ u
section
variable {rt : Views} {e e1 : Env}
theorem Vw.cons (h : Vw rt e) {u : Nat} {t : T} (ht : ∀ r ∈ t.roots, (u, r) ∈ rt ∧ r ≠ u) : Vw rt ((u, t) :: e) := fun v r hr => by
  simp only [Env.get] at hr
  split at hr
  · rename_i huv; subst huv; exact ht r hr
  · exact h v r hr
theorem Vw.over (h : Vw rt e) {f : T → T} (hf : ∀ t r, r ∈ (f t).roots → r ∈ t.roots) (l : List Nat) : Vw rt (e.over f l) := fun v r hr => by
  rw [Env.get_over] at hr
  split at hr
  · exact h v r (hf _ _ hr)
  · exact h v r hr
theorem Vw.killR (h : Vw rt e) (r : Nat) : Vw rt (e.killR rt r) := h.over (fun t r' hr => (T.killR_roots r' hr).1) _
theorem Vw.kill (h : Vw rt e) (r k : Nat) (q : Pt) : Vw rt (e.kill rt r k q) := h.over (fun t r' hr => T.kill_roots r' hr) _
theorem Vw.put (h : Vw rt e) {dst : Option Nat} {t : T} (hp : e.put rt dst t = some e1) : Vw rt e1 := by
  cases dst with
  | none => simp [Env.put] at hp; subst hp; exact h
  | some u =>
    simp only [Env.put] at hp
    split at hp
    · rename_i hc
      cases hp
      refine (h.killR u).cons fun r hr => ?_
      have := List.all_eq_true.1 hc r hr
      simpa using this
    · cases hp
theorem Vw.keep (h : Vw rt e) (l : List Nat) : Vw rt (e.keep l) := fun v r hr => by
  rw [Env.get_keep] at hr
  split at hr
  · rcases T.within_le l (e.get v) with h1 | h1
    · rw [h1] at hr; simp [T.roots] at hr
    · rw [h1] at hr; exact h v r hr
  · simp [T.roots] at hr
theorem Vw.setCell (h : Vw rt e) {r k : Nat} {p : Pt} {v : V} (hs : e.setCell r k p v = some e1) : Vw rt e1 := by
  unfold Env.setCell at hs
  split at hs
  · obtain ⟨c, _, hs⟩ := Option.bind_eq_some_iff.1 hs
    obtain ⟨c', _, rfl⟩ := Option.map_eq_some_iff.1 hs
    exact h.cons (by simp [T.roots])
  · cases hs
theorem Vw.takeO (h : Vw rt e) (o : Opd) : Vw rt (e.takeO rt o).2 := by
  cases o with
  | tmp t =>
    simp only [Env.takeO, Env.takeT]
    split
    · split
      · exact h
      · exact (h.killR t).cons (by simp [T.roots])
    · split
      · exact h
      · exact (h.killR t).cons (by simp [T.roots])
    · exact h
  | con t => exact h
  | fn f => exact h
theorem Vw.takePl (h : Vw rt e) {r k : Nat} {p : Pt} {v : V} (hs : e.takePl rt r k p = some (v, e1)) : Vw rt e1 := by
  obtain ⟨v0, _, hs⟩ := Option.bind_eq_some_iff.1 hs
  obtain ⟨e2, h2, heq⟩ := Option.map_eq_some_iff.1 hs
  cases heq
  exact (h.setCell h2).kill r k p
theorem Vw.takeAt {r k : Nat} {p : Pt} : ∀ {n i : Nat} {e e1 : Env} {vs : List V}, Vw rt e → Env.takeAt rt r k p e i n = some (vs, e1) → Vw rt e1
  | 0, i, e, e1, vs, h, hs => by simp only [Env.takeAt, Option.some.injEq, Prod.mk.injEq] at hs; rw [← hs.2]; exact h
  | n + 1, i, e, e1, vs, h, hs => by
    simp only [Env.takeAt] at hs
    obtain ⟨q, _, hs⟩ := Option.bind_eq_some_iff.1 hs
    obtain ⟨⟨v, e2⟩, h2, hs⟩ := Option.bind_eq_some_iff.1 hs
    obtain ⟨⟨vs', e3⟩, h3, heq⟩ := Option.map_eq_some_iff.1 hs
    cases heq
    exact Vw.takeAt (h.takePl h2) h3
theorem Vw.vals (h : Vw rt e) {o : Opd} {a : Bool} {cs : List V} (hs : e.vals rt o = some (a, cs, e1)) : Vw rt e1 := by
  have h2 := h.takeO o
  unfold Env.vals at hs
  split at hs
  · rename_i a' cs' e2 heq
    simp only [Option.some.injEq, Prod.mk.injEq] at hs
    rw [heq] at h2
    rw [← hs.2.2]; exact h2
  · rename_i r k p e2 heq
    obtain ⟨⟨v, e3⟩, h3, hq⟩ := Option.map_eq_some_iff.1 hs
    cases hq
    rw [heq] at h2
    exact h2.takePl h3
  · rename_i r k p n e2 heq
    obtain ⟨⟨v, e3⟩, h3, hq⟩ := Option.map_eq_some_iff.1 hs
    cases hq
    rw [heq] at h2
    exact Vw.takeAt h2 h3
  · cases hs
theorem Vw.fillAt {r k : Nat} {p : Pt} : ∀ {vs : List V} {i : Nat} {e e1 : Env}, Vw rt e → Env.fillAt rt r k p e i vs = some e1 → Vw rt e1
  | [], i, e, e1, h, hs => by simp only [Env.fillAt, Option.some.injEq] at hs; rw [← hs]; exact h
  | v :: vs, i, e, e1, h, hs => by
    simp only [Env.fillAt] at hs
    obtain ⟨q, _, hs⟩ := Option.bind_eq_some_iff.1 hs
    obtain ⟨e2, h2, hs⟩ := Option.bind_eq_some_iff.1 hs
    exact Vw.fillAt ((h.setCell h2).kill r k q) hs
theorem Vw.parts : ∀ {ps : List (Nat × Nat × Opd)} {e e1 : Env} {cs cs' : List V}, Vw rt e → Mir.parts rt e ps cs = some (cs', e1) → Vw rt e1
  | [], e, e1, cs, cs', h, hs => by simp only [Mir.parts, Option.some.injEq, Prod.mk.injEq] at hs; rw [← hs.2]; exact h
  | (off, n, x) :: ps, e, e1, cs, cs', h, hs => by
    simp only [Mir.parts] at hs
    obtain ⟨⟨a, vs, e2⟩, h2, hs⟩ := Option.bind_eq_some_iff.1 hs
    simp only at hs
    split at hs
    · exact Vw.parts (h.vals h2) hs
    · cases hs
theorem Vw.arg1 (h : Vw rt e) {m : PM} {o : Opd} {a : Option Arg} (hs : e.arg1 rt m o = some (a, e1)) : Vw rt e1 := by
  cases m with
  | ro =>
    simp only [Env.arg1] at hs
    split at hs
    · split at hs
      · cases hs; exact h
      · split at hs
        · cases hs; exact (h.killR _).cons (by simp [T.roots])
        · cases hs; exact h
    · cases hs; exact h
  | own =>
    simp only [Env.arg1] at hs
    obtain ⟨⟨a', cs, e2⟩, h2, hq⟩ := Option.map_eq_some_iff.1 hs
    cases hq
    exact h.vals h2
  | io =>
    simp only [Env.arg1] at hs
    split at hs
    · obtain ⟨⟨v, e2⟩, h2, hq⟩ := Option.map_eq_some_iff.1 hs
      cases hq
      exact h.takePl h2
    · obtain ⟨⟨v, e2⟩, h2, hq⟩ := Option.map_eq_some_iff.1 hs
      cases hq
      exact h.takePl h2
    · split at hs
      · obtain ⟨⟨v, e2⟩, h2, hs⟩ := Option.bind_eq_some_iff.1 hs
        simp only at hs
        split at hs
        · cases hs; exact h.takePl h2
        · cases hs
      · cases hs
    · cases hs
theorem Vw.args1 : ∀ {ms : List PM} {os : List Opd} {e e1 : Env} {l : List (Option Arg)}, Vw rt e → Env.args1 rt ms e os = some (l, e1) → Vw rt e1
  | ms, [], e, e1, l, h, hs => by cases ms <;> (simp only [Env.args1, Option.some.injEq, Prod.mk.injEq] at hs; rw [← hs.2]; exact h)
  | [], o :: os, e, e1, l, h, hs => by simp [Env.args1] at hs
  | m :: ms, o :: os, e, e1, l, h, hs => by
    simp only [Env.args1] at hs
    obtain ⟨⟨a, e2⟩, h2, hs⟩ := Option.bind_eq_some_iff.1 hs
    obtain ⟨⟨l', e3⟩, h3, hq⟩ := Option.map_eq_some_iff.1 hs
    cases hq
    exact Vw.args1 (h.arg1 h2) h3
theorem Vw.backs (h : Vw rt e) {ags : List Arg} {outs : List V} (hs : e.backs rt ags outs = some e1) : Vw rt e1 := by
  unfold Env.backs at hs
  split at hs
  · cases hs; exact h
  · split at hs
    · obtain ⟨e2, h2, rfl⟩ := Option.map_eq_some_iff.1 hs
      exact (h.setCell h2).kill _ _ _
    · cases hs
  · cases hs
theorem Vw.again {e0 : Env} {r k : Nat} {p : Pt} : ∀ {us : List Nat} {e : Env}, Vw rt e → Vw rt (Env.again rt e0 r k p us e)
  | [], e, h => h
  | u :: us, e, h => by
    simp only [Env.again]
    split
    · split
      · split
        · rename_i hc
          exact Vw.again (h.cons fun r' hr => by simp [T.roots] at hr; subst hr; exact ⟨hc.2.2.2.1, hc.2.2.2.2⟩)
        · exact Vw.again h
      · exact Vw.again h
    · exact Vw.again h
theorem Vw.regain (h : Vw rt e1) {ags : List Arg} {outs : List V} : Vw rt (e.regain rt e1 ags outs) := by
  unfold Env.regain
  split
  · split
    · exact Vw.again h
    · exact h
  · exact h
theorem Vw.callF (h : Vw rt e) {call : FuncId → List T → Option Res} {pm : FuncId → List PM} {dst : Option Nat} {f : FuncId} {cx : Option Opd} {os : List Opd} (hs : Env.callF call pm rt e dst f cx os = some e1) : Vw rt e1 := by
  unfold Env.callF at hs
  split at hs
  · obtain ⟨⟨l, e2⟩, h2, hs⟩ := Option.bind_eq_some_iff.1 hs
    obtain ⟨ags, _, hs⟩ := Option.bind_eq_some_iff.1 hs
    obtain ⟨caps, _, hs⟩ := Option.bind_eq_some_iff.1 hs
    obtain ⟨⟨cs, b⟩, _, hs⟩ := Option.bind_eq_some_iff.1 hs
    obtain ⟨⟨t, outs⟩, _, hs⟩ := Option.bind_eq_some_iff.1 hs
    simp only at hs
    split at hs
    · cases hs
    · obtain ⟨e3, h3, hs⟩ := Option.bind_eq_some_iff.1 hs
      exact (Vw.regain ((Vw.args1 h h2).backs h3)).put hs
  · cases hs
theorem Vw.callR (h : Vw rt e) {call : FuncId → List T → Option Res} {pm : FuncId → List PM} {dst : Option Nat} {f : FuncId} {os : List Opd} (hs : Env.callR call pm rt e dst f os = some e1) : Vw rt e1 := by
  unfold Env.callR at hs
  split at hs
  · obtain ⟨ags, _, hs⟩ := Option.bind_eq_some_iff.1 hs
    obtain ⟨⟨t, outs⟩, _, hs⟩ := Option.bind_eq_some_iff.1 hs
    simp only at hs
    split at hs
    · cases hs
    · split at hs
      · exact h.put hs
      · cases hs
  · cases hs
theorem Vw.io {call : FuncId → List T → Option Res} {pm : FuncId → List PM} {dst : Option Nat} {i : I} (h : Vw rt e) (hs : ioI call pm rt e dst i = some e1) : Vw rt e1 := by
  cases i with
  | mov m x =>
    cases m with
    | cp => simp only [ioI] at hs; obtain ⟨t, _, hs⟩ := Option.bind_eq_some_iff.1 hs; exact h.put hs
    | tk =>
      simp only [ioI] at hs
      split at hs
      · rename_i hv; exact (h.vals hv).put hs
      · have h2 := h.takeO x
        split at hs
        · cases hs
        · cases hs
        · cases hs
        · rename_i heq
          rw [heq] at h2
          exact h2.put hs
    | fz =>
      simp only [ioI] at hs
      split at hs
      · obtain ⟨ds, _, hs⟩ := Option.bind_eq_some_iff.1 hs
        exact Vw.put ((h.killR _).cons (by simp [T.roots])) hs
      · obtain ⟨v, _, hs⟩ := Option.bind_eq_some_iff.1 hs
        obtain ⟨x, _, hs⟩ := Option.bind_eq_some_iff.1 hs
        obtain ⟨e2, h2, hs⟩ := Option.bind_eq_some_iff.1 hs
        exact ((h.setCell h2).kill _ _ _).put hs
      · cases hs
    | st => simp only [ioI] at hs; exact h.put hs
  | pick c a b =>
    simp only [ioI] at hs
    obtain ⟨q, _, hs⟩ := Option.bind_eq_some_iff.1 hs
    obtain ⟨t, _, hs⟩ := Option.bind_eq_some_iff.1 hs
    exact h.put hs
  | alloc z => exact h.put hs
  | box x =>
    simp only [ioI] at hs
    obtain ⟨⟨a, cs, e2⟩, h2, hs⟩ := Option.bind_eq_some_iff.1 hs
    exact (h.vals h2).put hs
  | build a z ps =>
    simp only [ioI] at hs
    obtain ⟨⟨cs, e2⟩, h2, hs⟩ := Option.bind_eq_some_iff.1 hs
    exact (h.parts h2).put hs
  | bslice el z n ps =>
    simp only [ioI] at hs
    obtain ⟨⟨cs, e2⟩, h2, hs⟩ := Option.bind_eq_some_iff.1 hs
    exact (h.parts h2).put hs
  | load m agg n a =>
    simp only [ioI] at hs
    obtain ⟨p, _, hs⟩ := Option.bind_eq_some_iff.1 hs
    split at hs
    · obtain ⟨t, _, hs⟩ := Option.bind_eq_some_iff.1 hs; exact h.put hs
    · split at hs
      · obtain ⟨cs, _, hs⟩ := Option.bind_eq_some_iff.1 hs
        split at hs
        · split at hs
          · exact h.put hs
          · cases hs
        · split at hs
          · exact h.put hs
          · exact h.put hs
          · exact h.put hs
          · exact h.put hs
          · cases hs
      · split at hs
        · obtain ⟨⟨cs, e2⟩, h2, hs⟩ := Option.bind_eq_some_iff.1 hs
          exact (Vw.takeAt h h2).put hs
        · cases hs
      · split at hs
        · obtain ⟨cs, _, hs⟩ := Option.bind_eq_some_iff.1 hs
          obtain ⟨ds, _, hs⟩ := Option.bind_eq_some_iff.1 hs
          obtain ⟨e2, h2, hs⟩ := Option.bind_eq_some_iff.1 hs
          exact (Vw.fillAt h h2).put hs
        · cases hs
      · split at hs
        · obtain ⟨cs, _, hs⟩ := Option.bind_eq_some_iff.1 hs; exact h.put hs
        · cases hs
  | store n a v =>
    simp only [ioI] at hs
    obtain ⟨⟨b, cs, e2⟩, h2, hs⟩ := Option.bind_eq_some_iff.1 hs
    simp only at hs
    split at hs
    · obtain ⟨p, _, hs⟩ := Option.bind_eq_some_iff.1 hs
      split at hs
      · exact Vw.fillAt (h.vals h2) hs
      · cases hs
    · cases hs
  | stored n a v =>
    simp only [ioI] at hs
    split at hs
    case isFalse => cases hs
    obtain ⟨⟨b, cs, e2⟩, h2, hs⟩ := Option.bind_eq_some_iff.1 hs
    simp only at hs
    split at hs
    · obtain ⟨p, _, hs⟩ := Option.bind_eq_some_iff.1 hs
      split at hs
      · exact Vw.fillAt (h.vals h2) hs
      · cases hs
    · cases hs
  | nilc x =>
    simp only [ioI] at hs
    obtain ⟨p, _, hs⟩ := Option.bind_eq_some_iff.1 hs
    split at hs <;> exact h.put hs
  | bin kd o x y => simp only [ioI] at hs; obtain ⟨v, _, hs⟩ := Option.bind_eq_some_iff.1 hs; exact h.put hs
  | un o x => simp only [ioI] at hs; obtain ⟨v, _, hs⟩ := Option.bind_eq_some_iff.1 hs; exact h.put hs
  | conv k x => simp only [ioI] at hs; obtain ⟨v, _, hs⟩ := Option.bind_eq_some_iff.1 hs; exact h.put hs
  | same x => simp only [ioI] at hs; obtain ⟨v, _, hs⟩ := Option.bind_eq_some_iff.1 hs; exact h.put hs
  | s2b x => simp only [ioI] at hs; obtain ⟨v, _, hs⟩ := Option.bind_eq_some_iff.1 hs; exact h.put hs
  | s2s x =>
    simp only [ioI] at hs
    obtain ⟨⟨a, cs, e2⟩, h2, hs⟩ := Option.bind_eq_some_iff.1 hs
    split at hs
    · rename_i heq
      cases heq
      split at hs
      · exact (h.vals h2).put hs
      · cases hs
    · cases hs
  | appd el sz by_ x y =>
    simp only [ioI] at hs
    split at hs
    · obtain ⟨ys, _, hs⟩ := Option.bind_eq_some_iff.1 hs
      split at hs
      · split at hs
        · obtain ⟨⟨v, e2⟩, h2, hs⟩ := Option.bind_eq_some_iff.1 hs
          split at hs
          · rename_i heq
            cases heq
            split at hs
            · obtain ⟨ds, _, hs⟩ := Option.bind_eq_some_iff.1 hs
              obtain ⟨dys, _, hs⟩ := Option.bind_eq_some_iff.1 hs
              obtain ⟨e3, h3, hs⟩ := Option.bind_eq_some_iff.1 hs
              exact ((((h.takeO y).takePl h2).setCell h3).kill _ _ _).put hs
            · cases hs
          · cases hs
        · cases hs
      · cases hs
    · cases hs
  | b2s x =>
    simp only [ioI] at hs
    split at hs
    · cases hs
    · obtain ⟨xs, _, hs⟩ := Option.bind_eq_some_iff.1 hs
      obtain ⟨ds, _, hs⟩ := Option.bind_eq_some_iff.1 hs
      obtain ⟨l, _, hs⟩ := Option.bind_eq_some_iff.1 hs
      exact h.put hs
  | slice str sz x lo hi =>
    cases str with
    | true =>
      simp only [ioI] at hs
      obtain ⟨s, _, hs⟩ := Option.bind_eq_some_iff.1 hs
      obtain ⟨l, _, hs⟩ := Option.bind_eq_some_iff.1 hs
      obtain ⟨hh, _, hs⟩ := Option.bind_eq_some_iff.1 hs
      split at hs
      · exact h.put hs
      · cases hs
    | false =>
      simp only [ioI] at hs
      split at hs
      · obtain ⟨l, _, hs⟩ := Option.bind_eq_some_iff.1 hs
        obtain ⟨hh, _, hs⟩ := Option.bind_eq_some_iff.1 hs
        split at hs
        · exact h.put hs
        · cases hs
      · obtain ⟨⟨a, cs, e2⟩, h2, hs⟩ := Option.bind_eq_some_iff.1 hs
        split at hs
        · rename_i heq
          cases heq
          obtain ⟨hh, _, hs⟩ := Option.bind_eq_some_iff.1 hs
          split at hs
          · exact (h.vals h2).put hs
          · cases hs
        · cases hs
  | cut sz x lo hi =>
    simp only [ioI] at hs
    split at hs
    · obtain ⟨l, _, hs⟩ := Option.bind_eq_some_iff.1 hs
      obtain ⟨hh, _, hs⟩ := Option.bind_eq_some_iff.1 hs
      split at hs
      · exact h.put hs
      · cases hs
    · cases hs
  | fieldA off x =>
    simp only [ioI] at hs
    obtain ⟨p, _, hs⟩ := Option.bind_eq_some_iff.1 hs
    split at hs
    · obtain ⟨q, _, hs⟩ := Option.bind_eq_some_iff.1 hs
      obtain ⟨v, _, hs⟩ := Option.bind_eq_some_iff.1 hs
      exact h.put hs
    · split at hs
      · exact h.put hs
      · cases hs
  | field off n agg x =>
    simp only [ioI] at hs
    split at hs
    · split at hs
      · obtain ⟨t, _, hs⟩ := Option.bind_eq_some_iff.1 hs; exact h.put hs
      · cases hs
    · cases hs
  | indexA sz x i =>
    simp only [ioI] at hs
    obtain ⟨⟨k, n⟩, _, hs⟩ := Option.bind_eq_some_iff.1 hs
    simp only at hs
    split at hs
    · split at hs
      · obtain ⟨c, _, hs⟩ := Option.bind_eq_some_iff.1 hs
        split at hs
        · exact h.put hs
        · cases hs
      · obtain ⟨c, _, hs⟩ := Option.bind_eq_some_iff.1 hs
        split at hs
        · exact h.put hs
        · cases hs
      · obtain ⟨c, _, hs⟩ := Option.bind_eq_some_iff.1 hs
        split at hs
        · exact h.put hs
        · cases hs
      · split at hs
        · obtain ⟨c, _, hs⟩ := Option.bind_eq_some_iff.1 hs
          split at hs
          · exact h.put hs
          · cases hs
        · obtain ⟨c, _, hs⟩ := Option.bind_eq_some_iff.1 hs
          split at hs
          · exact h.put hs
          · cases hs
        · cases hs
      · cases hs
    · cases hs
  | indexS x i =>
    simp only [ioI] at hs
    obtain ⟨⟨k, n⟩, _, hs⟩ := Option.bind_eq_some_iff.1 hs
    obtain ⟨s, _, hs⟩ := Option.bind_eq_some_iff.1 hs
    split at hs
    · obtain ⟨b, _, hs⟩ := Option.bind_eq_some_iff.1 hs; exact h.put hs
    · cases hs
  | extract i x =>
    simp only [ioI] at hs
    split at hs
    · obtain ⟨⟨a, cs⟩, _, hs⟩ := Option.bind_eq_some_iff.1 hs
      exact Vw.put ((h.killR _).cons (by simp [T.roots])) hs
    · cases hs
  | mkslice el b z l c =>
    simp only [ioI] at hs
    obtain ⟨⟨kl, n⟩, _, hs⟩ := Option.bind_eq_some_iff.1 hs
    obtain ⟨⟨kc, m⟩, _, hs⟩ := Option.bind_eq_some_iff.1 hs
    simp only at hs
    split at hs
    · exact h.put hs
    · cases hs
  | mkfn f caps => simp only [ioI] at hs; obtain ⟨v, _, hs⟩ := Option.bind_eq_some_iff.1 hs; exact h.put hs
  | len str x =>
    cases str with
    | true => simp only [ioI] at hs; obtain ⟨v, _, hs⟩ := Option.bind_eq_some_iff.1 hs; exact h.put hs
    | false =>
      simp only [ioI] at hs
      split at hs
      · cases hs
      · obtain ⟨v, _, hs⟩ := Option.bind_eq_some_iff.1 hs; exact h.put hs
  | app str el sz by_ x y =>
    simp only [ioI] at hs
    split at hs
    · obtain ⟨ys, _, hs⟩ := Option.bind_eq_some_iff.1 hs
      split at hs
      · obtain ⟨⟨a, cs, e2⟩, h2, hs⟩ := Option.bind_eq_some_iff.1 hs
        split at hs
        · rename_i heq
          cases heq
          split at hs
          · exact (Vw.vals (h.takeO y) h2).put hs
          · cases hs
        · cases hs
      · cases hs
    · cases hs
  | mn x y =>
    simp only [ioI] at hs
    obtain ⟨⟨k, n⟩, _, hs⟩ := Option.bind_eq_some_iff.1 hs
    obtain ⟨⟨k2, n2⟩, _, hs⟩ := Option.bind_eq_some_iff.1 hs
    exact h.put hs
  | mx x y =>
    simp only [ioI] at hs
    obtain ⟨⟨k, n⟩, _, hs⟩ := Option.bind_eq_some_iff.1 hs
    obtain ⟨⟨k2, n2⟩, _, hs⟩ := Option.bind_eq_some_iff.1 hs
    exact h.put hs
  | call f os => exact h.callF hs
  | callv x os =>
    simp only [ioI] at hs
    split at hs
    · exact h.callF hs
    · cases hs
  | callr f os => exact h.callR hs
  | bad => cases hs
theorem Vw.ioO {call : FuncId → List T → Option Res} {pm : FuncId → List PM} {o : Ins} (h : Vw rt e) (hs : Mir.ioO call pm rt e o = some e1) : Vw rt e1 := by
  unfold Mir.ioO at hs
  split at hs
  · exact h.io hs
  · obtain ⟨b, _, hs⟩ := Option.bind_eq_some_iff.1 hs
    split at hs
    · exact h.io hs
    · exact h.put hs
theorem Vw.drO {call : FuncId → List T → Option Res} {pm : FuncId → List PM} {x : Ins × Bool × List Nat} (h : Vw rt e) (hs : Mir.drO call pm rt e x = some e1) : Vw rt e1 := by
  unfold Mir.drO at hs
  obtain ⟨e2, h2, hs⟩ := Option.bind_eq_some_iff.1 hs
  have h3 := (h.keep x.2.2).ioO h2
  split at hs
  · split at hs
    · cases hs
      intro u r hr
      rw [Env.get_keep_append] at hr
      split at hr
      · have := h3.keep x.2.2 u r
        rw [Env.get_keep] at this
        rename_i hu
        rw [if_pos hu] at this
        exact this hr
      · exact h u r hr
    · cases hs
  · split at hs
    · exact h.put hs
    · cases hs; exact h
end
end Go.Mir

set_option linter.unusedVariables false
set_option linter.unusedSimpArgs false
namespace Go.Mir
def Env.keys (e : Env) : List Nat := e.map (·.1)
structure Agr (d : Nat) (E E0 : Env) : Prop where
  keys : E0.keys = E.keys
  get : ∀ v, v ≠ d → E0.get v = E.get v
section
variable {rt : Views} {d : Nat} {E E0 : Env}
theorem Agr.cons (h : Agr d E E0) (u : Nat) (t : T) : Agr d ((u, t) :: E) ((u, t) :: E0) := ⟨by have := h.keys; simp only [Env.keys, List.map_cons] at this ⊢; rw [this], fun v hv => by
  simp only [Env.get]
  split
  · rfl
  · exact h.get v hv⟩
theorem Agr.over (h : Agr d E E0) (f : T → T) (l : List Nat) : Agr d (E.over f l) (E0.over f l) := ⟨by have := h.keys; simp only [Env.keys, Env.over, List.map_append, List.map_map] at this ⊢; rw [this]; rfl, fun v hv => by
  rw [Env.get_over, Env.get_over, h.get v hv]⟩
theorem Agr.killR (h : Agr d E E0) (r : Nat) : Agr d (E.killR rt r) (E0.killR rt r) := h.over _ _
theorem Agr.kill (h : Agr d E E0) (r k : Nat) (q : Pt) : Agr d (E.kill rt r k q) (E0.kill rt r k q) := h.over _ _
theorem Agr.ofKeep (h : ∀ v, v ≠ d → E0.get v = E.get v) (l : List Nat) : Agr d (E.keep l) (E0.keep l) := ⟨by simp [Env.keys, Env.keep], fun v hv => by
  rw [Env.get_keep, Env.get_keep, h v hv]⟩
theorem Agr.cell (h : Agr d E E0) {r : Nat} (hr : r ≠ d) (k : Nat) (p : Pt) : E0.cell r k p = E.cell r k p := by
  simp only [Env.cell, h.get r hr]
theorem Agr.setCell (h : Agr d E E0) {r : Nat} (hr : r ≠ d) {k : Nat} {p : Pt} {v : V} {E1 : Env} (hs : E.setCell r k p v = some E1) : ∃ E01, E0.setCell r k p v = some E01 ∧ Agr d E1 E01 := by
  simp only [Env.setCell, h.get r hr] at hs ⊢
  split at hs
  · rename_i a cs heq
    obtain ⟨c, hc, hs⟩ := Option.bind_eq_some_iff.1 hs
    obtain ⟨c', hc', rfl⟩ := Option.map_eq_some_iff.1 hs
    exact ⟨_, by rw [hc, Option.bind_some, hc']; rfl, h.cons _ _⟩
  · cases hs
theorem Agr.takePl (h : Agr d E E0) {r : Nat} (hr : r ≠ d) {k : Nat} {p : Pt} {v : V} {E1 : Env} (hs : E.takePl rt r k p = some (v, E1)) : ∃ E01, E0.takePl rt r k p = some (v, E01) ∧ Agr d E1 E01 := by
  obtain ⟨v0, hv0, hs⟩ := Option.bind_eq_some_iff.1 hs
  obtain ⟨e2, h2, heq⟩ := Option.map_eq_some_iff.1 hs
  cases heq
  obtain ⟨e02, g1, g2⟩ := h.setCell hr h2
  exact ⟨_, by simp only [Env.takePl, h.cell hr, hv0, Option.bind_some, g1, Option.map_some], g2.kill r k p⟩
theorem Agr.takeT (h : Agr d E E0) {t : Nat} (ht : t ≠ d) : (E0.takeT rt t).1 = (E.takeT rt t).1 ∧ Agr d (E.takeT rt t).2 (E0.takeT rt t).2 := by
  simp only [Env.takeT, h.get t ht]
  split
  · split
    · exact ⟨rfl, h⟩
    · exact ⟨rfl, (h.killR t).cons _ _⟩
  · split
    · exact ⟨rfl, h⟩
    · exact ⟨rfl, (h.killR t).cons _ _⟩
  · exact ⟨rfl, h⟩
theorem Vw.noRoot (hv : Vw rt E) (hd : rt.of d = []) {u r : Nat} (hr : r ∈ (E.get u).roots) : r ≠ d := by
  rintro rfl
  have := Views.mem_of.2 (hv u r hr).1
  rw [hd] at this; cases this
theorem Agr.elems (h : Agr d E E0) (hv : Vw rt E) (hd : rt.of d = []) {b : Nat} (hb : b ≠ d) : E0.elems (.tmp b) = E.elems (.tmp b) := by
  unfold Env.elems
  simp only [Env.opd, h.get b hb]
  cases heq : E.get b with
  | ref r k p =>
    have : r ≠ d := hv.noRoot hd (u := b) (by rw [heq]; simp [T.roots])
    simp only [h.cell this]
  | vs ag cs =>
    cases ag with
    | true => rfl
    | false =>
      match cs with
      | [] => rfl
      | _ :: _ :: _ => simp
      | [.own ..] => rfl
      | [.row ..] => rfl
      | [.box ..] => rfl
      | [.dead] => rfl
      | [.d (.sl _)] => rfl
      | [.d (.sc v)] => cases v <;> rfl
  | _ => rfl
theorem Agr.ownTmp (h : Agr d E E0) {b : Nat} (hb : b ≠ d) : E0.ownTmp (.tmp b) = E.ownTmp (.tmp b) := by
  unfold Env.ownTmp
  simp only [Env.opd, h.get b hb]
theorem valsOwn_inv {a : Nat} {el : Nat} {xs : List (List V)} {E1 : Env} (hs : E.vals rt (.tmp a) = some (false, [.own el xs], E1)) :
    (E.get a = .vs false [.own el xs] ∧ E1 = (a, .dead) :: E.killR rt a) ∨
    ∃ r k p aa cs c c', E.get a = .ref r k p ∧ E.get r = .vs aa cs ∧ cs[k]? = some c ∧ c.get p = some (.own el xs) ∧ c.set p .dead = some c' ∧ E1 = Env.kill rt ((r, .vs aa (cs.set k c')) :: E) r k p := by
  unfold Env.vals at hs
  simp only [Env.takeO, Env.takeT] at hs
  cases heq : E.get a with
  | vs ag cs =>
    rw [heq] at hs
    simp only at hs
    by_cases hall : cs.all V.isD = true
    · rw [if_pos hall] at hs
      simp only [Option.some.injEq, Prod.mk.injEq] at hs
      obtain ⟨rfl, rfl, _⟩ := hs
      simp [V.isD] at hall
    · rw [if_neg hall] at hs
      simp only [Option.some.injEq, Prod.mk.injEq] at hs
      obtain ⟨rfl, rfl, rfl⟩ := hs
      exact .inl ⟨rfl, rfl⟩
  | ref r k p =>
    rw [heq] at hs
    simp only at hs
    obtain ⟨⟨v, e2⟩, h2, hq⟩ := Option.map_eq_some_iff.1 hs
    simp only [Prod.mk.injEq, List.cons.injEq, and_true, true_and] at hq
    obtain ⟨rfl, rfl⟩ := hq
    obtain ⟨v0, hv0, h2⟩ := Option.bind_eq_some_iff.1 h2
    obtain ⟨e3, h3, hq⟩ := Option.map_eq_some_iff.1 h2
    cases hq
    obtain ⟨aa, cs, c, g1, g2, g3⟩ := Env.cell_some hv0
    unfold Env.setCell at h3
    rw [g1] at h3
    simp only [g2, Option.bind_some] at h3
    obtain ⟨c', hc', rfl⟩ := Option.map_eq_some_iff.1 h3
    exact .inr ⟨r, k, p, aa, cs, c, c', rfl, g1, g2, g3, hc', rfl⟩
  | tup ts =>
    rw [heq] at hs
    simp only at hs
    by_cases hc : (ts.all fun c => c.2.all V.isD) = true
    · rw [if_pos hc] at hs; cases hs
    · rw [if_neg hc] at hs; cases hs
  | refs r k p n =>
    rw [heq] at hs
    simp only at hs
    obtain ⟨⟨v, e2⟩, h2, hq⟩ := Option.map_eq_some_iff.1 hs
    cases hq
  | _ => rw [heq] at hs; cases hs
theorem valsOwn_intro {a : Nat} {el : Nat} {xs : List (List V)} :
    (E.get a = .vs false [.own el xs] → E.vals rt (.tmp a) = some (false, [.own el xs], (a, .dead) :: E.killR rt a)) ∧
    ∀ r k p aa cs c c', E.get a = .ref r k p → E.get r = .vs aa cs → cs[k]? = some c → c.get p = some (.own el xs) → c.set p .dead = some c' → E.vals rt (.tmp a) = some (false, [.own el xs], Env.kill rt ((r, .vs aa (cs.set k c')) :: E) r k p) := by
  refine ⟨fun h => ?_, fun r k p aa cs c c' h1 h2 h3 h4 h5 => ?_⟩
  · simp [Env.vals, Env.takeO, Env.takeT, h, V.isD]
  · simp [Env.vals, Env.takeO, Env.takeT, h1, Env.takePl, Env.cell, Env.setCell, h2, h3, h4, h5]
theorem Agr.valsOwn (h : Agr d E E0) (hv : Vw rt E) (hd : rt.of d = []) {a : Nat} (ha : a ≠ d) {el : Nat} {xs : List (List V)} {E1 : Env} (hs : E.vals rt (.tmp a) = some (false, [.own el xs], E1)) :
    ∃ E01, E0.vals rt (.tmp a) = some (false, [.own el xs], E01) ∧ Agr d E1 E01 := by
  rcases valsOwn_inv hs with ⟨g1, rfl⟩ | ⟨r, k, p, aa, cs, c, c', g1, g2, g3, g4, g5, rfl⟩
  · exact ⟨_, valsOwn_intro.1 ((h.get a ha).trans g1), (h.killR a).cons _ _⟩
  · have hr : r ≠ d := hv.noRoot hd (u := a) (by rw [g1]; simp [T.roots])
    exact ⟨_, valsOwn_intro.2 r k p aa cs c c' ((h.get a ha).trans g1) ((h.get r hr).trans g2) g3 g4 g5, (h.cons _ _).kill r k p⟩
theorem app_inv {call : FuncId → List T → Option Res} {pm : FuncId → List PM} {dx el sz by_ a b : Nat} {E1 : Env} (hs : ioI call pm rt E (some dx) (.app false el sz by_ (.tmp a) (.tmp b)) = some E1) :
    ∃ ys xs E2, (E.opd (.tmp b)).str?.isSome = false ∧ E.elems (.tmp b) = some ys ∧ (ys.all (·.all V.isD) || E.ownTmp (.tmp b)) = true ∧ Env.vals rt (E.takeT rt b).2 (.tmp a) = some (false, [.own el xs], E2) ∧
      ((xs.length + ys.length) * by_ ≤ 140737488355328 ∧ ys.all (fun c => c.length == sz) = true) ∧ E1 = (dx, .one (.own el (xs ++ ys))) :: E2.killR rt dx := by
  simp only [ioI] at hs
  split at hs
  · rename_i h1
    obtain ⟨ys, h2, hs⟩ := Option.bind_eq_some_iff.1 hs
    split at hs
    · rename_i h3
      obtain ⟨⟨ag, cs, E2⟩, h4, hs⟩ := Option.bind_eq_some_iff.1 hs
      split at hs
      · rename_i el' xs e2 heq
        cases heq
        split at hs
        · rename_i h5
          obtain ⟨rfl, h5, h6⟩ := h5
          simp only [Env.put, T.roots, List.all_nil, if_true, Option.some.injEq] at hs
          exact ⟨ys, xs, E2, h1, h2, h3, h4, ⟨h5, h6⟩, hs.symm⟩
        · cases hs
      · cases hs
    · cases hs
  · cases hs
theorem app_intro {call : FuncId → List T → Option Res} {pm : FuncId → List PM} {dx el sz by_ a b : Nat} {E2 : Env} {ys xs : List (List V)} (h1 : (E.opd (.tmp b)).str?.isSome = false) (h2 : E.elems (.tmp b) = some ys) (h3 : (ys.all (·.all V.isD) || E.ownTmp (.tmp b)) = true)
    (h4 : Env.vals rt (E.takeT rt b).2 (.tmp a) = some (false, [.own el xs], E2)) (h5 : (xs.length + ys.length) * by_ ≤ 140737488355328 ∧ ys.all (fun c => c.length == sz) = true) :
    ioI call pm rt E (some dx) (.app false el sz by_ (.tmp a) (.tmp b)) = some ((dx, .one (.own el (xs ++ ys))) :: E2.killR rt dx) := by
  simp only [ioI, h1, if_true, h2, Option.bind_some, h3]
  have : (E.takeO rt (.tmp b)).2 = (E.takeT rt b).2 := rfl
  rw [this, h4]
  simp only [Option.bind_some]
  rw [if_pos ⟨trivial, h5⟩]
  simp [Env.put, T.roots]
theorem Agr.app (h : Agr d E E0) (hv : Vw rt E) (hd : rt.of d = []) {call : FuncId → List T → Option Res} {pm : FuncId → List PM} {dx el sz by_ a b : Nat} (ha : a ≠ d) (hb : b ≠ d) {E1 : Env}
    (hs : ioI call pm rt E (some dx) (.app false el sz by_ (.tmp a) (.tmp b)) = some E1) : ∃ E01, ioI call pm rt E0 (some dx) (.app false el sz by_ (.tmp a) (.tmp b)) = some E01 ∧ Agr d E1 E01 := by
  obtain ⟨ys, xs, E2, h1, h2, h3, h4, h5, rfl⟩ := app_inv hs
  obtain ⟨_, g1⟩ := h.takeT (rt := rt) hb
  obtain ⟨E02, g2, g3⟩ := g1.valsOwn (hv.takeO (.tmp b)) hd ha h4
  refine ⟨_, app_intro (by simpa only [Env.opd, h.get b hb] using h1) ((h.elems hv hd hb).trans h2) (by rw [h.ownTmp hb]; exact h3) g2 h5, (g3.killR dx).cons _ _⟩
theorem Vw.get_killR (hv : Vw rt E) (r t : Nat) : (E.killR rt r).get t = (E.get t).killR r := by
  unfold Env.killR
  rw [Env.get_over]
  split
  · rfl
  · rename_i hn
    rw [T.killR_of fun hr => hn (Views.mem_of.2 (hv t r hr).1)]
theorem Vw.get_kill (hv : Vw rt E) (r k : Nat) (q : Pt) (t : Nat) : (E.kill rt r k q).get t = (E.get t).kill r k q := by
  unfold Env.kill
  rw [Env.get_over]
  split
  · rfl
  · rename_i hn
    rw [T.kill_of fun hr => hn (Views.mem_of.2 (hv t r hr).1)]
def Kb (b : Nat) : T → T → T
  | .vs _ cs, t => if cs.all V.isD = true then t else t.killR b
  | .tup ts, t => if (ts.all fun c => c.2.all V.isD) = true then t else t.killR b
  | _, t => t
def Ka (a : Nat) : T → T → T
  | .ref r k p, t => t.kill r k p
  | _, t => t.killR a
def Kx (dx a b : Nat) (ta tb t : T) : T := (Ka a ta (Kb b tb t)).killR dx
theorem killR_vs {r : Nat} {ag : Bool} {cs : List V} : (T.vs ag cs).killR r = .vs ag cs := by simp [T.killR, T.roots]
theorem kill_vs {r k : Nat} {q : Pt} {ag : Bool} {cs : List V} : (T.vs ag cs).kill r k q = .vs ag cs := rfl
theorem killR_cases (r : Nat) (t : T) : t.killR r = t ∨ t.killR r = .dead := by unfold T.killR; split <;> simp
theorem kill_cases (r k : Nat) (q : Pt) (t : T) : t.kill r k q = t ∨ t.kill r k q = .dead := by
  cases t <;> simp only [T.kill] <;> first | (split <;> simp) | simp
theorem Kb_cases (b : Nat) (tb t : T) : Kb b tb t = t ∨ Kb b tb t = .dead := by
  unfold Kb
  split
  · split
    · exact .inl rfl
    · exact killR_cases _ _
  · split
    · exact .inl rfl
    · exact killR_cases _ _
  · exact .inl rfl
theorem Ka_cases (a : Nat) (ta t : T) : Ka a ta t = t ∨ Ka a ta t = .dead := by
  unfold Ka
  split
  · exact kill_cases _ _ _ _
  · exact killR_cases _ _
theorem killR_dead (r : Nat) : T.dead.killR r = .dead := by simp [T.killR, T.roots]
theorem Ka_dead (a : Nat) (ta : T) : Ka a ta .dead = .dead := by unfold Ka; split <;> simp [T.kill, killR_dead]
theorem Kx_cases (dx a b : Nat) (ta tb t : T) : Kx dx a b ta tb t = t ∨ Kx dx a b ta tb t = .dead := by
  unfold Kx
  rcases Kb_cases b tb t with h | h <;> rw [h]
  · rcases Ka_cases a ta t with h | h <;> rw [h]
    · exact killR_cases _ _
    · exact .inr (killR_dead _)
  · rw [Ka_dead]; exact .inr (killR_dead _)
theorem Kx_dead (dx a b : Nat) (ta tb : T) : Kx dx a b ta tb .dead = .dead := by
  rcases Kx_cases dx a b ta tb .dead with h | h <;> exact h
theorem Kb_vs (b : Nat) (tb : T) (ag : Bool) (cs : List V) : Kb b tb (.vs ag cs) = .vs ag cs := by unfold Kb; split <;> (try split) <;> simp [killR_vs]
theorem Ka_vs (a : Nat) (ta : T) (ag : Bool) (cs : List V) : Ka a ta (.vs ag cs) = .vs ag cs := by unfold Ka; split <;> simp [killR_vs, kill_vs]
theorem Kx_vs (dx a b : Nat) (ta tb : T) (ag : Bool) (cs : List V) : Kx dx a b ta tb (.vs ag cs) = .vs ag cs := by
  unfold Kx; rw [Kb_vs, Ka_vs, killR_vs]
theorem strip_set {c c' : V} {p : Pt} {el : Nat} {xs : List (List V)} (h1 : c.get p = some (.own el xs)) (h2 : c.set p .dead = some c') : c'.strip = c.strip ∧ ((∃ l, c = .box l) ↔ ∃ l, c' = .box l) := by
  cases p with
  | nil =>
    rw [V.get] at h1
    rw [V.set] at h2
    simp only [Option.some.injEq] at h1 h2
    subst h1; subst h2
    exact ⟨rfl, by simp, by simp⟩
  | cons s p =>
    obtain ⟨i, j⟩ := s
    cases c with
    | own e ys =>
      simp only [V.set] at h2
      obtain ⟨c0, _, h2⟩ := Option.bind_eq_some_iff.1 h2
      obtain ⟨x, _, h2⟩ := Option.bind_eq_some_iff.1 h2
      obtain ⟨x', _, rfl⟩ := Option.map_eq_some_iff.1 h2
      exact ⟨rfl, by simp⟩
    | row ys =>
      simp only [V.set] at h2
      obtain ⟨c0, _, h2⟩ := Option.bind_eq_some_iff.1 h2
      obtain ⟨x, _, h2⟩ := Option.bind_eq_some_iff.1 h2
      obtain ⟨x', _, rfl⟩ := Option.map_eq_some_iff.1 h2
      exact ⟨rfl, by simp⟩
    | box l =>
      simp only [V.set] at h2
      split at h2
      · obtain ⟨x, _, h2⟩ := Option.bind_eq_some_iff.1 h2
        obtain ⟨x', _, rfl⟩ := Option.map_eq_some_iff.1 h2
        exact ⟨rfl, by simp⟩
      · cases h2
    | d x => simp [V.set] at h2
    | dead => simp [V.set] at h2
theorem set_kind {c c' : V} {p : Pt} {el : Nat} {xs : List (List V)} (h1 : c.get p = some (.own el xs)) (h2 : c.set p .dead = some c') :
    (p = [] ∧ c' = .dead ∧ ∃ e l, c = .own e l) ∨ (p ≠ [] ∧ ((∃ e l l', c = .own e l ∧ c' = .own e l') ∨ (∃ l l', c = .box l ∧ c' = .box l') ∨ ∃ l l', c = .row l ∧ c' = .row l')) := by
  cases p with
  | nil =>
    rw [V.get] at h1
    rw [V.set] at h2
    simp only [Option.some.injEq] at h1 h2
    subst h1; subst h2
    exact .inl ⟨rfl, rfl, _, _, rfl⟩
  | cons s p =>
    obtain ⟨i, j⟩ := s
    refine .inr ⟨by simp, ?_⟩
    cases c with
    | own e ys =>
      simp only [V.set] at h2
      obtain ⟨c0, _, h2⟩ := Option.bind_eq_some_iff.1 h2
      obtain ⟨x, _, h2⟩ := Option.bind_eq_some_iff.1 h2
      obtain ⟨x', _, rfl⟩ := Option.map_eq_some_iff.1 h2
      exact .inl ⟨_, _, _, rfl, rfl⟩
    | row ys =>
      simp only [V.set] at h2
      obtain ⟨c0, _, h2⟩ := Option.bind_eq_some_iff.1 h2
      obtain ⟨x, _, h2⟩ := Option.bind_eq_some_iff.1 h2
      obtain ⟨x', _, rfl⟩ := Option.map_eq_some_iff.1 h2
      exact .inr (.inr ⟨_, _, rfl, rfl⟩)
    | box l =>
      simp only [V.set] at h2
      split at h2
      · obtain ⟨x, _, h2⟩ := Option.bind_eq_some_iff.1 h2
        obtain ⟨x', _, rfl⟩ := Option.map_eq_some_iff.1 h2
        exact .inr (.inl ⟨_, _, rfl, rfl⟩)
      · cases h2
    | d x => simp [V.set] at h2
    | dead => simp [V.set] at h2
theorem lz_many {v : Nat} {ag : Bool} {cs : List V} (h : ag = true ∨ cs.length ≠ 1) : T.lz (.tmp v) (.vs ag cs) = .vs ag (cs.map V.strip) := by
  simp only [T.lz]
  split
  · rcases h with h | h
    · cases h
    · simp at h
  · rcases h with h | h
    · cases h
    · simp at h
  · rcases h with h | h
    · cases h
    · simp at h
  · rfl
theorem lz_roots (v : Nat) (ag : Bool) (cs : List V) : ∀ r ∈ (T.lz (.tmp v) (.vs ag cs)).roots, r = v := by
  simp only [T.lz]
  split <;> simp_all [T.roots]
theorem app_eff (hv : Vw rt E) {call : FuncId → List T → Option Res} {pm : FuncId → List PM} {dx el sz by_ a b : Nat} {E1 : Env} (hs : ioI call pm rt E (some dx) (.app false el sz by_ (.tmp a) (.tmp b)) = some E1) {v : Nat} (h1 : v ≠ dx) (h2 : v ≠ a) (h3 : v ≠ b) :
    ((∀ ag cs, E.get v ≠ .vs ag cs) → E1.get v = Kx dx a b (E.get a) (E.get b) (E.get v)) ∧
    (∀ ag cs, E.get v = .vs ag cs → ∃ cs', E1.get v = .vs ag cs' ∧ cs'.map V.strip = cs.map V.strip ∧ ((∃ c, cs = [.box c]) ↔ ∃ c, cs' = [.box c])) ∧
    (∀ ag cs, E.get v = .vs ag cs → ∃ cs', E1.get v = .vs ag cs' ∧ T.lz (.tmp v) (.vs ag cs') = Kx dx a b (E.get a) (E.get b) (T.lz (.tmp v) (.vs ag cs))) ∧
    ((∀ u, v ∉ (E.get u).roots) → E1.get v = Kx dx a b (E.get a) (E.get b) (E.get v)) := by
  obtain ⟨ys, xs, E2, _, _, _, h4, _, rfl⟩ := app_inv hs
  have hvb := hv.takeO (.tmp b)
  have hv2 := hvb.vals h4
  simp only [Env.takeO] at hvb
  have hEb : ∀ t, t ≠ b → (E.takeT rt b).2.get t = Kb b (E.get b) (E.get t) := fun t ht => by
    cases hb : E.get b with
    | vs ag cs =>
      simp only [Env.takeT, hb, Kb]
      split
      · rfl
      · simp only [Env.get, Ne.symm ht, if_false]; exact hv.get_killR b t
    | tup ts =>
      simp only [Env.takeT, hb, Kb]
      split
      · rfl
      · simp only [Env.get, Ne.symm ht, if_false]; exact hv.get_killR b t
    | _ => simp only [Env.takeT, hb, Kb]
  have hfin : Env.get ((dx, T.one (.own el (xs ++ ys))) :: E2.killR rt dx) v = (E2.get v).killR dx := by
    simp only [Env.get, Ne.symm h1, if_false]; exact hv2.get_killR dx v
  rw [hfin]
  have hab : a ≠ b ∨ a = b := (Decidable.em (a = b)).symm
  rcases valsOwn_inv h4 with ⟨g1, rfl⟩ | ⟨r, k, p, aa, cs, c, c', g1, g2, g3, g4, g5, rfl⟩
  · have hE2 : Env.get ((a, T.dead) :: (E.takeT rt b).2.killR rt a) v = (Kb b (E.get b) (E.get v)).killR a := by
      simp only [Env.get, Ne.symm h2, if_false]
      rw [hvb.get_killR a v, hEb v h3]
    rw [hE2]
    have hta : Ka a (E.get a) = fun t => t.killR a := by
      funext t
      have : ∀ r k p, E.get a ≠ .ref r k p := fun r k p hh => by
        rcases hab with hab | hab
        · rw [hEb a hab, hh] at g1
          rcases Kb_cases b (E.get b) (.ref r k p) with h | h <;> rw [h] at g1 <;> cases g1
        · subst hab
          unfold Env.takeT at g1
          rw [hh] at g1
          simp only [hh] at g1
          cases g1
      unfold Ka
      split
      · rename_i r k p hh; exact (this _ _ _ hh).elim
      · rfl
    refine ⟨fun _ => by simp only [Kx, hta], fun ag cs hh => ⟨cs, ?_, rfl, Iff.rfl⟩, fun ag cs hh => ⟨cs, ?_, ?_⟩, fun _ => by simp only [Kx, hta]⟩
    · rw [hh]
      have := Kx_vs dx a b (E.get a) (E.get b) ag cs
      simpa only [Kx, hta] using this
    · rw [hh]
      have := Kx_vs dx a b (E.get a) (E.get b) ag cs
      simpa only [Kx, hta] using this
    · simp only [Kx, hta]
      generalize hL : T.lz (.tmp v) (.vs ag cs) = L
      have hr : ∀ r ∈ L.roots, r = v := by rw [← hL]; exact lz_roots v ag cs
      have hk : ∀ q, q ≠ v → L.killR q = L := fun q hq => T.killR_of fun hh => hq (hr q hh)
      have e1 : Kb b (E.get b) L = L := by
        have e2 := hk b (Ne.symm h3)
        unfold Kb; split <;> (try split) <;> simp [e2]
      rw [e1, hk a (Ne.symm h2), hk dx (Ne.symm h1)]
  · have hga : E.get a = .ref r k p := by
      rcases hab with hab | hab
      · rw [hEb a hab] at g1
        rcases Kb_cases b (E.get b) (E.get a) with h | h
        · rw [h] at g1; exact g1
        · rw [h] at g1; cases g1
      · subst hab
        unfold Env.takeT at g1
        cases hh : E.get a with
        | ref r' k' p' => rw [hh] at g1; simp only [hh] at g1; exact g1
        | vs ag cs' =>
          rw [hh] at g1
          simp only at g1
          split at g1
          · rw [hh] at g1; cases g1
          · simp [Env.get] at g1
        | tup ts =>
          rw [hh] at g1
          simp only at g1
          split at g1
          · rw [hh] at g1; cases g1
          · simp [Env.get] at g1
        | _ => rw [hh] at g1; simp only [hh] at g1; cases g1
    have hta : Ka a (E.get a) = fun t => t.kill r k p := by rw [hga]; rfl
    have hvr : Vw rt ((r, T.vs aa (cs.set k c')) :: (E.takeT rt b).2) := hvb.cons (by simp [T.roots])
    have hE2 : Env.get (Env.kill rt ((r, T.vs aa (cs.set k c')) :: (E.takeT rt b).2) r k p) v = if r = v then .vs aa (cs.set k c') else (Kb b (E.get b) (E.get v)).kill r k p := by
      rw [hvr.get_kill]
      simp only [Env.get]
      split
      · rfl
      · rw [hEb v h3]
    rw [hE2]
    have hrv : r = v → E.get v = .vs aa cs := by
      rintro rfl
      rw [hEb r h3] at g2
      rcases Kb_cases b (E.get b) (E.get r) with h | h <;> rw [h] at g2
      · exact g2
      · cases g2
    obtain ⟨st1, st2⟩ := strip_set g4 g5
    refine ⟨fun hn => ?_, fun ag cs0 hh => ?_, fun ag cs0 hh => ?_, fun hn => by
      rw [if_neg fun hh => hn a (by rw [hga]; simp [T.roots, hh])]
      simp only [Kx, hta]⟩
    · rw [if_neg fun hh => hn _ _ (hrv hh)]
      simp only [Kx, hta]
    · by_cases hr : r = v
      · rw [if_pos hr, killR_vs]
        have := hrv hr
        rw [hh] at this
        cases this
        refine ⟨_, rfl, ?_, ?_⟩
        · rw [List.map_set, st1]
          apply List.ext_getElem?
          intro i
          rw [List.getElem?_set]
          split
          · rename_i hi
            subst hi
            have hk : k < cs.length := (List.getElem?_eq_some_iff.1 g3).1
            obtain ⟨_, hck⟩ := List.getElem?_eq_some_iff.1 g3
            simp [hk, hck]
          · rfl
        · constructor
          · rintro ⟨l, rfl⟩
            cases k with
            | zero =>
              simp only [List.getElem?_cons_zero, Option.some.injEq] at g3
              subst g3
              obtain ⟨l', rfl⟩ := st2.1 ⟨l, rfl⟩
              exact ⟨l', rfl⟩
            | succ k => simp at g3
          · rintro ⟨l, hl⟩
            have hlen : cs.length = 1 := by have := congrArg List.length hl; simpa using this
            obtain ⟨c1, rfl⟩ : ∃ c1, cs = [c1] := by
              match cs, hlen with
              | [c1], _ => exact ⟨c1, rfl⟩
            cases k with
            | zero =>
              simp only [List.getElem?_cons_zero, Option.some.injEq] at g3
              subst g3
              simp only [List.set_cons_zero, List.cons.injEq, and_true] at hl
              obtain ⟨l', rfl⟩ := st2.2 ⟨l, hl⟩
              exact ⟨l', rfl⟩
            | succ k => simp at g3
      · rw [if_neg hr, hh]
        refine ⟨cs0, ?_, rfl, Iff.rfl⟩
        have := Kx_vs dx a b (E.get a) (E.get b) ag cs0
        simpa only [Kx, hta] using this
    · generalize hL : T.lz (.tmp v) (.vs ag cs0) = L
      have hro : ∀ q ∈ L.roots, q = v := by rw [← hL]; exact lz_roots v ag cs0
      have hkr : ∀ q, q ≠ v → L.killR q = L := fun q hq => T.killR_of fun hh => hq (hro q hh)
      have e1 : Kb b (E.get b) L = L := by
        have e2 := hkr b (Ne.symm h3)
        unfold Kb; split <;> (try split) <;> simp [e2]
      have hKx : Kx dx a b (E.get a) (E.get b) L = (L.kill r k p).killR dx := by simp only [Kx, hta, e1]
      rw [hKx]
      by_cases hr : r = v
      · rw [if_pos hr, killR_vs]
        have := hrv hr
        rw [hh] at this
        cases this
        refine ⟨_, rfl, ?_⟩
        subst hr
        by_cases hone : aa = true ∨ cs.length ≠ 1
        · have hs2 : (cs.set k c').map V.strip = cs.map V.strip := by
            rw [List.map_set, st1]
            apply List.ext_getElem?
            intro i
            rw [List.getElem?_set]
            split
            · rename_i hi
              subst hi
              have hk : k < cs.length := (List.getElem?_eq_some_iff.1 g3).1
              obtain ⟨_, hck⟩ := List.getElem?_eq_some_iff.1 g3
              simp [hk, hck]
            · rfl
          rw [← hL, lz_many hone, lz_many (by simpa using hone), hs2, kill_vs, killR_vs]
        · obtain ⟨hag, hlen⟩ := not_or.1 hone
          rw [Bool.not_eq_true] at hag
          subst hag
          obtain ⟨c1, rfl⟩ : ∃ c1, cs = [c1] := List.length_eq_one_iff.1 (Decidable.not_not.1 hlen)
          cases k with
          | succ k => simp at g3
          | zero =>
            simp only [List.getElem?_cons_zero, Option.some.injEq] at g3
            subst g3
            simp only [List.set_cons_zero]
            rcases set_kind g4 g5 with ⟨rfl, rfl, e, l, rfl⟩ | ⟨hp, ⟨e, l, l', rfl, rfl⟩ | ⟨l, l', rfl, rfl⟩ | ⟨l, l', rfl, rfl⟩⟩
            · rw [← hL]
              simp [T.lz, T.kill, killR_dead]
            · have hL2 : L = .ref r 0 [] := by rw [← hL]; rfl
              have : T.lz (.tmp r) (.vs false [V.own e l']) = .ref r 0 [] := rfl
              rw [this, hL2]
              have e3 : (T.ref r 0 []).kill r 0 p = .ref r 0 [] := by simp [T.kill, List.prefix_nil, hp]
              rw [e3, ← hL2, hkr dx (Ne.symm h1)]
            · have hL2 : L = .at_ r 0 [(0, 0)] := by rw [← hL]; rfl
              have : T.lz (.tmp r) (.vs false [V.box l']) = .at_ r 0 [(0, 0)] := rfl
              rw [this, hL2]
              have e3 : (T.at_ r 0 [(0, 0)]).kill r 0 p = .at_ r 0 [(0, 0)] := by
                simp only [T.kill]
                rw [if_neg]
                rintro ⟨_, _, hp1, hne⟩
                cases p with
                | nil => exact hp rfl
                | cons s p =>
                  rw [List.cons_prefix_cons] at hp1
                  obtain ⟨rfl, hp1⟩ := hp1
                  rw [List.prefix_nil] at hp1
                  subst hp1
                  exact hne rfl
              rw [e3, ← hL2, hkr dx (Ne.symm h1)]
            · rw [← hL]
              simp only [T.lz, List.map_cons, List.map_nil, V.strip, kill_vs, killR_vs]
      · rw [if_neg hr, hh]
        have hkl : L.kill r k p = L := by
          rw [← hL]
          simp only [T.lz]
          split
          · rename_i heq
            cases heq
            simp [T.kill, Ne.symm hr]
          · rename_i heq
            cases heq
            simp [T.kill, Ne.symm hr]
          · rfl
          · rfl
        refine ⟨cs0, ?_, by rw [hL, hkl, hkr dx (Ne.symm h1)]⟩
        have := Kx_vs dx a b (E.get a) (E.get b) ag cs0
        simpa only [Kx, hta] using this
def stOk (rt : Views) (x : Ins × Bool × List Nat) : Bool :=
  match x.1.guard, x.1.op with
  | none, .mov .st (.tmp u) => x.2.2.contains u && rt.all (fun p => p.1 != u || x.2.2.contains p.2)
  | _, _ => false
theorem within_all {l : List Nat} {t : T} (h : ∀ r ∈ t.roots, r ∈ l) : t.within l = t := by
  unfold T.within
  rw [if_pos (by simpa [List.all_eq_true] using h)]
theorem st_get (hv : Vw rt E) {R : List Nat} {u : Nat} (hu : u ∈ R) (hr : rt.all (fun p => p.1 != u || R.contains p.2) = true) : (E.keep R).get u = E.get u := by
  rw [Env.get_keep, if_pos hu]
  refine within_all fun r hr' => ?_
  have := List.all_eq_true.1 hr (u, r) (hv u r hr').1
  simpa using this
theorem lzp_ok {d : Nat} {t : T} : (T.lzp rt (some d) t).roots.all (fun r => rt.contains (d, r) && r != d) = true := by
  simp only [T.lzp]
  split
  · assumption
  · simp [T.roots]
theorem st_dr (hv : Vw rt E) {call : FuncId → List T → Option Res} {pm : FuncId → List PM} {s : Ins} {R : List Nat} (hx : stOk rt (s, false, R) = true) {E1 : Env} (hd : Mir.drO call pm rt E (s, false, R) = some E1) : Mir.ioO call pm rt E s = some E1 := by
  obtain ⟨dst, gd, op⟩ := s
  simp only [stOk] at hx
  split at hx
  · rename_i _ _ u
    simp only [Bool.and_eq_true] at hx
    have hg := st_get hv (R := R) (u := u) (by simpa using hx.1) hx.2
    simp only [Mir.drO, Mir.ioO, ioI, Env.opd, hg] at hd ⊢
    obtain ⟨e1, h1, hd⟩ := Option.bind_eq_some_iff.1 hd
    simp only [Bool.false_eq_true, if_false] at hd
    cases dst with
    | none => simpa [Env.put] using hd
    | some d =>
      simp only at hd
      rw [Env.put_get h1] at hd
      exact hd
  · cases hx
end
end Go.Mir

set_option linter.unusedVariables false
set_option linter.unusedSimpArgs false
namespace Go.Mir
open Go.RowKit
section
variable {C : Ctx} {X : Fix} {e e' : Env} {a : Act} {w : World} {call : FuncId → List T → Option Res} {pm : FuncId → List PM} {Q : Exit → Act → World → Prop}
def drOk (rt : Views) (x : Ins × Bool × List Nat) : Bool :=
  if x.2.1 then (rt.all fun p => !x.2.2.contains p.2 || x.2.2.contains p.1) && (match x.1.dst with | some d => x.2.2.contains d | none => true)
  else x.1.op.reader || stOk rt x
theorem wpOp_dr (h : St C X e a w) {ops : Array Oper} {i : Nat} {o : Oper} {m : Option Md} {x : Ins × Bool × List Nat} (ho : ops[i]? = some o) (hp : prepO C.P ops.toList m o = some x.1) (hd : dstOk X o.dst = true) (hx : drOk C.rt x = true)
    (hcall : ∀ f args r, call f args = some r → CallR C.P pm f args r) (hi : drO call pm C.rt e x = some e') {K : Act → World → Prop} (hK : ∀ a' w', St C X e' a' w' → K a' w') : wpOp C.P ops Q i K a w := by
  obtain ⟨s, big, R⟩ := x
  cases big with
  | false =>
    simp only [drOk, Bool.false_eq_true, if_false, Bool.or_eq_true] at hx
    rcases hx with hx | hx
    · exact wpOp_ok h ho hp hd hcall (dr_small hx hi) hK
    · have hv : Vw C.rt e := by obtain ⟨_, Fs, hr⟩ := h; exact hr.vw
      exact wpOp_ok h ho hp hd hcall (st_dr hv hx hi) hK
  | true =>
    simp only [drOk, if_true, Bool.and_eq_true] at hx
    obtain ⟨hcl, hdst⟩ := hx
    have hcl' : ∀ r, r ∈ R → ∀ u, (u, r) ∈ C.rt → u ∈ R := fun r hr u hu => by
      have := List.all_eq_true.1 hcl (u, r) hu
      simpa [hr] using this
    simp only [drO] at hi
    obtain ⟨e1, h1, hi⟩ := Option.bind_eq_some_iff.1 hi
    simp only [if_true] at hi
    split at hi
    · rename_i hk
      simp only [Option.some.injEq] at hi
      subst hi
      obtain ⟨hX, Fs, hr⟩ := h
      have hsd : s.dst = o.dst := by
        unfold prepO at hp
        cases hg : o.guard with
        | none => rw [hg] at hp; simp only [Option.some.injEq] at hp; rw [← hp]
        | some g => rw [hg] at hp; simp only at hp; obtain ⟨t, _, hp⟩ := Option.map_eq_some_iff.1 hp; rw [← hp]
      let X' : Fix := ⟨X.n, X.ios ++ ((List.range X.n).filter (fun t => !R.contains t)).map fun t => (t, tmOf a t)⟩
      have hX' : X'.ok a := ⟨hX.1, hX.2.1, fun p hp => by
        rcases List.mem_append.1 hp with hp | hp
        · exact hX.2.2 p hp
        · obtain ⟨t, _, rfl⟩ := List.mem_map.1 hp; rfl⟩
      have hd' : dstOk X' o.dst = true := by
        cases hod : o.dst with
        | none => rfl
        | some d =>
          rw [hod] at hd
          rw [hsd, hod] at hdst
          simp only [dstOk, Bool.and_eq_true, decide_eq_true_eq] at hd ⊢
          refine ⟨hd.1, ?_⟩
          rw [List.all_eq_true] at hd ⊢
          intro p hp
          rcases List.mem_append.1 hp with hp | hp
          · exact hd.2 p hp
          · obtain ⟨t, ht, rfl⟩ := List.mem_map.1 hp
            have h2 := (List.mem_filter.1 ht).2
            have : t ≠ d := by rintro rfl; simp at h2; exact h2 (by simpa using hdst)
            simpa using this
      refine wpOp_ok (C := C.among R w Fs (hr.amongX R)) (X := X') (e := e.keep R) ⟨hX', _, hr.among R⟩ ho hp hd' hcall h1 fun a' w' ⟨hX1, Fs1, hr1⟩ => ?_
      refine hK a' w' ⟨⟨hX1.1, hX1.2.1, fun p hp => hX1.2.2 p (List.mem_append_left _ hp)⟩, _, hr.rejoin hcl' hr1 hk fun t ht => ?_⟩
      by_cases hn : t < X.n
      · exact hX1.2.2 (t, tmOf a t) (List.mem_append_right _ (List.mem_map.2 ⟨t, List.mem_filter.2 ⟨List.mem_range.2 hn, by simpa using ht⟩, rfl⟩))
      · have h2 : a'.tmps.size = X.n := hX1.1
        have h3 : a.tmps.size = X.n := hX.1
        simp [tmOf, Array.getElem?_eq_none (show a'.tmps.size ≤ t by omega), Array.getElem?_eq_none (show a.tmps.size ≤ t by omega)]
    · cases hi
end
end Go.Mir
