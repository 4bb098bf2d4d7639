/- The law WalMaps holds: a map with records one by one is that with all of them, with what was written last, or without what is gone, for inputs up to the stated size. Part 0 of its proof. -/
import Derived.Calls
import Derived.Below
import Derived.Laws.AppendOwn
import Derived.Laws.Cells
import Derived.Laws.Sem
import Derived.Laws.Tables
import Derived.Laws.MakeOwn
import Derived.Laws.Slices
import Derived.Laws.StructEq
namespace Go.Mir
inductive D where
  | sc (v : Value)
  | sl (xs : List (List D))
inductive V where
  | dead
  | d (x : D)
  | own (e : Nat) (xs : List (List V))
  | row (xs : List (List V))
  | box (c : List V)
abbrev Pt := List (Nat × Nat)
inductive T where
  | dead
  | vs (agg : Bool) (cs : List V)
  | tup (ts : List (Bool × List V))
  | at_ (r k : Nat) (p : Pt)
  | ref (r k : Nat) (p : Pt)
  | adr (c : List D)
  | fn (f : FuncId) (caps : List T)
  | refs (r k : Nat) (p : Pt) (n : Nat)
abbrev T.sc (v : Value) : T := .vs false [.d (.sc v)]
abbrev T.int (k : IntKind) (n : Int) : T := .sc (.int k n)
abbrev T.bool (b : Bool) : T := .sc (.bool b)
abbrev T.str (s : ByteArray) : T := .sc (.string s)
abbrev T.one (v : V) : T := .vs false [v]
mutual
def V.toD : V → Option D
  | .d x => some x
  | .own _ xs | .row xs => (toDss xs).map .sl
  | _ => none
def toDs : List V → Option (List D)
  | [] => some []
  | v :: vs => (V.toD v).bind fun x => (toDs vs).map (x :: ·)
def toDss : List (List V) → Option (List (List D))
  | [] => some []
  | c :: cs => (toDs c).bind fun x => (toDss cs).map (x :: ·)
end
def V.isD : V → Bool
  | .d _ => true
  | _ => false
def V.strip : V → V
  | .d x => .d x
  | _ => .dead
mutual
def V.noSl : V → Bool
  | .d (.sc _) => true
  | .d (.sl xs) => xs.isEmpty
  | .dead => true
  | .own _ xs | .row xs => noSlss xs
  | .box c => noSls c
def noSls : List V → Bool
  | [] => true
  | v :: vs => V.noSl v && noSls vs
def noSlss : List (List V) → Bool
  | [] => true
  | c :: cs => noSls c && noSlss cs
end
def V.get : V → Pt → Option V
  | v, [] => some v
  | .own _ xs, (i, j) :: p => (xs[i]?).bind fun c => (c[j]?).bind fun x => V.get x p
  | .row xs, (i, j) :: p => (xs[i]?).bind fun c => (c[j]?).bind fun x => V.get x p
  | .box c, (i, j) :: p => if i = 0 then (c[j]?).bind fun x => V.get x p else none
  | _, _ :: _ => none
def V.set : V → Pt → V → Option V
  | _, [], y => some y
  | .own e xs, (i, j) :: p, y => (xs[i]?).bind fun c => (c[j]?).bind fun x => (V.set x p y).map fun x' => .own e (xs.set i (c.set j x'))
  | .row xs, (i, j) :: p, y => (xs[i]?).bind fun c => (c[j]?).bind fun x => (V.set x p y).map fun x' => .row (xs.set i (c.set j x'))
  | .box c, (i, j) :: p, y => if i = 0 then (c[j]?).bind fun x => (V.set x p y).map fun x' => .box (c.set j x') else none
  | _, _ :: _, _ => none
abbrev Env := List (Nat × T)
def Env.get : Env → Nat → T
  | [], _ => .dead
  | (u, v) :: e, t => if u = t then v else Env.get e t
def Env.cell (e : Env) (r k : Nat) (p : Pt) : Option V :=
  match e.get r with
  | .vs _ cs => (cs[k]?).bind (·.get p)
  | _ => none
def Env.setCell (e : Env) (r k : Nat) (p : Pt) (v : V) : Option Env :=
  match e.get r with
  | .vs a cs => (cs[k]?).bind fun c => (c.set p v).map fun c' => (r, .vs a (cs.set k c')) :: e
  | _ => none
abbrev Views := List (Nat × Nat)
def Views.of (rt : Views) (r : Nat) : List Nat := (rt.filter (·.2 = r)).map (·.1)
def T.roots : T → List Nat
  | .at_ r _ _ => [r]
  | .ref r _ _ => [r]
  | .refs r _ _ _ => [r]
  | .fn _ caps => rootsL caps
  | _ => []
where rootsL : List T → List Nat
  | [] => []
  | t :: ts => T.roots t ++ rootsL ts
def T.within (l : List Nat) (t : T) : T := if t.roots.all l.contains then t else .dead
def Env.keep (e : Env) (l : List Nat) : Env := l.map fun t => (t, (e.get t).within l)
def T.kill (r k : Nat) (q : Pt) (t : T) : T :=
  match t with
  | .at_ r' k' p => if r' = r ∧ k' = k ∧ q <+: p ∧ q ≠ p then .dead else t
  | .ref r' k' p => if r' = r ∧ k' = k ∧ q <+: p then .dead else t
  | .fn .. => if t.roots.contains r then .dead else t
  | .refs .. => if t.roots.contains r then .dead else t
  | _ => t
def T.killR (r : Nat) (t : T) : T := if t.roots.contains r then .dead else t
def Env.over (e : Env) (f : T → T) (l : List Nat) : Env := l.map (fun u => (u, f (e.get u))) ++ e
def Env.kill (rt : Views) (e : Env) (r k : Nat) (q : Pt) : Env := e.over (T.kill r k q) (rt.of r)
def Env.killR (rt : Views) (e : Env) (r : Nat) : Env := e.over (T.killR r) (rt.of r)
def Env.put (rt : Views) (e : Env) (dst : Option Nat) (t : T) : Option Env :=
  match dst with
  | none => some e
  | some u => if t.roots.all (fun r => rt.contains (u, r) && r != u) then some ((u, t) :: e.killR rt u) else none
inductive Opd where
  | tmp (t : Nat)
  | con (t : T)
  | fn (f : FuncId)
def Env.opd (e : Env) : Opd → T
  | .tmp t => e.get t
  | .con t => t
  | .fn f => .fn f []
inductive Md where
  | cp | tk | fz | st
def T.cp (o : Opd) (x : T) : Option T :=
  match x with
  | .vs agg cs =>
    if cs.all V.isD then some x else
    match o, agg, cs with
    | .tmp t, false, [.own _ _] => some (.ref t 0 [])
    | .tmp t, false, [.row _] => some (.ref t 0 [])
    | .tmp t, false, [.box _] => some (.at_ t 0 [(0, 0)])
    | _, _, _ => none
  | .tup ts => if ts.all (fun c => c.2.all V.isD) then some x else none
  | .dead => none
  | x => some x
def Env.takeT (rt : Views) (e : Env) (t : Nat) : T × Env :=
  match e.get t with
  | .vs a cs => if cs.all V.isD then (.vs a cs, e) else (.vs a cs, (t, .dead) :: e.killR rt t)
  | .tup ts => if ts.all (fun c => c.2.all V.isD) then (.tup ts, e) else (.tup ts, (t, .dead) :: e.killR rt t)
  | x => (x, e)
def Env.takeO (rt : Views) (e : Env) : Opd → T × Env
  | .tmp t => e.takeT rt t
  | .con x => (x, e)
  | .fn f => (.fn f [], e)
def Env.takePl (rt : Views) (e : Env) (r k : Nat) (p : Pt) : Option (V × Env) :=
  (e.cell r k p).bind fun v => (e.setCell r k p .dead).map fun e1 => (v, e1.kill rt r k p)
inductive Ptr where
  | at_ (r k : Nat) (p : Pt)
  | adr (c : List D)
def Env.ptr (e : Env) (o : Opd) : Option Ptr :=
  match o, e.opd o with
  | _, .at_ r k p => some (.at_ r k p)
  | _, .adr c => some (.adr c)
  | .tmp t, .vs false [.box _] => some (.at_ t 0 [(0, 0)])
  | _, _ => none
def Pt.shift (n : Nat) : Pt → Option Pt
  | [] => none
  | [(i, j)] => some [(i, j + n)]
  | x :: y :: p => (Pt.shift n (y :: p)).map (x :: ·)
def cells (f : Nat → Option V) : Nat → Nat → Option (List V)
  | _, 0 => some []
  | i, n + 1 => (f i).bind fun v => (cells f (i + 1) n).map (v :: ·)
def Env.cellsAt (e : Env) (r k : Nat) (p : Pt) (n : Nat) : Option (List V) := cells (fun i => (p.shift i).bind fun q => e.cell r k q) 0 n
def Env.takeAt (rt : Views) (r k : Nat) (p : Pt) : Env → Nat → Nat → Option (List V × Env)
  | e, _, 0 => some ([], e)
  | e, i, n + 1 => (p.shift i).bind fun q => (e.takePl rt r k q).bind fun (v, e1) => (Env.takeAt rt r k p e1 (i + 1) n).map fun (vs, e2) => (v :: vs, e2)
def Env.vals (rt : Views) (e : Env) (o : Opd) : Option (Bool × List V × Env) :=
  match e.takeO rt o with
  | (.vs a cs, e1) => some (a, cs, e1)
  | (.ref r k p, e1) => (e1.takePl rt r k p).map fun (v, e2) => (false, [v], e2)
  | (.refs r k p n, e1) => (Env.takeAt rt r k p e1 0 n).map fun (cs, e2) => (true, cs, e2)
  | _ => none
def Env.fillAt (rt : Views) (r k : Nat) (p : Pt) : Env → Nat → List V → Option Env
  | e, _, [] => some e
  | e, i, v :: vs => (p.shift i).bind fun q => (e.setCell r k q v).bind fun e1 => Env.fillAt rt r k p (e1.kill rt r k q) (i + 1) vs
def dsV (ds : List D) : List V := ds.map .d
def T.int? (t : T) : Option (IntKind × Int) :=
  match t with
  | .vs false [.d (.sc (.int k n))] => some (k, n)
  | _ => none
def T.bool? (t : T) : Option Bool :=
  match t with
  | .vs false [.d (.sc (.bool b))] => some b
  | _ => none
def T.str? (t : T) : Option ByteArray :=
  match t with
  | .vs false [.d (.sc (.string s))] => some s
  | _ => none
end Go.Mir

set_option linter.unusedVariables false
namespace Go.Mir
def ibin (o : BinOp) (k : IntKind) (a b : Int) : Option Value :=
  match o with
  | .add => some (.int k (k.wrap (a + b)))
  | .sub => some (.int k (k.wrap (a - b)))
  | .mul => some (.int k (k.wrap (a * b)))
  | .quo => if b = 0 then none else some (.int k (k.wrap (a.tdiv b)))
  | .rem => if b = 0 then none else some (.int k (a.tmod b))
  | .and => some (.int k (k.wrap (BitVec.ofInt k.bits a &&& BitVec.ofInt k.bits b).toNat))
  | .or => some (.int k (k.wrap (BitVec.ofInt k.bits a ||| BitVec.ofInt k.bits b).toNat))
  | .xor => some (.int k (k.wrap (BitVec.ofInt k.bits a ^^^ BitVec.ofInt k.bits b).toNat))
  | .eql => some (.bool (a == b))
  | .neq => some (.bool (a != b))
  | .lss => some (.bool (decide (a < b)))
  | .leq => some (.bool (decide (a ≤ b)))
  | .gtr => some (.bool (decide (a > b)))
  | .geq => some (.bool (decide (a ≥ b)))
  | _ => none
def ishift (o : BinOp) (k : IntKind) (a b : Int) : Option Value :=
  if b < 0 then none else
  match o with
  | .shl => some (.int k (k.wrap (a * 2 ^ min b.toNat k.bits)))
  | .shr => some (.int k (a.fdiv (2 ^ min b.toNat k.bits)))
  | _ => none
def strbin (o : BinOp) (x y : ByteArray) : Option Value :=
  match o with
  | .add => if x.size + y.size ≤ 9223372036854775807 then some (.string (x ++ y)) else none
  | .eql => some (.bool (x == y))
  | .neq => some (.bool (!(x == y)))
  | .lss => some (.bool (Op.bytesLess x.toList y.toList))
  | .leq => some (.bool (Op.bytesLess x.toList y.toList || x == y))
  | .gtr => some (.bool (!(Op.bytesLess x.toList y.toList || x == y)))
  | .geq => some (.bool (!Op.bytesLess x.toList y.toList))
  | _ => none
inductive K where
  | i | s | b
def eqV : K → Value → Value → Option Bool
  | .i, .int k a, .int k' b => if k = k' then some (a == b) else none
  | .s, .string a, .string b => some (a == b)
  | .b, .bool a, .bool b => some (a == b)
  | _, _, _ => none
def eqVs : List K → List Value → List Value → Option Bool
  | [], [], [] => some true
  | k :: ks, x :: xs, y :: ys => (eqV k x y).bind fun b => if b then eqVs ks xs ys else some false
  | _, _, _ => none
def scs : List V → Option (List Value)
  | [] => some []
  | .d (.sc v) :: vs => (scs vs).map (v :: ·)
  | _ :: _ => none
def bin (ks : Option (Bool × List K)) (o : BinOp) (x y : T) : Option Value :=
  match ks, x, y with
  | none, .vs false [.d (.sc (.int k a))], .vs false [.d (.sc (.int k' b))] =>
    match o with
    | .shl => ishift .shl k a b
    | .shr => ishift .shr k a b
    | _ => if k = k' then ibin o k a b else none
  | none, .vs false [.d (.sc (.string a))], .vs false [.d (.sc (.string b))] => strbin o a b
  | some (ag, ks), .vs a xs, .vs a' ys =>
    if a = ag ∧ a' = ag ∧ xs.length = ks.length ∧ ys.length = ks.length then (scs xs).bind fun a => (scs ys).bind fun b =>
      match o with
      | .eql => (eqVs ks a b).map .bool
      | .neq => (eqVs ks a b).map fun r => .bool (!r)
      | _ => none
    else none
  | _, _, _ => none
def un (o : UnOp) (x : T) : Option Value :=
  match o, x with
  | .neg, .vs false [.d (.sc (.int k n))] => some (.int k (k.wrap (0 - n)))
  | .not, .vs false [.d (.sc (.bool b))] => some (.bool (!b))
  | _, _ => none
def bytesT (s : ByteArray) : List (List D) := s.data.toList.map fun b => [D.sc (.int .u8 b.toNat)]
def bytesD : List (List D) → Option (List UInt8)
  | [] => some []
  | [.sc (.int .u8 n)] :: xs => if 0 ≤ n ∧ n < 256 then (bytesD xs).map (n.toNat.toUInt8 :: ·) else none
  | _ :: _ => none
inductive PM where
  | ro | own | io
inductive I where
  | mov (m : Md) (x : Opd)
  | pick (c a b : Opd)
  | alloc (zero : List V)
  | box (x : Opd)
  | build (agg : Bool) (zero : List V) (parts : List (Nat × Nat × Opd))
  | bslice (e : Nat) (zero : List V) (len : Nat) (parts : List (Nat × Opd))
  | load (m : Md) (agg : Bool) (n : Nat) (a : Opd)
  | store (n : Nat) (a v : Opd)
  | stored (n : Nat) (a v : Opd)
  | nilc (x : Opd)
  | bin (ks : Option (Bool × List K)) (o : BinOp) (x y : Opd)
  | un (o : UnOp) (x : Opd)
  | conv (k : IntKind) (x : Opd)
  | same (x : Opd)
  | s2b (x : Opd)
  | s2s (x : Opd)
  | appd (el : Nat) (sz by_ : Nat) (x y : Opd)
  | b2s (x : Opd)
  | slice (str : Bool) (sz : Nat) (x : Opd) (lo hi : Option Opd)
  | cut (sz : Nat) (x : Opd) (lo hi : Option Opd)
  | fieldA (off : Nat) (x : Opd)
  | field (off n : Nat) (agg : Bool) (x : Opd)
  | indexA (sz : Nat) (x i : Opd)
  | indexS (x i : Opd)
  | extract (i : Nat) (x : Opd)
  | mkslice (e bytes : Nat) (zero : List V) (l c : Opd)
  | mkfn (f : FuncId) (caps : List Opd)
  | len (str : Bool) (x : Opd)
  | app (str : Bool) (e sz bytes : Nat) (x y : Opd)
  | mn (x y : Opd)
  | mx (x y : Opd)
  | call (f : FuncId) (args : List Opd)
  | callv (x : Opd) (args : List Opd)
  | callr (f : FuncId) (args : List Opd)
  | bad
structure Ins where
  dst : Option Nat
  guard : Option (Nat × Bool)
  op : I
inductive IC where
  | skip
  | reg (ops : List Ins) (keep : Option (List Nat))
  | drw (ops : List (Ins × Bool × List Nat)) (keep : Option (List Nat))
  | seq (a b : IC)
  | cond (c : Opd) (a b : IC)
  | block (id : Nat) (c : IC)
  | loop (c : IC)
  | exit (id : Nat)
  | ret
  | bad
inductive IR where
  | tmp (t : Nat)
  | cell (a : Nat) (agg : Bool) (n : Nat)
structure PFunc where
  np : Nat
  pm : List PM
  rt : Views
  res : List IR
  body : IC
abbrev Res := T × List V
def fillV (cs : List V) (off : Nat) : List V → List V
  | [] => cs
  | v :: vs => fillV (cs.set off v) (off + 1) vs
def parts (rt : Views) : Env → List (Nat × Nat × Opd) → List V → Option (List V × Env)
  | e, [], cs => some (cs, e)
  | e, (off, n, x) :: ps, cs => (e.vals rt x).bind fun (_, vs, e1) => if vs.length = n ∧ off + n ≤ cs.length then parts rt e1 ps (fillV cs off vs) else none
def chunks (sz : Nat) : Nat → List V → List (List V)
  | 0, _ => []
  | n + 1, cs => cs.take sz :: chunks sz n (cs.drop sz)
def repl (n : Nat) (z : List V) : List V := (List.replicate n z).flatten
def Env.elems (e : Env) (o : Opd) : Option (List (List V)) :=
  match e.opd o with
  | .vs false [.d (.sl xs)] => some (xs.map (·.map .d))
  | .vs false [.own _ xs] => some xs
  | .vs false [.row xs] => some xs
  | .ref r k p => match e.cell r k p with
    | some (.own _ xs) => some xs
    | some (.row xs) => some xs
    | _ => none
  | .vs false [.d (.sc (.string s))] => some ((bytesT s).map (·.map .d))
  | _ => none
def Env.restAt (e : Env) (r k : Nat) (p : Pt) : Option (List V) :=
  match p.getLast? with
  | none => none
  | some (i, j) =>
    match e.cell r k p.dropLast with
    | some (.own _ xs) | some (.row xs) => (xs[i]?).bind fun c => if j < c.length then some (c.drop j) else none
    | some (.box c) => if i = 0 ∧ j < c.length then some (c.drop j) else none
    | _ => none
def T.noSl : T → Bool
  | .vs _ cs => noSls cs
  | .tup ts => ts.all fun c => noSls c.2
  | _ => false
def capsRo (e : Env) : List T → Option (List T × Bool)
  | [] => some ([], false)
  | .at_ r k p :: ts =>
    (e.restAt r k p).bind fun vs => (toDs vs).bind fun ds => (capsRo e ts).map fun (us, _) => (.adr ds :: us, true)
  | .vs a cs :: ts => if cs.all V.isD then (capsRo e ts).map fun (us, b) => (.vs a cs :: us, b) else none
  | .adr c :: ts => (capsRo e ts).map fun (us, b) => (.adr c :: us, b)
  | _ :: _ => none
structure Arg where
  t : T
  look : Bool
  back : Option (Nat × Nat × Pt)
def Env.arg1 (rt : Views) (m : PM) (e : Env) (o : Opd) : Option (Option Arg × Env) :=
  match m with
  | .ro =>
    match o, e.opd o with
    | .tmp t, .vs a cs =>
      if cs.all V.isD then some (none, e) else
      match toDs cs with
      | some ds => some (some ⟨.vs a (dsV ds), false, none⟩, (t, .dead) :: e.killR rt t)
      | none => some (none, e)
    | _, _ => some (none, e)
  | .own => (e.vals rt o).map fun (a, cs, e1) => (some ⟨.vs a cs, false, none⟩, e1)
  | .io =>
    match o, e.opd o with
    | .tmp t, .vs false [_] => (e.takePl rt t 0 []).map fun (v, e1) => (some ⟨.one v, false, some (t, 0, [])⟩, e1)
    | _, .ref r k p => (e.takePl rt r k p).map fun (v, e1) => (some ⟨.one v, false, some (r, k, p)⟩, e1)
    | _, .at_ r k p =>
      if p.getLast? = some (0, 0) then
        (e.takePl rt r k p.dropLast).bind fun (v, e1) =>
          match v with
          | .box c => some (some ⟨.one (.box c), false, some (r, k, p.dropLast)⟩, e1)
          | _ => none
      else none
    | _, _ => none
def Env.args1 (rt : Views) : List PM → Env → List Opd → Option (List (Option Arg) × Env)
  | _, e, [] => some ([], e)
  | m :: ms, e, o :: os => (e.arg1 rt m o).bind fun (a, e1) => (Env.args1 rt ms e1 os).map fun (ags, e2) => (a :: ags, e2)
  | [], _, _ :: _ => none
def Env.argV (e : Env) (o : Opd) (x : T) : Option Arg :=
  match o, x with
  | .tmp _, .vs false [.box c] => (toDs c).bind fun ds => if ds.isEmpty then none else some ⟨.adr ds, true, none⟩
  | .tmp _, .vs false [.own el xs] => ((V.own el xs).toD).map fun x => ⟨.one (.d x), true, none⟩
  | .con _, .vs false [.own _ []] => some ⟨.one (.d (.sl [])), false, none⟩
  | _, .vs a cs => if cs.all V.isD then some ⟨.vs a cs, false, none⟩ else none
  | _, .ref r k p => (e.cell r k p).bind fun v => (v.toD).map fun x => ⟨.one (.d x), true, none⟩
  | _, .at_ r k p => (e.restAt r k p).bind fun vs => (toDs vs).map fun ds => ⟨.adr ds, true, none⟩
  | _, .adr c => some ⟨.adr c, false, none⟩
  | _, .refs r k p n => (e.cellsAt r k p n).bind fun vs => (toDs vs).map fun ds => ⟨.vs true (dsV ds), true, none⟩
  | _, .fn f caps => (capsRo e caps).map fun (us, b) => ⟨.fn f us, b, none⟩
  | _, _ => none
def Env.arg2 (e : Env) (o : Opd) : Option Arg → Option Arg
  | some a => some a
  | none => e.argV o (e.opd o)
def Env.args2 (e : Env) : List Opd → List (Option Arg) → Option (List Arg)
  | [], [] => some []
  | o :: os, a :: ags => (e.arg2 o a).bind fun x => (Env.args2 e os ags).map (x :: ·)
  | _, _ => none
def PM.isIo : PM → Bool
  | .io => true
  | _ => false
def Env.backs (rt : Views) (e : Env) (ags : List Arg) (outs : List V) : Option Env :=
  match ags.filterMap (·.back), outs with
  | [], [] => some e
  | [(r, k, p)], [v] =>
    match e.cell r k p with
    | some .dead => (e.setCell r k p v).map fun e1 => e1.kill rt r k p
    | _ => none
  | _, _ => none
def Env.again (rt : Views) (e0 : Env) (r k : Nat) (p : Pt) : List Nat → Env → Env
  | [], e => e
  | u :: us, e =>
    match e0.get u, e.get u with
    | .at_ r' k' q, .dead =>
      match q.getLast? with
      | some (0, j) => if r' = r ∧ k' = k ∧ q = p ++ [(0, j)] ∧ (u, r) ∈ rt ∧ r ≠ u then Env.again rt e0 r k p us ((u, .at_ r k q) :: e) else Env.again rt e0 r k p us e
      | _ => Env.again rt e0 r k p us e
    | _, _ => Env.again rt e0 r k p us e
def Env.regain (rt : Views) (e0 e : Env) (ags : List Arg) (outs : List V) : Env :=
  match ags.filterMap (·.back), outs with
  | [(r, k, p)], [.box _] => match e0.cell r k p with
    | some (.box _) => Env.again rt e0 r k p (rt.of r) e
    | _ => e
  | _, _ => e
def Env.capsOf (e : Env) (f : FuncId) : Option Opd → Option (List T)
  | none => some []
  | some x => match e.opd x with
    | .fn g caps => if g = f then some caps else none
    | _ => none
def Env.callF (call : FuncId → List T → Option Res) (pm : FuncId → List PM) (rt : Views) (e : Env) (dst : Option Nat) (f : FuncId) (cx : Option Opd) (os : List Opd) : Option Env :=
  if ((pm f).drop os.length).all (fun m => !m.isIo) then
  (Env.args1 rt (pm f) e os).bind fun (l, e1) => (Env.args2 e1 os l).bind fun ags => (e1.capsOf f cx).bind fun caps => (capsRo e1 caps).bind fun (cs, b) =>
    (call f (ags.map (·.t) ++ cs)).bind fun (t, outs) =>
      if (b || ags.any (·.look)) && !(t.noSl && noSls outs) then none else (Env.backs rt e1 ags outs).bind fun e2 => (e.regain rt e2 ags outs).put rt dst t
  else none
def Env.callR (call : FuncId → List T → Option Res) (pm : FuncId → List PM) (rt : Views) (e : Env) (dst : Option Nat) (f : FuncId) (os : List Opd) : Option Env :=
  if (pm f).all (fun m => !m.isIo) = true ∧ os.length ≤ (pm f).length then
  (Env.args2 e os (os.map fun _ => none)).bind fun ags => (call f (ags.map (·.t))).bind fun (t, outs) =>
    if (ags.any (·.look)) && !(t.noSl && noSls outs) then none else if outs.isEmpty then e.put rt dst t else none
  else none
def Env.ownTmp (e : Env) (y : Opd) : Bool :=
  match y, e.opd y with
  | .tmp _, .vs false [.own _ _] => true
  | _, _ => false
def T.capOk : T → Bool
  | .vs _ cs => cs.all V.isD
  | .at_ .. => true
  | .adr _ => true
  | _ => false
def Env.caps (e : Env) : List Opd → Option (List T)
  | [] => some []
  | o :: os => (T.cp o (e.opd o)).bind fun t => if t.capOk then (Env.caps e os).map (t :: ·) else none
def Env.bound (e : Env) (n : Int) : Option Opd → Option Int
  | none => some n
  | some o => (e.opd o).int?.map (·.2)
def T.part (off n : Nat) (agg : Bool) (cs : List V) : Option T :=
  if off + n ≤ cs.length ∧ (agg = true ∨ n = 1) then some (.vs agg ((cs.drop off).take n)) else none
def byteRow : List (List V) → Bool
  | [] => true
  | [.d (.sc (.int .u8 _))] :: r => byteRow r
  | _ => false
def T.lz (o : Opd) : T → T
  | .vs a cs => match o, a, cs with
    | .tmp t, false, [.box _] => .at_ t 0 [(0, 0)]
    | .tmp t, false, [.own _ _] => .ref t 0 []
    | .tmp _, false, [.dead] => .dead
    | _, _, _ => .vs a (cs.map V.strip)
  | .at_ r k p => .at_ r k p
  | .ref r k p => .ref r k p
  | .adr c => .adr c
  | _ => .dead
def T.lzp (rt : Views) (dst : Option Nat) (t : T) : T :=
  match dst with
  | none => t
  | some u => if t.roots.all (fun r => rt.contains (u, r) && r != u) then t else .dead
def T.data : T → Bool
  | .vs _ cs => cs.all V.isD
  | _ => false
def ioI (call : FuncId → List T → Option Res) (pm : FuncId → List PM) (rt : Views) (e : Env) (dst : Option Nat) : I → Option Env
  | .mov .cp x => (T.cp x (e.opd x)).bind fun t => e.put rt dst t
  | .mov .tk x =>
    match e.vals rt x with
    | some (a, cs, e1) => e1.put rt dst (.vs a cs)
    | none =>
      match e.takeO rt x with
      | (.vs .., _) | (.ref .., _) | (.refs .., _) => none
      | (t, e1) => e1.put rt dst t
  | .mov .fz x =>
    match x, e.opd x with
    | .tmp t, .vs a cs => (toDs cs).bind fun ds => Env.put rt ((t, .vs a (dsV ds)) :: e.killR rt t) dst (.vs a (dsV ds))
    | _, .ref r k p => (e.cell r k p).bind fun v => v.toD.bind fun x => (e.setCell r k p (.d x)).bind fun e1 => (e1.kill rt r k p).put rt dst (.one (.d x))
    | _, _ => none
  | .mov .st x => e.put rt dst (T.lzp rt dst (T.lz x (e.opd x)))
  | .pick c a b => (e.opd c).bool?.bind fun q => (T.cp (if q then a else b) (e.opd (if q then a else b))).bind fun t => e.put rt dst t
  | .alloc zero => e.put rt dst (.one (.box zero))
  | .box x => (e.vals rt x).bind fun (_, cs, e1) => e1.put rt dst (.one (.box cs))
  | .build agg zero ps => (parts rt e ps zero).bind fun (cs, e1) => e1.put rt dst (.vs agg cs)
  | .bslice el zero n ps =>
    (parts rt e (ps.map fun (i, x) => (i * zero.length, zero.length, x)) (repl n zero)).bind fun (cs, e1) => e1.put rt dst (.one (.own el (chunks zero.length n cs)))
  | .load m agg n a =>
    (e.ptr a).bind fun
      | .adr c => (T.part 0 n agg (c.map .d)).bind fun t => e.put rt dst t
      | .at_ r k p =>
        match m with
        | .cp => (e.cellsAt r k p n).bind fun cs =>
          if cs.all V.isD then (if agg = true ∨ n = 1 then e.put rt dst (.vs agg cs) else none) else
          match agg, cs with
          | false, [.own _ _] => e.put rt dst (.ref r k p)
          | false, [.row _] => e.put rt dst (.ref r k p)
          | false, [.box _] => e.put rt dst (.at_ r k (p ++ [(0, 0)]))
          | true, _ => e.put rt dst (.refs r k p n)
          | _, _ => none
        | .tk => if agg = true ∨ n = 1 then (Env.takeAt rt r k p e 0 n).bind fun (cs, e1) => e1.put rt dst (.vs agg cs) else none
        | .fz => if agg = true ∨ n = 1 then (e.cellsAt r k p n).bind fun cs => (toDs cs).bind fun ds => (Env.fillAt rt r k p e 0 (dsV ds)).bind fun e1 => e1.put rt dst (.vs agg (dsV ds)) else none
        | .st => if agg = true ∨ n = 1 then (e.cellsAt r k p n).bind fun cs => e.put rt dst (.vs agg (cs.map V.strip)) else none
  | .store n a v =>
    (e.vals rt v).bind fun (_, cs, e1) => if cs.length = n then (e1.ptr a).bind fun
      | .at_ r k p => Env.fillAt rt r k p e1 0 cs
      | .adr _ => none
    else none
  | .stored n a v =>
    if T.data (e.opd v) = true then
    (e.vals rt v).bind fun (_, cs, e1) => if cs.length = n then (e1.ptr a).bind fun
      | .at_ r k p => Env.fillAt rt r k p e1 0 cs
      | .adr _ => none
    else none
    else none
  | .nilc x => (e.ptr x).bind fun
      | .at_ r k p => e.put rt dst (.at_ r k p)
      | .adr c => e.put rt dst (.adr c)
  | .bin kd o x y => (bin kd o (e.opd x) (e.opd y)).bind fun v => e.put rt dst (.sc v)
  | .un o x => (un o (e.opd x)).bind fun v => e.put rt dst (.sc v)
  | .conv k x => (e.opd x).int?.bind fun (_, n) => e.put rt dst (.int k (k.wrap n))
  | .same x => (e.opd x).str?.bind fun s => e.put rt dst (.str s)
  | .s2s x => (e.vals rt x).bind fun
      | (false, [.own _ xs], e1) => if xs.isEmpty = false ∧ byteRow xs = true then e1.put rt dst (.one (.row xs)) else none
      | _ => none
  | .s2b x => (e.opd x).str?.bind fun s => e.put rt dst (.one (.row ((bytesT s).map (·.map .d))))
  | .b2s x => if (e.opd x).str?.isSome then none else (e.elems x).bind fun xs => (toDss xs).bind fun ds => (bytesD ds).bind fun l => e.put rt dst (.str ⟨l.toArray⟩)
  | .slice true _ x lo hi =>
    (e.opd x).str?.bind fun s => (e.bound 0 lo).bind fun l => (e.bound s.size hi).bind fun h =>
      if 0 ≤ l ∧ l ≤ h ∧ h ≤ s.size then e.put rt dst (.str (s.extract l.toNat h.toNat)) else none
  | .slice false sz x lo hi =>
    match e.opd x with
    | .vs false [.d (.sl xs)] =>
      (e.bound 0 lo).bind fun l => (e.bound xs.length hi).bind fun h =>
        if 0 ≤ l ∧ l ≤ h ∧ h ≤ xs.length ∧ (lo.isNone = true ∨ xs.all (fun c => c.length == sz) = true) then e.put rt dst (.one (.d (.sl ((xs.take h.toNat).drop l.toNat)))) else none
    | _ => (e.vals rt x).bind fun
      | (false, [.own el xs], e1) => (e.bound xs.length hi).bind fun h =>
        if lo.isNone ∧ 0 ≤ h ∧ h ≤ xs.length then e1.put rt dst (.one (.own el (xs.take h.toNat))) else none
      | _ => none
  | .cut sz x lo hi =>
    match e.opd x with
    | .vs false [.d (.sl xs)] =>
      (e.bound 0 lo).bind fun l => (e.bound xs.length hi).bind fun h =>
        if 0 ≤ l ∧ l ≤ h ∧ h ≤ xs.length ∧ (lo.isNone = true ∨ xs.all (fun c => c.length == sz) = true) then e.put rt dst (.one (.d (.sl ((xs.take h.toNat).drop l.toNat)))) else none
    | _ => none
  | .fieldA off x => (e.ptr x).bind fun
      | .at_ r k p => (p.shift off).bind fun q => (e.cell r k q).bind fun _ => e.put rt dst (.at_ r k q)
      | .adr c => if off < c.length then e.put rt dst (.adr (c.drop off)) else none
  | .field off n agg x =>
    match e.opd x with
    | .vs true cs => if ((cs.drop off).take n).all V.isD then (T.part off n agg cs).bind fun t => e.put rt dst t else none
    | _ => none
  | .indexA sz x i =>
    (e.opd i).int?.bind fun (_, n) => if 0 ≤ n then
    match x, e.opd x with
    | _, .vs false [.d (.sl xs)] => (xs[n.toNat]?).bind fun c => if c.length = sz then e.put rt dst (.adr c) else none
    | .tmp t, .vs false [.own _ xs] => (xs[n.toNat]?).bind fun c => if c.length = sz then e.put rt dst (.at_ t 0 [(n.toNat, 0)]) else none
    | .tmp t, .vs false [.row xs] => (xs[n.toNat]?).bind fun c => if c.length = sz then e.put rt dst (.at_ t 0 [(n.toNat, 0)]) else none
    | _, .ref r k p =>
      match e.cell r k p with
      | some (.own _ xs) | some (.row xs) => (xs[n.toNat]?).bind fun c => if c.length = sz then e.put rt dst (.at_ r k (p ++ [(n.toNat, 0)])) else none
      | _ => none
    | _, _ => none
    else none
  | .indexS x i =>
    (e.opd i).int?.bind fun (_, n) => (e.opd x).str?.bind fun s =>
      if 0 ≤ n then (s[n.toNat]?).bind fun b => e.put rt dst (.int .u8 b.toNat) else none
  | .extract i x =>
    match x, e.opd x with
    | .tmp t, .tup ts => (ts[i]?).bind fun (a, cs) => Env.put rt ((t, .tup (ts.set i (a, cs.map V.strip))) :: e.killR rt t) dst (.vs a cs)
    | _, _ => none
  | .mkslice el by_ zero l c =>
    (e.opd l).int?.bind fun (kl, n) => (e.opd c).int?.bind fun (kc, m) =>
      if 0 ≤ n ∧ n ≤ m ∧ m * by_ ≤ 140737488355328 then e.put rt dst (.one (.own el (List.replicate n.toNat zero))) else none
  | .mkfn f caps => (e.caps caps).bind fun ts => e.put rt dst (.fn f ts)
  | .len true x => (e.opd x).str?.bind fun s => e.put rt dst (.int .i64 s.size)
  | .len false x => if (e.opd x).str?.isSome then none else (e.elems x).bind fun xs => e.put rt dst (.int .i64 xs.length)
  | .app str el sz by_ x y =>
    if (e.opd y).str?.isSome = str then
    (e.elems y).bind fun ys => if (ys.all (·.all V.isD) || e.ownTmp y) = true then
    (Env.vals rt (e.takeO rt y).2 x).bind fun
      | (false, [.own el' xs], e2) => if el' = el ∧ (xs.length + ys.length) * by_ ≤ 140737488355328 ∧ ys.all (fun c => c.length == sz) then e2.put rt dst (.one (.own el (xs ++ ys))) else none
      | _ => none
    else none
    else none
  | .appd el sz by_ x y =>
    if (e.opd y).str?.isSome = false then
    (e.elems y).bind fun ys => if ys.all (·.all V.isD) = true then
    match Env.opd (e.takeO rt y).2 x with
    | .ref r k p => (Env.takePl rt (e.takeO rt y).2 r k p).bind fun
      | (.own el' xs, e2) =>
        if el' = el ∧ (xs.length + ys.length) * by_ ≤ 140737488355328 ∧ ys.all (fun c => c.length == sz) then
          (toDss xs).bind fun ds => (toDss ys).bind fun dys => (e2.setCell r k p (.d (.sl ds))).bind fun e3 => (e3.kill rt r k p).put rt dst (.one (.d (.sl (ds ++ dys))))
        else none
      | _ => none
    | _ => none
    else none
    else none
  | .mn x y => (e.opd x).int?.bind fun (k, a) => (e.opd y).int?.bind fun (_, b) => e.put rt dst (.int k (if b < a then b else a))
  | .mx x y => (e.opd x).int?.bind fun (k, a) => (e.opd y).int?.bind fun (_, b) => e.put rt dst (.int k (if a < b then b else a))
  | .call f os => e.callF call pm rt dst f none os
  | .callv x os =>
    match e.opd x with
    | .fn f _ => e.callF call pm rt dst f (some x) os
    | _ => none
  | .callr f os => e.callR call pm rt dst f os
  | .bad => none
def T.gd? (t : T) : Option (Option Bool) :=
  match t with
  | .vs false [.d (.sc (.bool b))] => some (some b)
  | .tup [] => some none
  | _ => none
def ioO (call : FuncId → List T → Option Res) (pm : FuncId → List PM) (rt : Views) (e : Env) (o : Ins) : Option Env :=
  match o.guard with
  | none => ioI call pm rt e o.dst o.op
  | some (j, want) => (e.get j).gd?.bind fun b => if b = some want then ioI call pm rt e o.dst o.op else e.put rt o.dst (.tup [])
def ioL (call : FuncId → List T → Option Res) (pm : FuncId → List PM) (rt : Views) : Env → List Ins → Option Env
  | e, [] => some e
  | e, o :: os => (ioO call pm rt e o).bind fun e1 => ioL call pm rt e1 os
def drO (call : FuncId → List T → Option Res) (pm : FuncId → List PM) (rt : Views) (e : Env) (x : Ins × Bool × List Nat) : Option Env :=
  (ioO call pm rt (e.keep x.2.2) x.1).bind fun e1 =>
    if x.2.1 then (if e1.all (fun p => x.2.2.contains p.1) then some (e1.keep x.2.2 ++ e) else none)
    else match x.1.dst with
      | some d => e.put rt (some d) (e1.get d)
      | none => some e
def drL (call : FuncId → List T → Option Res) (pm : FuncId → List PM) (rt : Views) : Env → List (Ins × Bool × List Nat) → Option Env
  | e, [] => some e
  | e, o :: os => (drO call pm rt e o).bind fun e1 => drL call pm rt e1 os
def Env.keep? (e : Env) : Option (List Nat) → Env
  | none => e
  | some l => e.keep l
inductive Ex where
  | nrm | exit (id : Nat) | ret
def loopK (f : Env → Option (Ex × Env)) : Nat → Env → Option (Ex × Env)
  | 0, _ => none
  | k + 1, e => (f e).bind fun (x, e1) =>
    match x with
    | .nrm => loopK f k e1
    | x => some (x, e1)
def denK (call : FuncId → List T → Option Res) (pm : FuncId → List PM) (rt : Views) (k : Nat) : IC → Env → Option (Ex × Env)
  | .skip, e => some (.nrm, e)
  | .reg ops keep, e => (ioL call pm rt e ops).map fun e1 => (.nrm, e1.keep? keep)
  | .drw ops keep, e => (drL call pm rt e ops).map fun e1 => (.nrm, e1.keep? keep)
  | .seq a b, e => (denK call pm rt k a e).bind fun (x, e1) =>
    match x with
    | .nrm => denK call pm rt k b e1
    | x => some (x, e1)
  | .cond c a b, e => (e.opd c).bool?.bind fun q => if q then denK call pm rt k a e else denK call pm rt k b e
  | .block id c, e => (denK call pm rt k c e).map fun (x, e1) =>
    (match x with | .exit j => if j = id then .nrm else .exit j | x => x, e1)
  | .loop c, e => loopK (denK call pm rt k c) k e
  | .exit id, e => some (.exit id, e)
  | .ret, e => some (.ret, e)
  | .bad, e => none
def Env.enter : Nat → List T → Env
  | _, [] => []
  | i, t :: ts => (i, t) :: Env.enter (i + 1) ts
def resT (rt : Views) (e : Env) : IR → Option ((Bool × List V) × Env)
  | .tmp t => (e.vals rt (.tmp t)).map fun (a, cs, e1) => ((a, cs), e1)
  | .cell a agg n => (e.ptr (.tmp a)).bind fun
    | .at_ r k p => if agg = true ∨ n = 1 then (Env.takeAt rt r k p e 0 n).map fun (cs, e1) => ((agg, cs), e1) else none
    | .adr c => (T.part 0 n agg (c.map .d)).bind fun | .vs a cs => some ((a, cs), e) | _ => none
def ress (rt : Views) : Env → List IR → Option (List (Bool × List V) × Env)
  | e, [] => some ([], e)
  | e, r :: rs => (resT rt e r).bind fun (x, e1) => (ress rt e1 rs).map fun (xs, e2) => (x :: xs, e2)
def mkRes : List (Bool × List V) → T
  | [(a, cs)] => .vs a cs
  | ts => .tup ts
def lent (rt : Views) : Nat → List PM → Env → Option (List V × Env)
  | _, [], e => some ([], e)
  | i, .io :: ms, e =>
    match e.get i with
    | .vs false [_] => (e.takePl rt i 0 []).bind fun (v, e1) => (lent rt (i + 1) ms e1).map fun (vs, e2) => (v :: vs, e2)
    | _ => none
  | i, _ :: ms, e => lent rt (i + 1) ms e
def exitOf (pf : PFunc) (x : Ex) (e : Env) : Option Res :=
  match x with
  | .exit _ => none
  | _ => (ress pf.rt e pf.res).bind fun (ts, e1) => (lent pf.rt 0 pf.pm e1).map fun (vs, _) => (mkRes ts, vs)
def bodyK (call : FuncId → List T → Option Res) (pm : FuncId → List PM) (k : Nat) (pf : PFunc) (args : List T) : Option Res :=
  if args.length = pf.np then (denK call pm pf.rt k pf.body (Env.enter 0 args)).bind fun (x, e) => exitOf pf x e else none
structure Prog where
  fn : FuncId → Option PFunc
  given : FuncId → Option (List PM × (List T → Option Res))
def Prog.pm (G : Prog) (f : FuncId) : List PM :=
  match G.given f with
  | some g => g.1
  | none => match G.fn f with
    | some pf => pf.pm
    | none => []
def callK (G : Prog) : Nat → FuncId → List T → Option Res
  | 0, _, _ => none
  | k + 1, f, args =>
    match G.given f with
    | some g => g.2 args
    | none => (G.fn f).bind fun pf => bodyK (callK G k) G.pm k pf args
end Go.Mir

set_option linter.unusedVariables false
namespace Go.Mir
open Go.RowKit
structure Grow (S : Nat → Prop) (w w' : World) : Prop where
  os : w'.os = w.os
  tape : w'.tape = w.tape
  output : w'.output = w.output
  size : w.heap.size ≤ w'.heap.size
  block : ∀ k, k < w.heap.size → ¬ S k → w'.heap[k]? = w.heap[k]?
theorem Grow.refl (S : Nat → Prop) (w : World) : Grow S w w := ⟨rfl, rfl, rfl, Nat.le_refl _, fun _ _ _ => rfl⟩
theorem Grow.trans {S : Nat → Prop} {a b c : World} (h : Grow S a b) (k : Grow S b c) : Grow S a c :=
  ⟨k.os.trans h.os, k.tape.trans h.tape, k.output.trans h.output, Nat.le_trans h.size k.size, fun i hi hs => (k.block i (Nat.lt_of_lt_of_le hi h.size) hs).trans (h.block i hi hs)⟩
theorem Grow.trans' {S S' : Nat → Prop} {a b c : World} (h : Grow S a b) (k : Grow S' b c) (hS : ∀ i, i < a.heap.size → S' i → S i) : Grow S a c :=
  ⟨k.os.trans h.os, k.tape.trans h.tape, k.output.trans h.output, Nat.le_trans h.size k.size,
    fun i hi hs => (k.block i (Nat.lt_of_lt_of_le hi h.size) (fun hk => hs (hS i hi hk))).trans (h.block i hi hs)⟩
theorem Grow.mono {S S' : Nat → Prop} {a b : World} (h : Grow S a b) (hS : ∀ i, i < a.heap.size → S i → S' i) : Grow S' a b :=
  ⟨h.os, h.tape, h.output, h.size, fun i hi hs => h.block i hi (fun hk => hs (hS i hi hk))⟩
theorem Grow.alloc (S : Nat → Prop) (w : World) (o : Obj) : Grow S w (w.alloc o) := ⟨rfl, rfl, rfl, by simp, fun k hk _ => Below.heap_alloc w o k hk⟩
theorem Grow.drew (S : Nat → Prop) (w : World) : Grow S w w.drew := ⟨rfl, rfl, rfl, Nat.le_refl _, fun _ _ _ => rfl⟩
theorem Grow.setCell {S : Nat → Prop} (w : World) (a : Addr) (u : Value) (h : S a.block) : Grow S w (w.setCell a u) :=
  ⟨rfl, rfl, rfl, by simp [World.setCell], fun k _ hs => Below.heap_setCell w a u k (fun e => hs (e ▸ h))⟩
theorem Grow.grownBy {w w' : World} {row : Option Nat} (h : w.grownBy w' row) : Grow (fun k => row = some k) w w' :=
  ⟨h.os, h.tape, h.output, h.size, fun k hk hs => h.block k hk (fun e => hs e.symm)⟩
def plain : Value → Bool
  | .bool _ | .int _ _ | .string _ | .pointer none | .nilFunc | .float _ _ | .complex _ _ _ | .nilIface => true
  | _ => false
inductive RO (w : World) (ok : Nat → Prop) : D → Value → Prop
  | sc {v : Value} (h : plain v = true) : RO w ok (.sc v) v
  | nil {A : Option Addr} {c : Nat} : RO w ok (.sl []) (.slice A 0 c)
  | sl {xs : List (List D)} {b o c sz : Nat} (us : List Value) (h0 : xs ≠ []) (hz : 0 < sz) (hsz : ∀ x ∈ xs, x.length = sz) (hc : xs.length ≤ c) (hok : ok b)
      (hl : us.length = xs.length * sz) (hu : ∀ (j : Nat) (u : Value), us[j]? = some u → w.cell? ⟨b, o + j, none⟩ = some u)
      (hr : ∀ (j : Nat) (v : D) (u : Value), xs.flatten[j]? = some v → us[j]? = some u → RO w ok v u) : RO w ok (.sl xs) (.slice (some ⟨b, o, none⟩) xs.length c)
theorem RO.mono {w w' : World} {ok ok' : Nat → Prop} {x : D} {u : Value} (h : RO w ok x u) (hk : ∀ b, ok b → b < w.heap.size → ok' b ∧ w'.heap[b]? = w.heap[b]?) : RO w' ok' x u := by
  induction h with
  | sc h => exact .sc h
  | nil => exact .nil
  | @sl xs b o c sz us h0 hz hsz hc hok hl hu hr ih =>
    have hb : b < w.heap.size := by
      have : 0 < us.length := by rw [hl]; exact Nat.mul_pos (List.length_pos_iff.2 h0) hz
      exact World.block_lt_of_cell? w _ (hu 0 _ (List.getElem?_eq_getElem this))
    exact .sl us h0 hz hsz hc (hk b hok hb).1 hl (fun j u hj => by rw [World.cell?_of_block (w := w) (hk b hok hb).2]; exact hu j u hj) ih
def Shape (P : Program) : V → Value → Nat → List V → Array Value → TypeId → Nat × Nat → Prop
  | .own e' xs, u, g, vs, cur, e, fz => e' = e ∧ fz = (0, 0) ∧ 0 < P.cellsOf e ∧ (∀ c ∈ xs, c.length = P.cellsOf e) ∧ vs = xs.flatten ∧
      ∃ cap, u = .slice (some ⟨g, 0, none⟩) xs.length cap ∧ xs.length ≤ cap ∧ cap ≤ maxLen ∧ cur.size = cap * P.cellsOf e
  | .row xs, u, g, vs, cur, _, fz => (∀ c ∈ xs, c.length = 1) ∧ vs = xs.flatten ∧ xs.length ≤ cur.size ∧ (∀ j, j < xs.length → ¬ (fz.1 ≤ j ∧ j < fz.2)) ∧
      ∃ cap, u = .slice (some ⟨g, 0, none⟩) xs.length cap ∧ xs.length ≤ cap
  | .box c, u, g, vs, cur, _, fz => fz = (0, 0) ∧ vs = c ∧ cur.size = c.length ∧ u = .pointer (some ⟨g, 0, none⟩)
  | _, _, _, _, _, _, _ => False
inductive Own (P : Program) (w : World) (ok : Nat → Prop) : V → Value → (Nat → Prop) → Prop
  | dead {u : Value} {F : Nat → Prop} (h1 : u.oneCell' = true) (hF : ∀ b, ¬ F b) : Own P w ok .dead u F
  | d {x : D} {u : Value} {F : Nat → Prop} (hF : ∀ b, ¬ F b) (h : RO w ok x u) : Own P w ok (.d x) u F
  | nil {e : Nat} {A : Option Addr} {F : Nat → Prop} (hF : ∀ b, ¬ F b) : Own P w ok (.own e []) (.slice A 0 0) F
  | blk {v : V} {u : Value} {g : Nat} {vs : List V} {cur : Array Value} {e : TypeId} {fz : Nat × Nat} {F : Nat → Prop} (Fs : Nat → Nat → Prop)
      (hh : Shape P v u g vs cur e fz) (hg : w.heap[g]? = some (.cells cur e fz))
      (hc : ∀ (j : Nat) (v : V) (u : Value), vs[j]? = some v → cur[j]? = some u → Own P w ok v u (Fs j))
      (hd : ∀ i j b, i < vs.length → j < vs.length → i ≠ j → Fs i b → ¬ Fs j b) (hb : ∀ j, j < vs.length → ¬ Fs j g) (hF : ∀ b, F b ↔ b = g ∨ ∃ j, j < vs.length ∧ Fs j b) : Own P w ok v u F
theorem Own.frame {P : Program} {w w' : World} {ok ok' : Nat → Prop} {v : V} {u : Value} {F : Nat → Prop} (h : Own P w ok v u F)
    (hf : ∀ b, F b → w'.heap[b]? = w.heap[b]?) (hk : ∀ b, ok b → b < w.heap.size → ok' b ∧ w'.heap[b]? = w.heap[b]?) : Own P w' ok' v u F := by
  induction h with
  | dead h1 hF => exact .dead h1 hF
  | d hF h => exact .d hF (h.mono hk)
  | nil hF => exact .nil hF
  | @blk v u g vs cur e fz F Fs hh hg hc hd hb hF ih =>
    refine .blk Fs hh ((hf g ((hF g).2 (.inl rfl))).trans hg) (fun j v u hj hu => ih j v u hj hu fun b hb => ?_) hd hb hF
    exact hf b ((hF b).2 (.inr ⟨j, (List.getElem?_eq_some_iff.1 hj).1, hb⟩))
theorem Own.lt {P : Program} {w : World} {ok : Nat → Prop} {v : V} {u : Value} {F : Nat → Prop} (h : Own P w ok v u F) : ∀ b, F b → b < w.heap.size := by
  induction h with
  | dead h1 hF => exact fun b h => (hF b h).elim
  | d hF => exact fun b h => (hF b h).elim
  | nil hF => exact fun b h => (hF b h).elim
  | @blk v u g vs cur e fz F Fs hh hg hc hd hb hF ih =>
    intro b hb'
    rcases (hF b).1 hb' with rfl | ⟨j, hj, hjb⟩
    · exact (Array.getElem?_eq_some_iff.1 hg).1
    · have hs : vs.length ≤ cur.size := by
        cases v <;> simp only [Shape] at hh
        · obtain ⟨rfl, _, hz, hsz, rfl, cap, _, h1, _, h2⟩ := hh
          rw [h2, List.length_flatten, List.map_eq_replicate_iff.2 (fun c hc => hsz c hc)]
          simp
          exact Nat.mul_le_mul_right _ h1
        · obtain ⟨hsz, rfl, h2, _⟩ := hh
          rw [List.length_flatten, List.map_eq_replicate_iff.2 (fun c hc => hsz c hc)]
          simpa using h2
        · obtain ⟨_, rfl, h2, _⟩ := hh
          omega
      exact ih j vs[j] cur[j] (List.getElem?_eq_getElem hj) (Array.getElem?_eq_getElem (by omega)) b hjb
theorem RO.one {w : World} {ok : Nat → Prop} {x : D} {u : Value} (h : RO w ok x u) : u.oneCell' = true := by
  cases h with
  | sc h => cases u <;> first | rfl | simp [plain] at h
  | nil => rfl
  | sl => rfl
theorem Own.one {P : Program} {w : World} {ok : Nat → Prop} {v : V} {u : Value} {F : Nat → Prop} (h : Own P w ok v u F) : u.oneCell' = true := by
  cases h with
  | dead h1 _ => exact h1
  | d _ h => exact h.one
  | nil => rfl
  | blk Fs hh =>
    cases v <;> simp only [Shape] at hh
    · obtain ⟨_, _, _, _, _, cap, rfl, _⟩ := hh; rfl
    · obtain ⟨_, _, _, _, cap, rfl, _⟩ := hh; rfl
    · obtain ⟨_, _, _, rfl⟩ := hh; rfl
theorem Own.ext {P : Program} {w : World} {ok : Nat → Prop} {v : V} {u : Value} {F G : Nat → Prop} (h : Own P w ok v u F) (hG : ∀ b, G b ↔ F b) : Own P w ok v u G := by
  have : G = F := funext fun b => propext (hG b)
  exact this ▸ h
theorem flat_len {α : Type} {xs : List (List α)} {sz : Nat} (h : ∀ c ∈ xs, c.length = sz) : xs.flatten.length = xs.length * sz := by
  rw [List.length_flatten, List.map_eq_replicate_iff.2 h]; simp
theorem flat_get {α : Type} {sz : Nat} : ∀ {xs : List (List α)} (h : ∀ c ∈ xs, c.length = sz) {i j : Nat} {c : List α} {v : α}, xs[i]? = some c → c[j]? = some v → xs.flatten[i * sz + j]? = some v
  | [], _, i, j, c, v, hi, _ => by simp at hi
  | x :: xs, h, 0, j, c, v, hi, hj => by
    simp at hi; subst hi
    rw [List.flatten_cons, Nat.zero_mul, Nat.zero_add, List.getElem?_append_left (List.getElem?_eq_some_iff.1 hj).1]; exact hj
  | x :: xs, h, i + 1, j, c, v, hi, hj => by
    have hx : x.length = sz := h x (by simp)
    rw [List.flatten_cons, List.getElem?_append_right (by rw [hx, Nat.add_mul]; omega), hx]
    have : (i + 1) * sz + j - sz = i * sz + j := by rw [Nat.add_mul]; omega
    rw [this]
    exact flat_get (fun d hd => h d (List.mem_cons_of_mem _ hd)) (by simpa using hi) hj
theorem flat_set {α : Type} {sz : Nat} (y : α) : ∀ {xs : List (List α)} (h : ∀ c ∈ xs, c.length = sz) {i j : Nat} {c : List α}, xs[i]? = some c → j < c.length → (xs.set i (c.set j y)).flatten = xs.flatten.set (i * sz + j) y
  | [], _, i, j, c, hi, _ => by simp at hi
  | x :: xs, h, 0, j, c, hi, hj => by
    simp at hi; subst hi
    simp [List.set_append_left _ _ hj]
  | x :: xs, h, i + 1, j, c, hi, hj => by
    have hx : x.length = sz := h x (by simp)
    have ih := flat_set y (fun d hd => h d (List.mem_cons_of_mem _ hd)) (i := i) (j := j) (c := c) (by simpa using hi) hj
    simp only [List.set_cons_succ, List.flatten_cons, ih]
    rw [List.set_append_right _ _ (by rw [hx, Nat.add_mul]; omega), hx]
    have : (i + 1) * sz + j - sz = i * sz + j := by rw [Nat.add_mul]; omega
    rw [this]
def V.idx : V → Nat × Nat → Nat
  | .own _ xs, (i, j) => i * ((xs[i]?).getD []).length + j
  | .row xs, (i, j) => i * ((xs[i]?).getD []).length + j
  | .box _, (_, j) => j
  | _, _ => 0
def V.kid : V → Nat × Nat → Option V
  | .own _ xs, (i, j) => (xs[i]?).bind (·[j]?)
  | .row xs, (i, j) => (xs[i]?).bind (·[j]?)
  | .box c, (i, j) => if i = 0 then c[j]? else none
  | _, _ => none
def V.upd : V → Nat × Nat → V → V
  | .own e xs, (i, j), y => .own e (xs.set i (((xs[i]?).getD []).set j y))
  | .row xs, (i, j), y => .row (xs.set i (((xs[i]?).getD []).set j y))
  | .box c, (_, j), y => .box (c.set j y)
  | v, _, _ => v
theorem V.get_cons (v : V) (s : Nat × Nat) (p : Pt) : v.get (s :: p) = (v.kid s).bind fun x => x.get p := by
  obtain ⟨i, j⟩ := s
  cases v with
  | own e xs => simp only [V.get, V.kid]; cases xs[i]? <;> simp
  | row xs => simp only [V.get, V.kid]; cases xs[i]? <;> simp
  | box c => simp only [V.get, V.kid]; split <;> simp
  | _ => simp [V.get, V.kid]
theorem V.set_cons (v : V) (s : Nat × Nat) (p : Pt) (y : V) : v.set (s :: p) y = (v.kid s).bind fun x => (x.set p y).map fun x' => v.upd s x' := by
  obtain ⟨i, j⟩ := s
  cases v with
  | own e xs => simp only [V.set, V.kid, V.upd]; cases h : xs[i]? <;> simp
  | row xs => simp only [V.set, V.kid, V.upd]; cases h : xs[i]? <;> simp
  | box c => simp only [V.set, V.kid, V.upd]; split <;> simp
  | _ => simp [V.set, V.kid]
theorem Shape.len {P : Program} {v : V} {u : Value} {g : Nat} {vs : List V} {cur : Array Value} {e : TypeId} {fz : Nat × Nat} (h : Shape P v u g vs cur e fz) : vs.length ≤ cur.size := by
  cases v <;> simp only [Shape] at h
  · obtain ⟨rfl, _, hz, hsz, rfl, cap, _, h1, _, h2⟩ := h
    rw [h2, flat_len hsz]
    exact Nat.mul_le_mul_right _ h1
  · obtain ⟨hsz, rfl, h2, _⟩ := h
    rw [flat_len hsz]; omega
  · obtain ⟨_, rfl, h2, _⟩ := h
    omega
theorem Shape.kid {P : Program} {v : V} {u : Value} {g : Nat} {vs : List V} {cur : Array Value} {e : TypeId} {fz : Nat × Nat} (h : Shape P v u g vs cur e fz) {s : Nat × Nat} {x : V} (hk : v.kid s = some x) : vs[v.idx s]? = some x := by
  obtain ⟨i, j⟩ := s
  cases v with
  | own e' xs =>
    obtain ⟨rfl, _, hz, hsz, rfl, _⟩ := h
    simp only [V.kid] at hk
    obtain ⟨c, hc, hj⟩ := Option.bind_eq_some_iff.1 hk
    simp only [V.idx, hc, Option.getD_some, hsz c (List.mem_of_getElem? hc)]
    exact flat_get hsz hc hj
  | row xs =>
    obtain ⟨hsz, rfl, _⟩ := h
    simp only [V.kid] at hk
    obtain ⟨c, hc, hj⟩ := Option.bind_eq_some_iff.1 hk
    simp only [V.idx, hc, Option.getD_some, hsz c (List.mem_of_getElem? hc)]
    exact flat_get hsz hc hj
  | box c =>
    obtain ⟨_, rfl, _⟩ := h
    simp only [V.kid] at hk
    split at hk
    · exact hk
    · cases hk
  | _ => simp [V.kid] at hk
theorem Shape.upd {P : Program} {v : V} {u : Value} {g : Nat} {vs : List V} {cur : Array Value} {e : TypeId} {fz : Nat × Nat} (h : Shape P v u g vs cur e fz) {s : Nat × Nat} {x : V} (hk : v.kid s = some x) (y : V) :
    Shape P (v.upd s y) u g (vs.set (v.idx s) y) cur e fz := by
  obtain ⟨i, j⟩ := s
  cases v with
  | own e' xs =>
    obtain ⟨rfl, hfz, hz, hsz, rfl, cap, hu, h1, h2, h3⟩ := h
    simp only [V.kid] at hk
    obtain ⟨c, hc, hj⟩ := Option.bind_eq_some_iff.1 hk
    have hcl := hsz c (List.mem_of_getElem? hc)
    simp only [V.idx, V.upd, hc, Option.getD_some, hcl]
    refine ⟨rfl, hfz, hz, ?_, (flat_set y hsz hc (List.getElem?_eq_some_iff.1 hj).1).symm, cap, by simpa using hu, by simpa using h1, h2, h3⟩
    intro d hd
    rcases List.mem_or_eq_of_mem_set hd with h | rfl
    · exact hsz d h
    · simpa using hcl
  | row xs =>
    obtain ⟨hsz, rfl, h2, h3, cap, hu, h4⟩ := h
    simp only [V.kid] at hk
    obtain ⟨c, hc, hj⟩ := Option.bind_eq_some_iff.1 hk
    have hcl := hsz c (List.mem_of_getElem? hc)
    simp only [V.idx, V.upd, hc, Option.getD_some, hcl]
    refine ⟨?_, (flat_set y hsz hc (List.getElem?_eq_some_iff.1 hj).1).symm, by simpa using h2, by simpa using h3, cap, by simpa using hu, by simpa using h4⟩
    intro d hd
    rcases List.mem_or_eq_of_mem_set hd with h | rfl
    · exact hsz d h
    · simpa using hcl
  | box c =>
    obtain ⟨hfz, rfl, h2, hu⟩ := h
    exact ⟨hfz, rfl, by simpa [V.idx] using h2, hu⟩
  | _ => simp [V.kid] at hk
theorem Shape.thawed {P : Program} {v : V} {u : Value} {g : Nat} {vs : List V} {cur : Array Value} {e : TypeId} {fz : Nat × Nat} (h : Shape P v u g vs cur e fz) {j : Nat} (hj : j < vs.length) : ¬ (fz.1 ≤ j ∧ j < fz.2) := by
  cases v <;> simp only [Shape] at h
  · obtain ⟨rfl, rfl, _⟩ := h; simp
  · obtain ⟨hsz, rfl, h2, h3, _⟩ := h
    rw [flat_len hsz] at hj
    exact h3 j (by omega)
  · obtain ⟨rfl, _⟩ := h; simp
theorem Shape.cur {P : Program} {v : V} {u : Value} {g : Nat} {vs : List V} {cur : Array Value} {e : TypeId} {fz : Nat × Nat} (h : Shape P v u g vs cur e fz) {cur' : Array Value} (hs : cur'.size = cur.size) : Shape P v u g vs cur' e fz := by
  cases v <;> simp only [Shape, hs] at h ⊢ <;> exact h
def hdBlk : Value → Option Nat
  | .slice (some a) _ _ => some a.block
  | .pointer (some a) => some a.block
  | _ => none
theorem Shape.blk {P : Program} {v : V} {u : Value} {g : Nat} {vs : List V} {cur : Array Value} {e : TypeId} {fz : Nat × Nat} (h : Shape P v u g vs cur e fz) : hdBlk u = some g := by
  cases v <;> simp only [Shape] at h
  · obtain ⟨_, _, _, _, _, cap, rfl, _⟩ := h; rfl
  · obtain ⟨_, _, _, _, cap, rfl, _⟩ := h; rfl
  · obtain ⟨_, _, _, rfl⟩ := h; rfl
def adrOf (w : World) : V → Value → Pt → Option Addr
  | _, _, [] => none
  | v, u, s :: p => (hdBlk u).bind fun g =>
    match p with
    | [] => some ⟨g, v.idx s, none⟩
    | _ => (w.cell? ⟨g, v.idx s, none⟩).bind fun u' => (v.kid s).bind fun v' => adrOf w v' u' p
def valOf (w : World) (v : V) (u : Value) (p : Pt) : Option Value :=
  match p with
  | [] => some u
  | _ => (adrOf w v u p).bind w.cell?
end Go.Mir

set_option linter.unusedVariables false
set_option linter.unusedSimpArgs false
namespace Go.Mir
open Go.RowKit
theorem V.get_set {p : Pt} : ∀ {v y v1 : V}, v.set p y = some v1 → v1.get p = some y := by
  induction p with
  | nil => intro v y v1 h; cases v <;> (simp [V.set] at h; subst h; simp [V.get])
  | cons s p ih =>
    intro v y v1 h
    rw [V.set_cons] at h
    obtain ⟨x, hx, h⟩ := Option.bind_eq_some_iff.1 h
    obtain ⟨x', hx', rfl⟩ := Option.map_eq_some_iff.1 h
    rw [V.get_cons]
    have : (v.upd s x').kid s = some x' := by
      obtain ⟨i, j⟩ := s
      cases v with
      | own e xs =>
        simp only [V.kid] at hx ⊢
        obtain ⟨c, hc, hj⟩ := Option.bind_eq_some_iff.1 hx
        obtain ⟨h1, rfl⟩ := List.getElem?_eq_some_iff.1 hc
        have h2 := (List.getElem?_eq_some_iff.1 hj).1
        simp [V.upd, V.kid, h1, h2]
      | row xs =>
        simp only [V.kid] at hx ⊢
        obtain ⟨c, hc, hj⟩ := Option.bind_eq_some_iff.1 hx
        obtain ⟨h1, rfl⟩ := List.getElem?_eq_some_iff.1 hc
        have h2 := (List.getElem?_eq_some_iff.1 hj).1
        simp [V.upd, V.kid, h1, h2]
      | box c =>
        simp only [V.kid] at hx
        split at hx
        · rename_i h0
          have h2 := (List.getElem?_eq_some_iff.1 hx).1
          simp [V.upd, V.kid, h0, h2]
        · cases hx
      | _ => simp [V.kid] at hx
    rw [this]
    exact ih hx'
theorem V.get_nil (v : V) : v.get [] = some v := by cases v <;> rfl
theorem V.set_nil (v y : V) : v.set [] y = some y := by cases v <;> rfl
theorem V.kid_upd {v x : V} {s : Nat × Nat} (hx : v.kid s = some x) (y : V) : (v.upd s y).kid s = some y := by
  have h := V.get_set (p := [s]) (v := v) (y := y) (v1 := v.upd s y) (by rw [V.set_cons, hx]; simp [V.set_nil])
  rw [V.get_cons] at h
  obtain ⟨z, hz, h⟩ := Option.bind_eq_some_iff.1 h
  rw [V.get_nil] at h
  rw [hz, h]
theorem V.upd_upd {v x : V} {s : Nat × Nat} (hx : v.kid s = some x) (y z : V) : (v.upd s y).upd s z = v.upd s z := by
  obtain ⟨i, j⟩ := s
  cases v with
  | own e xs =>
    simp only [V.kid] at hx
    obtain ⟨c, hc, hj⟩ := Option.bind_eq_some_iff.1 hx
    have h1 := (List.getElem?_eq_some_iff.1 hc).1
    simp [V.upd, hc, h1]
  | row xs =>
    simp only [V.kid] at hx
    obtain ⟨c, hc, hj⟩ := Option.bind_eq_some_iff.1 hx
    have h1 := (List.getElem?_eq_some_iff.1 hc).1
    simp [V.upd, hc, h1]
  | box c => simp [V.upd]
  | _ => simp [V.kid] at hx
theorem V.set_set {p : Pt} : ∀ {v y v1 : V} (z : V), v.set p y = some v1 → v1.set p z = v.set p z := by
  induction p with
  | nil => intro v y v1 z h; rw [V.set_nil, V.set_nil]
  | cons s p ih =>
    intro v y v1 z h
    rw [V.set_cons] at h ⊢
    rw [V.set_cons]
    obtain ⟨x, hx, h⟩ := Option.bind_eq_some_iff.1 h
    obtain ⟨x', hx', rfl⟩ := Option.map_eq_some_iff.1 h
    rw [V.kid_upd hx, hx]
    simp only [Option.bind_some]
    rw [ih z hx']
    cases x.set p z <;> simp [V.upd_upd hx]
theorem V.idx_upd {v x : V} {s : Nat × Nat} (hx : v.kid s = some x) (y : V) (t : Nat × Nat) : (v.upd s y).idx t = v.idx t := by
  obtain ⟨i, j⟩ := s
  obtain ⟨i', j'⟩ := t
  cases v with
  | own e xs =>
    simp only [V.kid] at hx
    obtain ⟨c, hc, hj⟩ := Option.bind_eq_some_iff.1 hx
    obtain ⟨h1, rfl⟩ := List.getElem?_eq_some_iff.1 hc
    simp only [V.upd, V.idx, hc, Option.getD_some]
    by_cases h : i = i'
    · subst h; simp [h1]
    · simp [List.getElem?_set_ne h]
  | row xs =>
    simp only [V.kid] at hx
    obtain ⟨c, hc, hj⟩ := Option.bind_eq_some_iff.1 hx
    obtain ⟨h1, rfl⟩ := List.getElem?_eq_some_iff.1 hc
    simp only [V.upd, V.idx, hc, Option.getD_some]
    by_cases h : i = i'
    · subst h; simp [h1]
    · simp [List.getElem?_set_ne h]
  | box c => simp [V.upd, V.idx]
  | _ => simp [V.kid] at hx
theorem V.kid_upd_ne {v x : V} {s t : Nat × Nat} (hx : v.kid s = some x) (y : V) (hne : s ≠ t) : (v.upd s y).kid t = v.kid t := by
  obtain ⟨i, j⟩ := s
  obtain ⟨i', j'⟩ := t
  cases v with
  | own e xs =>
    simp only [V.kid] at hx
    obtain ⟨c, hc, hj⟩ := Option.bind_eq_some_iff.1 hx
    obtain ⟨h1, rfl⟩ := List.getElem?_eq_some_iff.1 hc
    simp only [V.upd, V.kid, hc, Option.getD_some]
    by_cases h : i = i'
    · subst h
      have hj' : j ≠ j' := fun h => hne (by rw [h])
      simp [h1, List.getElem?_set_ne hj']
    · simp [List.getElem?_set_ne h]
  | row xs =>
    simp only [V.kid] at hx
    obtain ⟨c, hc, hj⟩ := Option.bind_eq_some_iff.1 hx
    obtain ⟨h1, rfl⟩ := List.getElem?_eq_some_iff.1 hc
    simp only [V.upd, V.kid, hc, Option.getD_some]
    by_cases h : i = i'
    · subst h
      have hj' : j ≠ j' := fun h => hne (by rw [h])
      simp [h1, List.getElem?_set_ne hj']
    · simp [List.getElem?_set_ne h]
  | box c =>
    simp only [V.kid] at hx
    split at hx
    · rename_i h0
      subst h0
      simp only [V.upd, V.kid]
      split
      · rename_i h1
        subst h1
        have hj' : j ≠ j' := fun h => hne (by rw [h])
        simp [List.getElem?_set_ne hj']
      · rfl
    · cases hx
  | _ => simp [V.kid] at hx
theorem adrOf_set (w : World) {p : Pt} : ∀ {q : Pt} {v y v1 : V} {u : Value}, v.set p y = some v1 → ¬ (p <+: q ∧ p ≠ q) → adrOf w v1 u q = adrOf w v u q := by
  induction p with
  | nil =>
    intro q v y v1 u h hn
    have : q = [] := by
      cases q with
      | nil => rfl
      | cons s q => exact (hn ⟨List.nil_prefix, by simp⟩).elim
    subst this; rfl
  | cons s p ih =>
    intro q v y v1 u h hn
    rw [V.set_cons] at h
    obtain ⟨x, hx, h⟩ := Option.bind_eq_some_iff.1 h
    obtain ⟨x', hx', rfl⟩ := Option.map_eq_some_iff.1 h
    cases q with
    | nil => rfl
    | cons t q =>
      simp only [adrOf, V.idx_upd hx]
      cases q with
      | nil => rfl
      | cons t' q =>
        by_cases hst : s = t
        · subst hst
          rw [V.kid_upd hx, hx]
          simp only [Option.bind_some]
          have := fun u => ih (q := t' :: q) (u := u) hx' (fun hh => hn ⟨by simpa using hh.1, fun e => hh.2 (by simpa using e)⟩)
          simp only [this]
        · rw [V.kid_upd_ne hx x' hst]
theorem Own.hole {P : Program} {w : World} {ok : Nat → Prop} {p : Pt} : ∀ {v x : V} {u : Value} {F : Nat → Prop}, Own P w ok v u F → v.get p = some x →
    ∃ ux Fx v' F', valOf w v u p = some ux ∧ Own P w ok x ux Fx ∧ v.set p .dead = some v' ∧ Own P w ok v' u F' ∧ (∀ b, F b ↔ F' b ∨ Fx b) ∧ (∀ b, F' b → ¬ Fx b) ∧
      (p ≠ [] → ∃ ad, adrOf w v u p = some ad ∧ w.cell? ad = some ux ∧ F' ad.block ∧ w.frozen? ad = false ∧ ad.spot = none) := by
  induction p with
  | nil =>
    intro v x u F h hp
    rw [V.get_nil] at hp
    cases hp
    exact ⟨u, F, .dead, fun _ => False, rfl, h, V.set_nil _ _, .dead h.one (fun _ h => h), by simp, by simp, by simp⟩
  | cons s p ih =>
    intro v x u F h hp
    rw [V.get_cons] at hp
    obtain ⟨y, hy, hp⟩ := Option.bind_eq_some_iff.1 hp
    cases h with
    | dead h1 hF => simp [V.kid] at hy
    | d hF hr => simp [V.kid] at hy
    | nil hF => simp [V.kid] at hy
    | @blk _ _ g vs cur e fz _ Fs hh hg hc hd hb hF =>
      have hk := hh.kid hy
      have hj := (List.getElem?_eq_some_iff.1 hk).1
      have hjc : v.idx s < cur.size := Nat.lt_of_lt_of_le hj hh.len
      have hcur : cur[v.idx s]? = some cur[v.idx s] := Array.getElem?_eq_getElem hjc
      have hcell : w.cell? ⟨g, v.idx s, none⟩ = some cur[v.idx s] := by simp only [World.cell?, hg]; simp
      obtain ⟨ux, Fx, y', Fy', hval, hown, hset, hown', hF1, hF2, hadr⟩ := ih (hc _ _ _ hk hcur) hp
      refine ⟨ux, Fx, v.upd s y', fun b => b = g ∨ ∃ j, j < vs.length ∧ (if j = v.idx s then Fy' b else Fs j b), ?_, hown, by rw [V.set_cons, hy]; simp [hset],
        .blk (fun j b => if j = v.idx s then Fy' b else Fs j b) (hh.upd hy y') hg ?_ ?_ ?_ (by simp), ?_, ?_, ?_⟩
      · cases p with
        | nil =>
          simp only [valOf] at hval ⊢
          simp only [adrOf, hh.blk, Option.bind_some, hcell]
          exact hval
        | cons t p =>
          simp only [valOf] at hval ⊢
          rw [show adrOf w v u (s :: t :: p) = adrOf w y cur[v.idx s] (t :: p) by simp only [adrOf, hh.blk, Option.bind_some, hcell, hy]]
          exact hval
      · intro j z u' hz hu'
        by_cases hji : j = v.idx s
        · subst hji
          rw [hcur] at hu'; cases hu'
          rw [List.getElem?_set_self hj] at hz; cases hz
          simpa using hown'
        · rw [List.getElem?_set_ne (Ne.symm hji)] at hz
          simpa [hji] using hc j z u' hz hu'
      · intro i j b hi hj' hij h1 h2
        simp only [List.length_set] at hi hj'
        by_cases hi0 : i = v.idx s <;> by_cases hj0 : j = v.idx s
        · exact hij (hi0.trans hj0.symm)
        · simp only [hi0, hj0, if_true, if_false] at h1 h2
          exact hd _ _ b hj hj' (Ne.symm hj0) ((hF1 b).2 (.inl h1)) h2
        · simp only [hi0, hj0, if_true, if_false] at h1 h2
          exact hd _ _ b hi hj hi0 h1 ((hF1 b).2 (.inl h2))
        · simp only [hi0, hj0, if_false] at h1 h2
          exact hd _ _ b hi hj' hij h1 h2
      · intro j hj' h1
        simp only [List.length_set] at hj'
        by_cases hj0 : j = v.idx s
        · simp only [hj0, if_true] at h1
          exact hb _ hj ((hF1 g).2 (.inl h1))
        · simp only [hj0, if_false] at h1
          exact hb _ hj' h1
      · intro b
        rw [hF]
        constructor
        · rintro (h | ⟨j, hj', h⟩)
          · exact .inl (.inl h)
          · by_cases hj0 : j = v.idx s
            · subst hj0
              rcases (hF1 b).1 h with h | h
              · exact .inl (.inr ⟨_, hj, by simpa using h⟩)
              · exact .inr h
            · exact .inl (.inr ⟨j, hj', by simpa [hj0] using h⟩)
        · rintro ((h | ⟨j, hj', h⟩) | h)
          · exact .inl h
          · by_cases hj0 : j = v.idx s
            · simp only [hj0, if_true] at h
              exact .inr ⟨_, hj, (hF1 b).2 (.inl h)⟩
            · simp only [hj0, if_false] at h
              exact .inr ⟨j, hj', h⟩
          · exact .inr ⟨_, hj, (hF1 b).2 (.inr h)⟩
      · rintro b (h | ⟨j, hj', h⟩) hx
        · subst h
          exact hb _ hj ((hF1 b).2 (.inr hx))
        · by_cases hj0 : j = v.idx s
          · simp only [hj0, if_true] at h
            exact hF2 b h hx
          · simp only [hj0, if_false] at h
            exact hd _ _ b hj' hj hj0 h ((hF1 b).2 (.inr hx))
      · intro _
        cases p with
        | nil =>
          simp only [valOf] at hval
          cases hval
          refine ⟨⟨g, v.idx s, none⟩, by simp only [adrOf, hh.blk, Option.bind_some], hcell, .inl rfl, ?_, rfl⟩
          simp only [World.frozen?, hg]
          have := hh.thawed hj
          simpa using this
        | cons t p =>
          obtain ⟨ad, h1, h2, h3, h4, h5⟩ := hadr (by simp)
          exact ⟨ad, by simpa only [adrOf, hh.blk, Option.bind_some, hcell, hy] using h1, h2, .inr ⟨_, hj, by simpa using h3⟩, h4, h5⟩
theorem Own.fillSame {P : Program} {w : World} {ok : Nat → Prop} {p : Pt} : ∀ {v x v' : V} {u ux : Value} {F Fx : Nat → Prop}, Own P w ok v u F → v.get p = some .dead →
    valOf w v u p = some ux → Own P w ok x ux Fx → (∀ b, F b → ¬ Fx b) → v.set p x = some v' → Own P w ok v' u (fun b => F b ∨ Fx b) := by
  induction p with
  | nil =>
    intro v x v' u ux F Fx h hp hval hx hd hs
    rw [V.get_nil] at hp; cases hp
    rw [V.set_nil] at hs; cases hs
    simp only [valOf] at hval; cases hval
    cases h with
    | dead h1 hF => exact hx.ext fun b => by simp [hF b]
    | blk Fs hh => simp [Shape] at hh
  | cons s p ih =>
    intro v x v' u ux F Fx h hp hval hx hdd hs
    rw [V.get_cons] at hp
    obtain ⟨y, hy, hp⟩ := Option.bind_eq_some_iff.1 hp
    rw [V.set_cons, hy] at hs
    simp only [Option.bind_some] at hs
    obtain ⟨y', hy', rfl⟩ := Option.map_eq_some_iff.1 hs
    cases h with
    | dead h1 hF => simp [V.kid] at hy
    | d hF hr => simp [V.kid] at hy
    | nil hF => simp [V.kid] at hy
    | @blk _ _ g vs cur e fz _ Fs hh hg hc hd hb hF =>
      have hk := hh.kid hy
      have hj := (List.getElem?_eq_some_iff.1 hk).1
      have hjc : v.idx s < cur.size := Nat.lt_of_lt_of_le hj hh.len
      have hcur : cur[v.idx s]? = some cur[v.idx s] := Array.getElem?_eq_getElem hjc
      have hcell : w.cell? ⟨g, v.idx s, none⟩ = some cur[v.idx s] := by simp only [World.cell?, hg]; simp
      have hval' : valOf w y cur[v.idx s] p = some ux := by
        cases p with
        | nil => simp only [valOf, adrOf, hh.blk, Option.bind_some, hcell] at hval ⊢; exact hval
        | cons t p => simpa only [valOf, adrOf, hh.blk, Option.bind_some, hcell, hy] using hval
      have hF0 : ∀ b, Fs (v.idx s) b → F b := fun b hb => (hF b).2 (.inr ⟨_, hj, hb⟩)
      have ih' := ih (hc _ _ _ hk hcur) hp hval' hx (fun b hb => hdd b (hF0 b hb)) hy'
      refine .blk (fun j b => if j = v.idx s then Fs (v.idx s) b ∨ Fx b else Fs j b) (hh.upd hy y') hg ?_ ?_ ?_ ?_
      · intro j z u' hz hu'
        by_cases hji : j = v.idx s
        · subst hji
          rw [hcur] at hu'; cases hu'
          rw [List.getElem?_set_self hj] at hz; cases hz
          simpa using ih'
        · rw [List.getElem?_set_ne (Ne.symm hji)] at hz
          simpa [hji] using hc j z u' hz hu'
      · intro i j b hi hj' hij h1 h2
        simp only [List.length_set] at hi hj'
        by_cases hi0 : i = v.idx s <;> by_cases hj0 : j = v.idx s
        · exact hij (hi0.trans hj0.symm)
        · simp only [hi0, hj0, if_true, if_false] at h1 h2
          rcases h1 with h1 | h1
          · exact hd _ _ b hj hj' (Ne.symm hj0) h1 h2
          · exact hdd b ((hF b).2 (.inr ⟨j, hj', h2⟩)) h1
        · simp only [hi0, hj0, if_true, if_false] at h1 h2
          rcases h2 with h2 | h2
          · exact hd _ _ b hi hj hi0 h1 h2
          · exact hdd b ((hF b).2 (.inr ⟨i, hi, h1⟩)) h2
        · simp only [hi0, hj0, if_false] at h1 h2
          exact hd _ _ b hi hj' hij h1 h2
      · intro j hj' h1
        simp only [List.length_set] at hj'
        by_cases hj0 : j = v.idx s
        · simp only [hj0, if_true] at h1
          rcases h1 with h1 | h1
          · exact hb _ hj h1
          · exact hdd g ((hF g).2 (.inl rfl)) h1
        · simp only [hj0, if_false] at h1
          exact hb _ hj' h1
      · intro b
        simp only [List.length_set]
        constructor
        · rintro (h | h)
          · rcases (hF b).1 h with h | ⟨j, hj', h⟩
            · exact .inl h
            · refine .inr ⟨j, hj', ?_⟩
              by_cases hj0 : j = v.idx s
              · subst hj0; simpa using .inl h
              · simpa [hj0] using h
          · exact .inr ⟨_, hj, by simpa using .inr h⟩
        · rintro (h | ⟨j, hj', h⟩)
          · exact .inl ((hF b).2 (.inl h))
          · by_cases hj0 : j = v.idx s
            · simp only [hj0, if_true] at h
              exact h.imp (fun h => hF0 b h) id
            · simp only [hj0, if_false] at h
              exact .inl ((hF b).2 (.inr ⟨j, hj', h⟩))
end Go.Mir

set_option linter.unusedVariables false
set_option linter.unusedSimpArgs false
namespace Go.Mir
open Go.RowKit
theorem adrOf_step {w : World} {v y : V} {u uy : Value} {g : Nat} {s t : Nat × Nat} {p : Pt} (hb : hdBlk u = some g) (hc : w.cell? ⟨g, v.idx s, none⟩ = some uy) (hy : v.kid s = some y) :
    adrOf w v u (s :: t :: p) = adrOf w y uy (t :: p) := by
  show ((hdBlk u).bind fun g => (w.cell? ⟨g, v.idx s, none⟩).bind fun u' => (v.kid s).bind fun v' => adrOf w v' u' (t :: p)) = _
  rw [hb]; simp only [Option.bind_some]; rw [hc]; simp only [Option.bind_some]; rw [hy]; rfl
theorem adrOf_mem {P : Program} {w : World} {ok : Nat → Prop} {p : Pt} : ∀ {v : V} {u : Value} {F : Nat → Prop} {ad : Addr}, Own P w ok v u F → (v.get p).isSome → adrOf w v u p = some ad → F ad.block ∧ ad.spot = none ∧ ∃ c, w.cell? ad = some c := by
  induction p with
  | nil => intro v u F ad h hg ha; simp [adrOf] at ha
  | cons s p ih =>
    intro v u F ad h hg ha
    rw [V.get_cons] at hg
    cases hy : v.kid s with
    | none => simp [hy] at hg
    | some y =>
      simp only [hy, Option.bind_some] at hg
      cases h with
      | dead h1 hF => simp [V.kid] at hy
      | d hF hr => simp [V.kid] at hy
      | nil hF => simp [V.kid] at hy
      | @blk _ _ g vs cur e fz _ Fs hh hg' hc hd hb hF =>
        have hk := hh.kid hy
        have hj := (List.getElem?_eq_some_iff.1 hk).1
        have hjc : v.idx s < cur.size := Nat.lt_of_lt_of_le hj hh.len
        have hcur : cur[v.idx s]? = some cur[v.idx s] := Array.getElem?_eq_getElem hjc
        have hcell : w.cell? ⟨g, v.idx s, none⟩ = some cur[v.idx s] := by simp only [World.cell?, hg']; simp [hcur]
        cases p with
        | nil =>
          simp only [adrOf, hh.blk, Option.bind_some] at ha
          cases ha
          exact ⟨(hF g).2 (.inl rfl), rfl, _, hcell⟩
        | cons t p =>
          rw [adrOf_step hh.blk hcell hy] at ha
          obtain ⟨h1, h2⟩ := ih (hc _ _ _ hk hcur) hg ha
          exact ⟨(hF _).2 (.inr ⟨_, hj, h1⟩), h2⟩
theorem heap_setCell_at {w : World} {ad : Addr} {x : Value} {cur : Array Value} {e : TypeId} {fz : Nat × Nat} (h : w.heap[ad.block]? = some (.cells cur e fz)) (hs : ad.spot = none) :
    (w.setCell ad x).heap[ad.block]? = some (.cells (cur.setIfInBounds ad.off x) e fz) := by
  simp only [World.setCell, Array.getElem?_modify, h, hs]
  simp
theorem Own.fill {P : Program} {w : World} {ok : Nat → Prop} {p : Pt} : ∀ {v x v' : V} {u ux : Value} {F Fx : Nat → Prop} {ad : Addr}, Own P w ok v u F → (∀ b, F b → ¬ ok b) → v.get p = some .dead →
    adrOf w v u p = some ad → Own P (w.setCell ad ux) ok x ux Fx → (∀ b, F b → ¬ Fx b) → v.set p x = some v' → Own P (w.setCell ad ux) ok v' u (fun b => F b ∨ Fx b) := by
  induction p with
  | nil => intro v x v' u ux F Fx ad h hok hp ha; simp [adrOf] at ha
  | cons s p ih =>
    intro v x v' u ux F Fx ad h hok hp ha hx hdd hs
    have hmem := adrOf_mem h (by simp [hp]) ha
    rw [V.get_cons] at hp
    obtain ⟨y, hy, hp⟩ := Option.bind_eq_some_iff.1 hp
    rw [V.set_cons, hy] at hs
    simp only [Option.bind_some] at hs
    obtain ⟨y', hy', rfl⟩ := Option.map_eq_some_iff.1 hs
    have hokf : ∀ b, ok b → b < w.heap.size → ok b ∧ (w.setCell ad ux).heap[b]? = w.heap[b]? := fun b hb _ =>
      ⟨hb, Below.heap_setCell w ad ux b (fun e => hok _ hmem.1 (e ▸ hb))⟩
    cases h with
    | dead h1 hF => simp [V.kid] at hy
    | d hF hr => simp [V.kid] at hy
    | nil hF => simp [V.kid] at hy
    | @blk _ _ g vs cur e fz _ Fs hh hg hc hd hb hF =>
      have hk := hh.kid hy
      have hj := (List.getElem?_eq_some_iff.1 hk).1
      have hjc : v.idx s < cur.size := Nat.lt_of_lt_of_le hj hh.len
      have hcur : cur[v.idx s]? = some cur[v.idx s] := Array.getElem?_eq_getElem hjc
      have hcell : w.cell? ⟨g, v.idx s, none⟩ = some cur[v.idx s] := by simp only [World.cell?, hg]; simp [hcur]
      have hF0 : ∀ j b, j < vs.length → Fs j b → F b := fun j b hj hb => (hF b).2 (.inr ⟨j, hj, hb⟩)
      have hfs : ∀ i j b, i < vs.length → j < vs.length → (if i = v.idx s then Fs (v.idx s) b ∨ Fx b else Fs i b) → i ≠ j → ¬ (if j = v.idx s then Fs (v.idx s) b ∨ Fx b else Fs j b) := by
        intro i j b hi hj' h1 hij h2
        by_cases hi0 : i = v.idx s <;> by_cases hj0 : j = v.idx s
        · exact hij (hi0.trans hj0.symm)
        · simp only [hi0, hj0, if_true, if_false] at h1 h2
          rcases h1 with h1 | h1
          · exact hd _ _ b hj hj' (Ne.symm hj0) h1 h2
          · exact hdd b (hF0 _ _ hj' h2) h1
        · simp only [hi0, hj0, if_true, if_false] at h1 h2
          rcases h2 with h2 | h2
          · exact hd _ _ b hi hj hi0 h1 h2
          · exact hdd b (hF0 _ _ hi h1) h2
        · simp only [hi0, hj0, if_false] at h1 h2
          exact hd _ _ b hi hj' hij h1 h2
      have hbs : ∀ j, j < vs.length → ¬ (if j = v.idx s then Fs (v.idx s) g ∨ Fx g else Fs j g) := by
        intro j hj' h1
        by_cases hj0 : j = v.idx s
        · simp only [hj0, if_true] at h1
          rcases h1 with h1 | h1
          · exact hb _ hj h1
          · exact hdd g ((hF g).2 (.inl rfl)) h1
        · simp only [hj0, if_false] at h1
          exact hb _ hj' h1
      have hFs : ∀ b, (F b ∨ Fx b) ↔ b = g ∨ ∃ j, j < vs.length ∧ (if j = v.idx s then Fs (v.idx s) b ∨ Fx b else Fs j b) := by
        intro b
        constructor
        · rintro (h | h)
          · rcases (hF b).1 h with h | ⟨j, hj', h⟩
            · exact .inl h
            · refine .inr ⟨j, hj', ?_⟩
              by_cases hj0 : j = v.idx s
              · subst hj0; simpa using .inl h
              · simpa [hj0] using h
          · exact .inr ⟨_, hj, by simpa using .inr h⟩
        · rintro (h | ⟨j, hj', h⟩)
          · exact .inl ((hF b).2 (.inl h))
          · by_cases hj0 : j = v.idx s
            · simp only [hj0, if_true] at h
              exact h.imp (fun h => hF0 _ b hj h) id
            · simp only [hj0, if_false] at h
              exact .inl (hF0 _ b hj' h)
      cases p with
      | nil =>
        rw [V.get_nil] at hp; cases hp
        rw [V.set_nil] at hy'; cases hy'
        simp only [adrOf, hh.blk, Option.bind_some] at ha
        cases ha
        refine .blk (fun j b => if j = v.idx s then Fs (v.idx s) b ∨ Fx b else Fs j b) ((hh.upd hy x).cur (cur' := cur.setIfInBounds (v.idx s) ux) (by simp)) (heap_setCell_at hg rfl) ?_ ?_ ?_ ?_
        · intro j z u' hz hu'
          by_cases hji : j = v.idx s
          · subst hji
            rw [List.getElem?_set_self hj] at hz; cases hz
            simp [hjc] at hu'
            subst hu'
            have hdead : ∀ b, ¬ Fs (v.idx s) b := by
              have := hc _ _ _ hk hcur
              cases this with
              | dead h1 hF => exact hF
              | blk _ hh => simp [Shape] at hh
            exact hx.ext fun b => by simp [hdead b]
          · rw [List.getElem?_set_ne (Ne.symm hji)] at hz
            rw [Array.getElem?_setIfInBounds_ne (Ne.symm hji)] at hu'
            have hjl := (List.getElem?_eq_some_iff.1 hz).1
            simp only [hji, if_false]
            exact (hc j z u' hz hu').frame (fun b hb' => Below.heap_setCell w _ ux b (fun e => hb j hjl (by simpa [e] using hb'))) hokf
        · intro i j b hi hj' hij h1 h2
          simp only [List.length_set] at hi hj'
          exact hfs i j b hi hj' h1 hij h2
        · intro j hj'; simp only [List.length_set] at hj'; exact hbs j hj'
        · intro b; simp only [List.length_set]; exact hFs b
      | cons t p =>
        rw [adrOf_step hh.blk hcell hy] at ha
        have hm := adrOf_mem (hc _ _ _ hk hcur) (by simp [hp]) ha
        have hne : ad.block ≠ g := fun e => hb _ hj (e ▸ hm.1)
        have ih' := ih (hc _ _ _ hk hcur) (fun b hb' => hok b (hF0 _ b hj hb')) hp ha hx (fun b hb' => hdd b (hF0 _ b hj hb')) hy'
        refine .blk (fun j b => if j = v.idx s then Fs (v.idx s) b ∨ Fx b else Fs j b) (hh.upd hy y') ((Below.heap_setCell w ad ux g (Ne.symm hne)).trans hg) ?_ ?_ ?_ ?_
        · intro j z u' hz hu'
          by_cases hji : j = v.idx s
          · subst hji
            rw [hcur] at hu'; cases hu'
            rw [List.getElem?_set_self hj] at hz; cases hz
            simpa using ih'
          · rw [List.getElem?_set_ne (Ne.symm hji)] at hz
            have hjl := (List.getElem?_eq_some_iff.1 hz).1
            simp only [hji, if_false]
            exact (hc j z u' hz hu').frame (fun b hb' => Below.heap_setCell w _ ux b (fun e => hd _ _ _ hj hjl (Ne.symm hji) hm.1 (e ▸ hb'))) hokf
        · intro i j b hi hj' hij h1 h2
          simp only [List.length_set] at hi hj'
          exact hfs i j b hi hj' h1 hij h2
        · intro j hj'; simp only [List.length_set] at hj'; exact hbs j hj'
        · intro b; simp only [List.length_set]; exact hFs b
theorem Shape.idx_inj {P : Program} {v : V} {u : Value} {g : Nat} {vs : List V} {cur : Array Value} {e : TypeId} {fz : Nat × Nat} (h : Shape P v u g vs cur e fz) {s t : Nat × Nat} {x y : V}
    (hs : v.kid s = some x) (ht : v.kid t = some y) (he : v.idx s = v.idx t) : s = t := by
  obtain ⟨i, j⟩ := s
  obtain ⟨i', j'⟩ := t
  have key : ∀ (xs : List (List V)) (sz : Nat), (∀ c ∈ xs, c.length = sz) → (xs[i]?).bind (·[j]?) = some x → (xs[i']?).bind (·[j']?) = some y →
      i * ((xs[i]?).getD []).length + j = i' * ((xs[i']?).getD []).length + j' → (i, j) = (i', j') := by
    intro xs sz hsz h1 h2 he
    obtain ⟨c, hc, hj⟩ := Option.bind_eq_some_iff.1 h1
    obtain ⟨c', hc', hj'⟩ := Option.bind_eq_some_iff.1 h2
    have l1 := hsz c (List.mem_of_getElem? hc)
    have l2 := hsz c' (List.mem_of_getElem? hc')
    have b1 := (List.getElem?_eq_some_iff.1 hj).1
    have b2 := (List.getElem?_eq_some_iff.1 hj').1
    simp only [hc, hc', Option.getD_some, l1, l2] at he
    have hz : 0 < sz := by omega
    have e1 : i = i' := by
      have a1 : (i * sz + j) / sz = i := by rw [Nat.mul_comm, Nat.mul_add_div hz, Nat.div_eq_of_lt (by omega)]; rfl
      have a2 : (i' * sz + j') / sz = i' := by rw [Nat.mul_comm, Nat.mul_add_div hz, Nat.div_eq_of_lt (by omega)]; rfl
      rw [← a1, ← a2, he]
    subst e1
    simp only [Prod.mk.injEq, true_and]
    omega
  cases v with
  | own e' xs =>
    obtain ⟨_, _, _, hsz, _⟩ := h
    exact key xs _ hsz hs ht he
  | row xs =>
    obtain ⟨hsz, _⟩ := h
    exact key xs _ hsz hs ht he
  | box c =>
    simp only [V.kid] at hs ht
    split at hs
    · split at ht
      · rename_i h1 h2
        subst h1; subst h2
        simpa [V.idx] using he
      · cases ht
    · cases hs
  | _ => simp [V.kid] at hs
theorem adrOf_inj {P : Program} {w : World} {ok : Nat → Prop} {p : Pt} : ∀ {q : Pt} {v : V} {u : Value} {F : Nat → Prop} {ad : Addr}, Own P w ok v u F → (v.get p).isSome → (v.get q).isSome →
    adrOf w v u p = some ad → adrOf w v u q = some ad → p = q := by
  induction p with
  | nil => intro q v u F ad h hp hq ha; simp [adrOf] at ha
  | cons s p ih =>
    intro q v u F ad h hp hq ha hb'
    cases q with
    | nil => simp [adrOf] at hb'
    | cons t q =>
      rw [V.get_cons] at hp hq
      cases hy : v.kid s with
      | none => simp [hy] at hp
      | some y =>
        cases hz : v.kid t with
        | none => simp [hz] at hq
        | some z =>
          simp only [hy, hz, Option.bind_some] at hp hq
          cases h with
          | dead h1 hF => simp [V.kid] at hy
          | d hF hr => simp [V.kid] at hy
          | nil hF => simp [V.kid] at hy
          | @blk _ _ g vs cur e fz _ Fs hh hg hc hd hb hF =>
            have hk := hh.kid hy
            have hj := (List.getElem?_eq_some_iff.1 hk).1
            have hjc : v.idx s < cur.size := Nat.lt_of_lt_of_le hj hh.len
            have hcur : cur[v.idx s]? = some cur[v.idx s] := Array.getElem?_eq_getElem hjc
            have hcell : w.cell? ⟨g, v.idx s, none⟩ = some cur[v.idx s] := by simp only [World.cell?, hg]; simp [hcur]
            have hk2 := hh.kid hz
            have hj2 := (List.getElem?_eq_some_iff.1 hk2).1
            have hjc2 : v.idx t < cur.size := Nat.lt_of_lt_of_le hj2 hh.len
            have hcur2 : cur[v.idx t]? = some cur[v.idx t] := Array.getElem?_eq_getElem hjc2
            have hcell2 : w.cell? ⟨g, v.idx t, none⟩ = some cur[v.idx t] := by simp only [World.cell?, hg]; simp [hcur2]
            cases p with
            | nil =>
              simp only [adrOf, hh.blk, Option.bind_some] at ha
              cases ha
              cases q with
              | nil =>
                simp only [adrOf, hh.blk, Option.bind_some, Option.some.injEq, Addr.mk.injEq, and_true, true_and] at hb'
                rw [hh.idx_inj hy hz hb'.symm]
              | cons t' q =>
                rw [adrOf_step hh.blk hcell2 hz] at hb'
                exact (hb _ hj2 (adrOf_mem (hc _ _ _ hk2 hcur2) hq hb').1).elim
            | cons s' p =>
              rw [adrOf_step hh.blk hcell hy] at ha
              have hm := adrOf_mem (hc _ _ _ hk hcur) hp ha
              cases q with
              | nil =>
                simp only [adrOf, hh.blk, Option.bind_some] at hb'
                cases hb'
                exact (hb _ hj hm.1).elim
              | cons t' q =>
                rw [adrOf_step hh.blk hcell2 hz] at hb'
                have hm2 := adrOf_mem (hc _ _ _ hk2 hcur2) hq hb'
                by_cases hst : v.idx s = v.idx t
                · have := hh.idx_inj hy hz hst
                  subst this
                  rw [hy] at hz; cases hz
                  rw [ih (hc _ _ _ hk hcur) hp hq ha hb']
                · exact (hd _ _ _ hj hj2 hst hm.1 hm2.1).elim
theorem adrOf_setCell {P : Program} {w : World} {ok : Nat → Prop} {ad : Addr} {x : Value} : ∀ {q : Pt} {v : V} {u : Value} {F : Nat → Prop}, Own P w ok v u F →
    (∀ q1 q2, q = q1 ++ q2 → q1 ≠ [] → q2 ≠ [] → (v.get q1).isSome → adrOf w v u q1 ≠ some ad) → adrOf (w.setCell ad x) v u q = adrOf w v u q := by
  intro q
  induction q with
  | nil => intros; rfl
  | cons s q ih =>
    intro v u F h hn
    cases q with
    | nil => rfl
    | cons t q =>
      cases hy : v.kid s with
      | none =>
        simp only [adrOf, hy]
        cases hdBlk u with
        | none => rfl
        | some g => simp only [Option.bind_some, Option.bind_none]; cases (w.setCell ad x).cell? ⟨g, v.idx s, none⟩ <;> cases w.cell? ⟨g, v.idx s, none⟩ <;> rfl
      | some y =>
        cases h with
        | dead h1 hF => simp [V.kid] at hy
        | d hF hr => simp [V.kid] at hy
        | nil hF => simp [V.kid] at hy
        | @blk _ _ g vs cur e fz _ Fs hh hg hc hd hb hF =>
          have hk := hh.kid hy
          have hj := (List.getElem?_eq_some_iff.1 hk).1
          have hjc : v.idx s < cur.size := Nat.lt_of_lt_of_le hj hh.len
          have hcur : cur[v.idx s]? = some cur[v.idx s] := Array.getElem?_eq_getElem hjc
          have hcell : w.cell? ⟨g, v.idx s, none⟩ = some cur[v.idx s] := by simp only [World.cell?, hg]; simp [hcur]
          have h1 := hn [s] (t :: q) rfl (by simp) (by simp) (by rw [V.get_cons, hy]; simp [V.get_nil])
          simp only [adrOf, hh.blk, Option.bind_some, ne_eq, Option.some.injEq] at h1
          rw [adrOf_step hh.blk hcell hy, adrOf_step hh.blk ((World.cell?_setCell_other (w := w) ad ⟨g, v.idx s, none⟩ x (Ne.symm h1)).trans hcell) hy]
          refine ih (hc _ _ _ hk hcur) fun q1 q2 he h1 h2 h3 => ?_
          have := hn (s :: q1) q2 (by rw [he]; rfl) (by simp) h2 (by rw [V.get_cons, hy]; simpa using h3)
          cases q1 with
          | nil => exact (h1 rfl).elim
          | cons s' q1 => rwa [adrOf_step hh.blk hcell hy] at this
theorem adrOf_frame {P : Program} {w w' : World} {ok : Nat → Prop} : ∀ {q : Pt} {v : V} {u : Value} {F : Nat → Prop}, Own P w ok v u F → (∀ b, F b → w'.heap[b]? = w.heap[b]?) → adrOf w' v u q = adrOf w v u q := by
  intro q
  induction q with
  | nil => intros; rfl
  | cons s q ih =>
    intro v u F h hf
    cases q with
    | nil => rfl
    | cons t q =>
      cases hy : v.kid s with
      | none =>
        simp only [adrOf, hy]
        cases hdBlk u with
        | none => rfl
        | some g => simp only [Option.bind_some, Option.bind_none]; cases w'.cell? ⟨g, v.idx s, none⟩ <;> cases w.cell? ⟨g, v.idx s, none⟩ <;> rfl
      | some y =>
        cases h with
        | dead h1 hF => simp [V.kid] at hy
        | d hF hr => simp [V.kid] at hy
        | nil hF => simp [V.kid] at hy
        | @blk _ _ g vs cur e fz _ Fs hh hg hc hd hb hF =>
          have hk := hh.kid hy
          have hj := (List.getElem?_eq_some_iff.1 hk).1
          have hjc : v.idx s < cur.size := Nat.lt_of_lt_of_le hj hh.len
          have hcur : cur[v.idx s]? = some cur[v.idx s] := Array.getElem?_eq_getElem hjc
          have hcell : w.cell? ⟨g, v.idx s, none⟩ = some cur[v.idx s] := by simp only [World.cell?, hg]; simp [hcur]
          have hcell' : w'.cell? ⟨g, v.idx s, none⟩ = w.cell? ⟨g, v.idx s, none⟩ := World.cell?_of_block (w := w) (hf g ((hF g).2 (.inl rfl)))
          rw [adrOf_step hh.blk hcell hy, adrOf_step hh.blk (hcell'.trans hcell) hy]
          exact ih (hc _ _ _ hk hcur) fun b hb => hf b ((hF b).2 (.inr ⟨_, hj, hb⟩))
end Go.Mir

set_option linter.unusedVariables false
set_option linter.unusedSimpArgs false
namespace Go.Mir
open Go.RowKit
def cellsOf (a : Bool) (x : Value) : List Value := if a then (match x with | .agg cs => cs.toList | _ => []) else [x]
def OwnL (P : Program) (w : World) (ok : Nat → Prop) (cs : List V) (us : List Value) (F : Nat → Prop) : Prop :=
  cs.length = us.length ∧ ∃ Fs : Nat → Nat → Prop, (∀ (j : Nat) (v : V) (u : Value), cs[j]? = some v → us[j]? = some u → Own P w ok v u (Fs j)) ∧
    (∀ i j b, i < cs.length → j < cs.length → i ≠ j → Fs i b → ¬ Fs j b) ∧ ∀ b, F b ↔ ∃ j, j < cs.length ∧ Fs j b
def VS (P : Program) (w : World) (ok : Nat → Prop) (a : Bool) (cs : List V) (x : Value) (F : Nat → Prop) : Prop :=
  (a = true → ∃ arr, x = .agg arr) ∧ OwnL P w ok cs (cellsOf a x) F
def PlA (w : World) (e : Env) (tm : Nat → Value) (r k : Nat) (p : Pt) (ad : Addr) : Prop :=
  ∃ a cs v u, e.get r = .vs a cs ∧ cs[k]? = some v ∧ (cellsOf a (tm r))[k]? = some u ∧ adrOf w v u p = some ad
def PlV (w : World) (e : Env) (tm : Nat → Value) (r k : Nat) (p : Pt) (x : Value) : Prop :=
  ∃ a cs v u, e.get r = .vs a cs ∧ cs[k]? = some v ∧ (cellsOf a (tm r))[k]? = some u ∧ (v.get p).isSome ∧ valOf w v u p = some x
def AdrR (w : World) (ok : Nat → Prop) (c : List D) (x : Value) : Prop :=
  c ≠ [] ∧ ∃ b o, ∃ us : List Value, x = .pointer (some ⟨b, o, none⟩) ∧ ok b ∧ us.length = c.length ∧ (∀ (j : Nat) (u : Value), us[j]? = some u → w.cell? ⟨b, o + j, none⟩ = some u) ∧
    ∀ (j : Nat) (d : D) (u : Value), c[j]? = some d → us[j]? = some u → RO w ok d u
def CapR (P : Program) (w : World) (ok : Nat → Prop) (e : Env) (tm : Nat → Value) (t : T) (x : Value) : Prop :=
  match t with
  | .vs a cs => cs.all V.isD = true ∧ VS P w ok a cs x (fun _ => False)
  | .at_ r k p => ∃ ad, x = .pointer (some ad) ∧ PlA w e tm r k p ad
  | .adr c => AdrR w ok c x
  | _ => False
def TR (P : Program) (w : World) (ok : Nat → Prop) (e : Env) (tm : Nat → Value) (t : T) (x : Value) (F : Nat → Prop) : Prop :=
  match t with
  | .dead => ∀ b, ¬ F b
  | .vs a cs => VS P w ok a cs x F
  | .tup ts => ∃ xs : List Value, x = .tuple xs.toArray ∧ ts.length = xs.length ∧ ∃ Fs : Nat → Nat → Prop,
      (∀ (j : Nat) (c : Bool × List V) (x : Value), ts[j]? = some c → xs[j]? = some x → VS P w ok c.1 c.2 x (Fs j)) ∧
      (∀ i j b, i < ts.length → j < ts.length → i ≠ j → Fs i b → ¬ Fs j b) ∧ ∀ b, F b ↔ ∃ j, j < ts.length ∧ Fs j b
  | .at_ r k p => (∀ b, ¬ F b) ∧ ∃ ad, x = .pointer (some ad) ∧ PlA w e tm r k p ad
  | .ref r k p => (∀ b, ¬ F b) ∧ PlV w e tm r k p x
  | .adr c => (∀ b, ¬ F b) ∧ AdrR w ok c x
  | .refs r k p n => (∀ b, ¬ F b) ∧ 0 < n ∧ ∃ arr : Array Value, x = .agg arr ∧ arr.size = n ∧ ∀ (j : Nat) (u : Value), arr[j]? = some u → ∃ q, p.shift j = some q ∧ PlV w e tm r k q u
  | .fn f caps => (∀ b, ¬ F b) ∧ ∃ vs : List Value, x = .func (.func f) #[] vs.toArray ∧ caps.length = vs.length ∧ ∀ (j : Nat) (t : T) (u : Value), caps[j]? = some t → vs[j]? = some u → CapR P w ok e tm t u
structure Ctx where
  P : Program
  X : Nat → Prop
  w0 : World
  F0 : Nat → Prop
  rt : Views
  hX : ∀ b, X b → b < w0.heap.size
def okOf (X H : Nat → Prop) (Fs : Nat → Nat → Prop) (b : Nat) : Prop := ¬ X b ∧ ¬ H b ∧ ∀ t, ¬ Fs t b
structure Rel (C : Ctx) (H : Nat → Prop) (e : Env) (tm : Nat → Value) (w : World) (Fs : Nat → Nat → Prop) : Prop where
  tr : ∀ t, TR C.P w (okOf C.X H Fs) e tm (e.get t) (tm t) (Fs t)
  dj : ∀ t t' b, t ≠ t' → Fs t b → ¬ Fs t' b
  hx : ∀ t b, Fs t b → ¬ C.X b ∧ ¬ H b
  vw : ∀ u r, r ∈ (e.get u).roots → (u, r) ∈ C.rt ∧ r ≠ u
  gr : Grow C.F0 C.w0 w
  nw : ∀ t b, Fs t b → C.F0 b ∨ C.w0.heap.size ≤ b
  hn : ∀ b, H b → ¬ C.X b ∧ (C.F0 b ∨ C.w0.heap.size ≤ b) ∧ b < w.heap.size
theorem T.root_at {f : FuncId} {caps : List T} {r k : Nat} {p : Pt} (h : T.at_ r k p ∈ caps) : r ∈ (T.fn f caps).roots := by
  simp only [T.roots]
  induction caps with
  | nil => cases h
  | cons c cs ih =>
    simp only [T.roots.rootsL, List.mem_append]
    rcases List.mem_cons.1 h with rfl | h
    · exact .inl (by simp [T.roots])
    · exact .inr (ih h)
section
variable {P : Program} {w w' : World} {ok ok' : Nat → Prop}
theorem OwnL.frame {cs : List V} {us : List Value} {F : Nat → Prop} (h : OwnL P w ok cs us F) (hf : ∀ b, F b → w'.heap[b]? = w.heap[b]?)
    (hk : ∀ b, ok b → b < w.heap.size → ok' b ∧ w'.heap[b]? = w.heap[b]?) : OwnL P w' ok' cs us F := by
  obtain ⟨hl, Fs, h1, h2, h3⟩ := h
  exact ⟨hl, Fs, fun j v u hv hu => (h1 j v u hv hu).frame (fun b hb => hf b ((h3 b).2 ⟨j, (List.getElem?_eq_some_iff.1 hv).1, hb⟩)) hk, h2, h3⟩
theorem OwnL.lt {cs : List V} {us : List Value} {F : Nat → Prop} (h : OwnL P w ok cs us F) : ∀ b, F b → b < w.heap.size := by
  obtain ⟨hl, Fs, h1, h2, h3⟩ := h
  intro b hb
  obtain ⟨j, hj, hb⟩ := (h3 b).1 hb
  exact (h1 j cs[j] us[j] (List.getElem?_eq_getElem hj) (List.getElem?_eq_getElem (by omega))).lt b hb
theorem VS.frame {a : Bool} {cs : List V} {x : Value} {F : Nat → Prop} (h : VS P w ok a cs x F) (hf : ∀ b, F b → w'.heap[b]? = w.heap[b]?)
    (hk : ∀ b, ok b → b < w.heap.size → ok' b ∧ w'.heap[b]? = w.heap[b]?) : VS P w' ok' a cs x F := ⟨h.1, h.2.frame hf hk⟩
theorem OwnL.ext {cs : List V} {us : List Value} {F G : Nat → Prop} (h : OwnL P w ok cs us F) (hG : ∀ b, G b ↔ F b) : OwnL P w ok cs us G := by
  have : G = F := funext fun b => propext (hG b)
  exact this ▸ h
theorem VS.ext {a : Bool} {cs : List V} {x : Value} {F G : Nat → Prop} (h : VS P w ok a cs x F) (hG : ∀ b, G b ↔ F b) : VS P w ok a cs x G := ⟨h.1, h.2.ext hG⟩
theorem TR.ext {e : Env} {tm : Nat → Value} {t : T} {x : Value} {F G : Nat → Prop} (h : TR P w ok e tm t x F) (hG : ∀ b, G b ↔ F b) : TR P w ok e tm t x G := by
  have : G = F := funext fun b => propext (hG b)
  exact this ▸ h
theorem AdrR.mono {c : List D} {x : Value} (h : AdrR w ok c x) (hk : ∀ b, ok b → b < w.heap.size → ok' b ∧ w'.heap[b]? = w.heap[b]?) : AdrR w' ok' c x := by
  obtain ⟨h0, b, o, us, rfl, hb, hl, hu, hr⟩ := h
  have hlt : b < w.heap.size := by
    have : 0 < us.length := by rw [hl]; exact List.length_pos_iff.2 h0
    exact World.block_lt_of_cell? w _ (hu 0 _ (List.getElem?_eq_getElem this))
  exact ⟨h0, b, o, us, rfl, (hk b hb hlt).1, hl, fun j u hj => by rw [World.cell?_of_block (w := w) (hk b hb hlt).2]; exact hu j u hj, fun j d u hd hu => (hr j d u hd hu).mono hk⟩
theorem TR.lt {e : Env} {tm : Nat → Value} {t : T} {x : Value} {F : Nat → Prop} (h : TR P w ok e tm t x F) : ∀ b, F b → b < w.heap.size := by
  cases t with
  | dead => exact fun b hb => (h b hb).elim
  | vs a cs => exact h.2.lt
  | tup ts =>
    obtain ⟨xs, rfl, hl, Fs, h1, h2, h3⟩ := h
    intro b hb
    obtain ⟨j, hj, hb⟩ := (h3 b).1 hb
    exact (h1 j ts[j] xs[j] (List.getElem?_eq_getElem hj) (List.getElem?_eq_getElem (by omega))).2.lt b hb
  | at_ r k p => exact fun b hb => (h.1 b hb).elim
  | ref r k p => exact fun b hb => (h.1 b hb).elim
  | refs r k p n => exact fun b hb => (h.1 b hb).elim
  | adr c => exact fun b hb => (h.1 b hb).elim
  | fn f c => exact fun b hb => (h.1 b hb).elim
theorem TR.change {e e' : Env} {tm tm' : Nat → Value} {t : T} {x : Value} {F : Nat → Prop} (h : TR P w ok e tm t x F) (hf : ∀ b, F b → w'.heap[b]? = w.heap[b]?)
    (hk : ∀ b, ok b → b < w.heap.size → ok' b ∧ w'.heap[b]? = w.heap[b]?)
    (ha : ∀ r k p ad, r ∈ t.roots → (t = .at_ r k p ∨ ∃ f caps, t = .fn f caps ∧ .at_ r k p ∈ caps) → PlA w e tm r k p ad → PlA w' e' tm' r k p ad)
    (hv : ∀ r k p x, r ∈ t.roots → (t = .ref r k p ∨ ∃ p0 n, t = .refs r k p0 n) → PlV w e tm r k p x → PlV w' e' tm' r k p x) : TR P w' ok' e' tm' t x F := by
  cases t with
  | dead => exact h
  | vs a cs => exact VS.frame h hf hk
  | tup ts =>
    obtain ⟨xs, rfl, hl, Fs, h1, h2, h3⟩ := h
    exact ⟨xs, rfl, hl, Fs, fun j c x hc hx => (h1 j c x hc hx).frame (fun b hb => hf b ((h3 b).2 ⟨j, (List.getElem?_eq_some_iff.1 hc).1, hb⟩)) hk, h2, h3⟩
  | at_ r k p =>
    obtain ⟨hF, ad, rfl, hp⟩ := h
    exact ⟨hF, ad, rfl, ha r k p ad (by simp [T.roots]) (.inl rfl) hp⟩
  | ref r k p => exact ⟨h.1, hv r k p x (by simp [T.roots]) (.inl rfl) h.2⟩
  | refs r k p n =>
    obtain ⟨hF, hn, arr, hx, hs, hall⟩ := h
    exact ⟨hF, hn, arr, hx, hs, fun j u hj => by
      obtain ⟨q, hq, hp⟩ := hall j u hj
      exact ⟨q, hq, hv r k q u (by simp [T.roots]) (.inr ⟨p, n, rfl⟩) hp⟩⟩
  | adr c => exact ⟨h.1, h.2.mono hk⟩
  | fn f caps =>
    obtain ⟨hF, vs, rfl, hl, h1⟩ := h
    refine ⟨hF, vs, rfl, hl, fun j t u ht hu => ?_⟩
    have h2 := h1 j t u ht hu
    cases t with
    | vs a cs => exact ⟨h2.1, h2.2.frame (fun b hb => hb.elim) hk⟩
    | at_ r k p =>
      obtain ⟨ad, rfl, hp⟩ := h2
      have hm : T.at_ r k p ∈ caps := List.mem_of_getElem? ht
      exact ⟨ad, rfl, ha r k p ad (T.root_at hm) (.inr ⟨f, caps, rfl, hm⟩) hp⟩
    | adr c => exact AdrR.mono h2 hk
    | _ => exact h2.elim
end
theorem Rel.root {C : Ctx} {H : Nat → Prop} {e : Env} {tm : Nat → Value} {w : World} {Fs : Nat → Nat → Prop} (h : Rel C H e tm w Fs) {r k : Nat} {a : Bool} {cs : List V} {v : V} {u : Value}
    (hr : e.get r = .vs a cs) (hc : cs[k]? = some v) (hu : (cellsOf a (tm r))[k]? = some u) : ∃ F, Own C.P w (okOf C.X H Fs) v u F ∧ ∀ b, F b → Fs r b := by
  have ht := h.tr r
  rw [hr] at ht
  obtain ⟨_, hl, Fc, h1, h2, h3⟩ := ht
  exact ⟨Fc k, h1 k v u hc hu, fun b hb => (h3 b).2 ⟨k, (List.getElem?_eq_some_iff.1 hc).1, hb⟩⟩
theorem Rel.world {C : Ctx} {H H' : Nat → Prop} {e : Env} {tm : Nat → Value} {w w' : World} {Fs : Nat → Nat → Prop} (h : Rel C H e tm w Fs) (hg : Grow H w w')
    (hH : ∀ b, H' b → (H b ∨ w.heap.size ≤ b) ∧ b < w'.heap.size) : Rel C H' e tm w' Fs := by
  have hlt : ∀ t b, Fs t b → b < w.heap.size := fun t => (h.tr t).lt
  have hf : ∀ t b, Fs t b → w'.heap[b]? = w.heap[b]? := fun t b hb => hg.block b (hlt t b hb) (h.hx t b hb).2
  have hok : ∀ b, okOf C.X H Fs b → b < w.heap.size → okOf C.X H' Fs b ∧ w'.heap[b]? = w.heap[b]? := fun b hb hl =>
    ⟨⟨hb.1, fun hh => (hH b hh).1.elim hb.2.1 (fun h1 => by omega), hb.2.2⟩, hg.block b hl hb.2.1⟩
  have hpa : ∀ r k p ad, PlA w e tm r k p ad → PlA w' e tm r k p ad := fun r k p ad ⟨a, cs, v, u, h1, h2, h3, h4⟩ => by
    obtain ⟨F, hF, hs⟩ := h.root h1 h2 h3
    exact ⟨a, cs, v, u, h1, h2, h3, (adrOf_frame hF fun b hb => hf r b (hs b hb)).trans h4⟩
  have hpv : ∀ r k p x, PlV w e tm r k p x → PlV w' e tm r k p x := fun r k p x ⟨a, cs, v, u, h1, h2, h3, h5, h4⟩ => by
    obtain ⟨F, hF, hs⟩ := h.root h1 h2 h3
    refine ⟨a, cs, v, u, h1, h2, h3, h5, ?_⟩
    cases p with
    | nil => exact h4
    | cons s p =>
      simp only [valOf] at h4 ⊢
      rw [adrOf_frame hF fun b hb => hf r b (hs b hb)]
      obtain ⟨ad, ha, hc⟩ := Option.bind_eq_some_iff.1 h4
      rw [ha]
      exact (World.cell?_of_block (w := w) (hf r _ (hs _ (adrOf_mem hF h5 ha).1))).trans hc
  refine ⟨fun t => (h.tr t).change (hf t) hok (fun r k p ad _ _ => hpa r k p ad) (fun r k p x _ _ => hpv r k p x), h.dj, fun t b hb => ⟨(h.hx t b hb).1, fun hh => ?_⟩, h.vw, ?_, h.nw, fun b hb => ?_⟩
  · rcases (hH b hh).1 with h1 | h1
    · exact (h.hx t b hb).2 h1
    · have := hlt t b hb; omega
  · exact h.gr.trans' hg fun i hi hh => (h.hn i hh).2.1.elim id (fun h1 => by omega)
  · rcases (hH b hb).1 with h1 | h1
    · exact ⟨(h.hn b h1).1, (h.hn b h1).2.1, (hH b hb).2⟩
    · have := h.gr.size
      exact ⟨fun hx => by have := C.hX b hx; omega, .inr (by omega), (hH b hb).2⟩
theorem Env.get_over (e : Env) (f : T → T) (l : List Nat) (t : Nat) : (e.over f l).get t = if t ∈ l then f (e.get t) else e.get t := by
  unfold Env.over
  induction l with
  | nil => rfl
  | cons u l ih =>
    simp only [List.map_cons, List.cons_append, Env.get, List.mem_cons]
    by_cases h : u = t
    · subst h; simp
    · simp only [h, if_false, Ne.symm h, false_or]; exact ih
theorem Views.mem_of {rt : Views} {u r : Nat} : u ∈ rt.of r ↔ (u, r) ∈ rt := by
  simp only [Views.of, List.mem_map, List.mem_filter, decide_eq_true_eq]
  constructor
  · rintro ⟨⟨a, b⟩, ⟨h1, h2⟩, h3⟩; simp only at h2 h3; subst h2; subst h3; exact h1
  · exact fun h => ⟨(u, r), ⟨h, rfl⟩, rfl⟩
theorem T.killR_of {r : Nat} {t : T} (h : r ∉ t.roots) : t.killR r = t := by unfold T.killR; rw [if_neg (by simpa using h)]
theorem T.kill_of {r k : Nat} {q : Pt} {t : T} (h : r ∉ t.roots) : t.kill r k q = t := by
  cases t with
  | at_ r' k' p => simp only [T.kill]; rw [if_neg]; rintro ⟨rfl, _⟩; simp [T.roots] at h
  | ref r' k' p => simp only [T.kill]; rw [if_neg]; rintro ⟨rfl, _⟩; simp [T.roots] at h
  | fn f c => simp only [T.kill]; rw [if_neg (by simpa using h)]
  | refs r' k' p n => simp only [T.kill]; rw [if_neg (by simpa using h)]
  | _ => rfl
theorem Rel.killR {C : Ctx} {H : Nat → Prop} {e : Env} {tm : Nat → Value} {w : World} {Fs : Nat → Nat → Prop} (h : Rel C H e tm w Fs) (r t : Nat) : (e.killR C.rt r).get t = (e.get t).killR r := by
  unfold Env.killR
  rw [Env.get_over]
  split
  · rfl
  · rename_i hn
    rw [T.killR_of fun hr => hn (Views.mem_of.2 (h.vw t r hr).1)]
theorem Rel.kill {C : Ctx} {H : Nat → Prop} {e : Env} {tm : Nat → Value} {w : World} {Fs : Nat → Nat → Prop} (h : Rel C H e tm w Fs) (r k : Nat) (q : Pt) (t : Nat) : (e.kill C.rt r k q).get t = (e.get t).kill r k q := by
  unfold Env.kill
  rw [Env.get_over]
  split
  · rfl
  · rename_i hn
    rw [T.kill_of fun hr => hn (Views.mem_of.2 (h.vw t r hr).1)]
theorem T.killR_roots {r : Nat} {t : T} : ∀ r', r' ∈ (t.killR r).roots → r' ∈ t.roots ∧ r' ≠ r := by
  intro r' h
  unfold T.killR at h
  split at h
  · simp [T.roots] at h
  · rename_i hn
    refine ⟨h, ?_⟩
    rintro rfl
    exact hn (by simpa using h)
theorem Rel.set {C : Ctx} {H H' : Nat → Prop} {e : Env} {tm : Nat → Value} {w : World} {Fs : Nat → Nat → Prop} (h : Rel C H e tm w Fs) (u : Nat) {t : T} {x : Value} {F : Nat → Prop}
    (hF : ∀ b, F b → H b ∨ Fs u b) (hH : ∀ b, H' b → (H b ∨ Fs u b) ∧ ¬ F b) (hv : ∀ r, r ∈ t.roots → (u, r) ∈ C.rt ∧ r ≠ u)
    (ht : TR C.P w (okOf C.X H' fun t b => if t = u then F b else Fs t b) e tm t x F) :
    Rel C H' ((u, t) :: e.killR C.rt u) (fun t => if t = u then x else tm t) w (fun t b => if t = u then F b else Fs t b) := by
  have hget : ∀ t', Env.get ((u, t) :: e.killR C.rt u) t' = if u = t' then t else (e.get t').killR u := fun t' => by
    simp only [Env.get, h.killR]
  have hok : ∀ b, okOf C.X H Fs b → b < w.heap.size → okOf C.X H' (fun t b => if t = u then F b else Fs t b) b ∧ w.heap[b]? = w.heap[b]? := fun b hb _ =>
    ⟨⟨hb.1, fun hh => (hH b hh).1.elim hb.2.1 (hb.2.2 u), fun t' => by
      by_cases ht' : t' = u
      · simp only [ht', if_true]; exact fun hh => (hF b hh).elim hb.2.1 (hb.2.2 u)
      · simp only [ht', if_false]; exact hb.2.2 t'⟩, rfl⟩
  have hpa : ∀ r k p ad, r ≠ u → PlA w e tm r k p ad → PlA w ((u, t) :: e.killR C.rt u) (fun t => if t = u then x else tm t) r k p ad := fun r k p ad hr ⟨a, cs, v, u', h1, h2, h3, h4⟩ => by
    refine ⟨a, cs, v, u', ?_, h2, by simpa only [hr, if_false] using h3, h4⟩
    rw [hget, if_neg (Ne.symm hr), h1]; rfl
  have hpv : ∀ r k p y, r ≠ u → PlV w e tm r k p y → PlV w ((u, t) :: e.killR C.rt u) (fun t => if t = u then x else tm t) r k p y := fun r k p ad hr ⟨a, cs, v, u', h1, h2, h3, h4⟩ => by
    refine ⟨a, cs, v, u', ?_, h2, by simpa only [hr, if_false] using h3, h4⟩
    rw [hget, if_neg (Ne.symm hr), h1]; rfl
  refine ⟨fun t' => ?_, fun t1 t2 b hne h1 h2 => ?_, fun t' b hb => ?_, fun u' r hr => ?_, h.gr, fun t' b hb => ?_, fun b hb => ?_⟩
  · rw [hget]
    by_cases hu : u = t'
    · subst hu
      simp only [if_true]
      refine ht.change (fun _ _ => rfl) (fun b hb _ => ⟨hb, rfl⟩) (fun r k p ad hr _ hp => hpa r k p ad (hv r hr).2 hp) (fun r k p y hr _ hp => hpv r k p y (hv r hr).2 hp)
    · simp only [hu, Ne.symm hu, if_false]
      unfold T.killR
      split
      · rename_i hc
        have hroot : u ∈ (e.get t').roots := by simpa using hc
        have := h.tr t'
        cases he : e.get t' with
        | at_ r k p => rw [he] at this; exact this.1
        | ref r k p => rw [he] at this; exact this.1
        | fn f c => rw [he] at this; exact this.1
        | refs r k p n => rw [he] at this; exact this.1
        | _ => rw [he] at hroot; simp [T.roots] at hroot
      · rename_i hc
        have hroot : u ∉ (e.get t').roots := by simpa using hc
        exact (h.tr t').change (fun _ _ => rfl) hok (fun r k p ad hr _ hp => hpa r k p ad (fun e => hroot (e ▸ hr)) hp)
          (fun r k p y hr _ hp => hpv r k p y (fun e' => hroot (e' ▸ hr)) hp)
  · by_cases e1 : t1 = u <;> by_cases e2 : t2 = u
    · exact hne (e1.trans e2.symm)
    · simp only [e1, e2, if_true, if_false] at h1 h2
      rcases hF b h1 with h1 | h1
      · exact (h.hx t2 b h2).2 h1
      · exact h.dj u t2 b (Ne.symm e2) h1 h2
    · simp only [e1, e2, if_true, if_false] at h1 h2
      rcases hF b h2 with h2 | h2
      · exact (h.hx t1 b h1).2 h2
      · exact h.dj t1 u b e1 h1 h2
    · simp only [e1, e2, if_false] at h1 h2
      exact h.dj t1 t2 b hne h1 h2
  · by_cases e1 : t' = u
    · simp only [e1, if_true] at hb
      refine ⟨?_, fun hh => (hH b hh).2 hb⟩
      rcases hF b hb with h1 | h1
      · exact (h.hn b h1).1
      · exact (h.hx u b h1).1
    · simp only [e1, if_false] at hb
      refine ⟨(h.hx t' b hb).1, fun hh => ?_⟩
      rcases (hH b hh).1 with h1 | h1
      · exact (h.hx t' b hb).2 h1
      · exact h.dj t' u b e1 hb h1
  · rw [hget] at hr
    by_cases hu : u = u'
    · subst hu; simp only [if_true] at hr; exact hv r hr
    · simp only [hu, if_false] at hr
      exact h.vw u' r (T.killR_roots r hr).1
  · by_cases e1 : t' = u
    · simp only [e1, if_true] at hb
      rcases hF b hb with h1 | h1
      · exact (h.hn b h1).2.1
      · exact h.nw u b h1
    · simp only [e1, if_false] at hb
      exact h.nw t' b hb
  · rcases (hH b hb).1 with h1 | h1
    · exact h.hn b h1
    · exact ⟨(h.hx u b h1).1, h.nw u b h1, (h.tr u).lt b h1⟩
end Go.Mir

set_option linter.unusedVariables false
set_option linter.unusedSimpArgs false
namespace Go.Mir
open Go.RowKit
theorem VS.cell {P : Program} {w : World} {ok : Nat → Prop} {a : Bool} {cs : List V} {x : Value} {F : Nat → Prop} (h : VS P w ok a cs x F) {k : Nat} {v : V} {u : Value} (hc : cs[k]? = some v) (hu : (cellsOf a x)[k]? = some u) :
    ∃ Fk, Own P w ok v u Fk ∧ (∀ b, Fk b → F b) ∧ (∀ (k' : Nat) (v' : V) (u' : Value), k' ≠ k → cs[k']? = some v' → (cellsOf a x)[k']? = some u' → ∃ F', Own P w ok v' u' F' ∧ ∀ b, F' b → F b ∧ ¬ Fk b) ∧ ∀ (w' : World) (ok' : Nat → Prop) (v1 : V) (F1 : Nat → Prop), (∀ b, F b → ¬ Fk b → w'.heap[b]? = w.heap[b]?) →
      (∀ b, ok b → b < w.heap.size → ok' b ∧ w'.heap[b]? = w.heap[b]?) → Own P w' ok' v1 u F1 → (∀ b, F1 b → ¬ (F b ∧ ¬ Fk b)) → VS P w' ok' a (cs.set k v1) x (fun b => (F b ∧ ¬ Fk b) ∨ F1 b) := by
  obtain ⟨ha, hl, Fc, h1, h2, h3⟩ := h
  have hk := (List.getElem?_eq_some_iff.1 hc).1
  refine ⟨Fc k, h1 k v u hc hu, fun b hb => (h3 b).2 ⟨k, hk, hb⟩, fun k' v' u' hne hc' hu' => ⟨Fc k', h1 k' v' u' hc' hu', fun b hb =>
    ⟨(h3 b).2 ⟨k', (List.getElem?_eq_some_iff.1 hc').1, hb⟩, fun hb' => h2 k' k b (List.getElem?_eq_some_iff.1 hc').1 hk hne hb hb'⟩⟩, fun w' ok' v1 F1 hf hok h1' hd => ⟨ha, by simpa using hl, fun j b => if j = k then F1 b else Fc j b, ?_, ?_, ?_⟩⟩
  · intro j z u' hz hu'
    by_cases hj : j = k
    · subst hj
      rw [List.getElem?_set_self hk] at hz; cases hz
      rw [hu] at hu'; cases hu'
      simpa using h1'
    · rw [List.getElem?_set_ne (Ne.symm hj)] at hz
      have hjl := (List.getElem?_eq_some_iff.1 hz).1
      simp only [hj, if_false]
      exact (h1 j z u' hz hu').frame (fun b hb => hf b ((h3 b).2 ⟨j, hjl, hb⟩) fun hb' => h2 j k b hjl hk hj hb hb') hok
  · intro i j b hi hj hij hb1 hb2
    simp only [List.length_set] at hi hj
    have key : ∀ i, i < cs.length → i ≠ k → Fc i b → F b ∧ ¬ Fc k b := fun i hi hne hb => ⟨(h3 b).2 ⟨i, hi, hb⟩, fun hb' => h2 i k b hi hk hne hb hb'⟩
    by_cases e1 : i = k <;> by_cases e2 : j = k
    · exact hij (e1.trans e2.symm)
    · simp only [e1, e2, if_true, if_false] at hb1 hb2; exact hd b hb1 (key j hj e2 hb2)
    · simp only [e1, e2, if_true, if_false] at hb1 hb2; exact hd b hb2 (key i hi e1 hb1)
    · simp only [e1, e2, if_false] at hb1 hb2; exact h2 i j b hi hj hij hb1 hb2
  · intro b
    simp only [List.length_set]
    constructor
    · rintro (⟨hb, hn⟩ | hb)
      · obtain ⟨j, hj, hb⟩ := (h3 b).1 hb
        have : j ≠ k := by rintro rfl; exact hn hb
        exact ⟨j, hj, by simpa [this] using hb⟩
      · exact ⟨k, hk, by simpa using hb⟩
    · rintro ⟨j, hj, hb⟩
      by_cases e1 : j = k
      · simp only [e1, if_true] at hb; exact .inr hb
      · simp only [e1, if_false] at hb
        exact .inl ⟨(h3 b).2 ⟨j, hj, hb⟩, fun hb' => h2 j k b hj hk e1 hb hb'⟩
theorem T.kill_roots {r k : Nat} {q : Pt} {t : T} : ∀ r', r' ∈ (t.kill r k q).roots → r' ∈ t.roots := by
  intro r' h
  cases t <;> simp only [T.kill] at h <;> (try split at h) <;> first | exact h | simp [T.roots] at h
theorem Rel.place {C : Ctx} {H : Nat → Prop} {e : Env} {tm : Nat → Value} {w : World} {Fs : Nat → Nat → Prop} (h : Rel C H e tm w Fs) {r k : Nat} {a : Bool} {cs : List V} {v : V} {u : Value}
    (hr : e.get r = .vs a cs) (hc : cs[k]? = some v) (hu : (cellsOf a (tm r))[k]? = some u) :
    ∃ Fk : Nat → Prop, Own C.P w (okOf C.X H Fs) v u Fk ∧ (∀ b, Fk b → Fs r b) ∧ ∀ (p : Pt) (y v1 : V) (w' : World) (H' F1 : Nat → Prop), v.set p y = some v1 → Grow Fk w w' →
      (∀ b, F1 b → Fk b ∨ H b) → (∀ b, H' b → (H b ∨ Fk b) ∧ ¬ F1 b) →
      Own C.P w' (okOf C.X H' fun t b => if t = r then (Fs r b ∧ ¬ Fk b) ∨ F1 b else Fs t b) v1 u F1 →
      (∀ q ad, ¬ (p <+: q ∧ p ≠ q) → adrOf w v u q = some ad → adrOf w' v1 u q = some ad) →
      (∀ q x, ¬ (p <+: q) → (v.get q).isSome → valOf w v u q = some x → (v1.get q).isSome ∧ valOf w' v1 u q = some x) →
      Rel C H' (Env.kill C.rt ((r, .vs a (cs.set k v1)) :: e) r k p) tm w' (fun t b => if t = r then (Fs r b ∧ ¬ Fk b) ∨ F1 b else Fs t b) := by
  have ht := h.tr r
  rw [hr] at ht
  obtain ⟨Fk, hown, hFk, hoth, hnew⟩ := VS.cell ht hc hu
  have hk := (List.getElem?_eq_some_iff.1 hc).1
  refine ⟨Fk, hown, hFk, fun p y v1 w' H' F1 hset hg hF1 hH' hown' hsa hsv => ?_⟩
  have hlt : ∀ t b, Fs t b → b < w.heap.size := fun t => (h.tr t).lt
  have hok : ∀ b, okOf C.X H Fs b → b < w.heap.size → okOf C.X H' (fun t b => if t = r then (Fs r b ∧ ¬ Fk b) ∨ F1 b else Fs t b) b ∧ w'.heap[b]? = w.heap[b]? := fun b hb hl =>
    ⟨⟨hb.1, fun hh => (hH' b hh).1.elim hb.2.1 (fun h1 => hb.2.2 r (hFk b h1)), fun t => by
      by_cases e1 : t = r
      · simp only [e1, if_true]
        rintro (⟨h1, _⟩ | h1)
        · exact hb.2.2 r h1
        · exact (hF1 b h1).elim (fun h2 => hb.2.2 r (hFk b h2)) hb.2.1
      · simp only [e1, if_false]; exact hb.2.2 t⟩, hg.block b hl fun hh => hb.2.2 r (hFk b hh)⟩
  have hfo : ∀ t, t ≠ r → ∀ b, Fs t b → w'.heap[b]? = w.heap[b]? := fun t hne b hb => hg.block b (hlt t b hb) fun hh => h.dj t r b hne hb (hFk b hh)
  have hget1 : ∀ t, Env.get ((r, T.vs a (cs.set k v1)) :: e) t = if r = t then T.vs a (cs.set k v1) else e.get t := fun t => rfl
  have hget : ∀ t, (Env.kill C.rt ((r, T.vs a (cs.set k v1)) :: e) r k p).get t = if r = t then T.vs a (cs.set k v1) else (e.get t).kill r k p := fun t => by
    unfold Env.kill
    rw [Env.get_over, hget1]
    by_cases e1 : r = t
    · simp only [e1, if_true, T.kill]; split <;> rfl
    · simp only [e1, if_false]
      split
      · rfl
      · rename_i hn
        rw [T.kill_of fun hr' => hn (Views.mem_of.2 (h.vw t r hr').1)]
  have hpa : ∀ r' k' q ad, ¬ (r' = r ∧ k' = k ∧ p <+: q ∧ p ≠ q) → PlA w e tm r' k' q ad → PlA w' (Env.kill C.rt ((r, T.vs a (cs.set k v1)) :: e) r k p) tm r' k' q ad := by
    rintro r' k' q ad hn ⟨a', cs', v', u', h1, h2, h3, h4⟩
    by_cases er : r' = r
    · subst er
      rw [hr] at h1; cases h1
      by_cases ek : k' = k
      · subst ek
        rw [hc] at h2; cases h2
        rw [hu] at h3; cases h3
        exact ⟨a, cs.set k' v1, v1, u, by rw [hget]; simp, List.getElem?_set_self hk, hu, hsa q ad (fun hh => hn ⟨rfl, rfl, hh⟩) h4⟩
      · obtain ⟨F', hF', hs'⟩ := hoth k' v' u' ek h2 h3
        exact ⟨a, cs.set k v1, v', u', by rw [hget]; simp, by rw [List.getElem?_set_ne (Ne.symm ek)]; exact h2, h3,
          (adrOf_frame hF' fun b hb => hg.block b (hlt r' b (hs' b hb).1) (hs' b hb).2).trans h4⟩
    · obtain ⟨F', hF', hs'⟩ := h.root h1 h2 h3
      exact ⟨a', cs', v', u', by rw [hget, if_neg (Ne.symm er), h1]; rfl, h2, h3, (adrOf_frame hF' fun b hb => hfo r' er b (hs' b hb)).trans h4⟩
  have hvf : ∀ {v' : V} {u' : Value} {F' : Nat → Prop} {q : Pt} {x : Value}, Own C.P w (okOf C.X H Fs) v' u' F' → (∀ b, F' b → w'.heap[b]? = w.heap[b]?) → (v'.get q).isSome → valOf w v' u' q = some x → valOf w' v' u' q = some x := by
    intro v' u' F' q x hF' hs' h5 h4
    cases q with
    | nil => exact h4
    | cons s q =>
      simp only [valOf] at h4 ⊢
      rw [adrOf_frame hF' hs']
      obtain ⟨ad, ha, hcl⟩ := Option.bind_eq_some_iff.1 h4
      rw [ha]
      exact (World.cell?_of_block (w := w) (hs' _ (adrOf_mem hF' h5 ha).1)).trans hcl
  have hpv : ∀ r' k' q x, ¬ (r' = r ∧ k' = k ∧ p <+: q) → PlV w e tm r' k' q x → PlV w' (Env.kill C.rt ((r, T.vs a (cs.set k v1)) :: e) r k p) tm r' k' q x := by
    rintro r' k' q x hn ⟨a', cs', v', u', h1, h2, h3, h5, h4⟩
    by_cases er : r' = r
    · subst er
      rw [hr] at h1; cases h1
      by_cases ek : k' = k
      · subst ek
        rw [hc] at h2; cases h2
        rw [hu] at h3; cases h3
        have := hsv q x (fun hh => hn ⟨rfl, rfl, hh⟩) h5 h4
        exact ⟨a, cs.set k' v1, v1, u, by rw [hget]; simp, List.getElem?_set_self hk, hu, this.1, this.2⟩
      · obtain ⟨F', hF', hs'⟩ := hoth k' v' u' ek h2 h3
        exact ⟨a, cs.set k v1, v', u', by rw [hget]; simp, by rw [List.getElem?_set_ne (Ne.symm ek)]; exact h2, h3, h5,
          hvf hF' (fun b hb => hg.block b (hlt r' b (hs' b hb).1) (hs' b hb).2) h5 h4⟩
    · obtain ⟨F', hF', hs'⟩ := h.root h1 h2 h3
      exact ⟨a', cs', v', u', by rw [hget, if_neg (Ne.symm er), h1]; rfl, h2, h3, h5, hvf hF' (fun b hb => hfo r' er b (hs' b hb)) h5 h4⟩
  refine ⟨fun t => ?_, fun t1 t2 b hne h1 h2 => ?_, fun t b hb => ?_, fun t r' hr' => ?_, ?_, fun t b hb => ?_, fun b hb => ?_⟩
  · rw [hget]
    by_cases e1 : r = t
    · subst e1
      simp only [if_true]
      exact hnew w' _ v1 F1 (fun b hb hn => hg.block b (hlt r b hb) hn) hok hown' fun b hb1 hb2 => (hF1 b hb1).elim hb2.2 (h.hx r b hb2.1).2
    · simp only [e1, Ne.symm e1, if_false]
      have htt := h.tr t
      cases he : e.get t with
      | at_ r' k' q =>
        rw [he] at htt
        simp only [T.kill]
        split
        · exact htt.1
        · rename_i hn
          obtain ⟨hF, ad, hx, hp⟩ := htt
          exact ⟨hF, ad, hx, hpa r' k' q ad hn hp⟩
      | ref r' k' q =>
        rw [he] at htt
        simp only [T.kill]
        split
        · exact htt.1
        · rename_i hn
          exact ⟨htt.1, hpv r' k' q _ hn htt.2⟩
      | fn f caps =>
        rw [he] at htt
        simp only [T.kill]
        split
        · exact htt.1
        · rename_i hn
          refine htt.change (hfo t (Ne.symm e1)) hok (fun r' k' q ad hr' _ hp => hpa r' k' q ad (fun hh => hn ?_) hp) (fun _ _ _ _ _ hh _ => by rcases hh with hh | ⟨_, _, hh⟩ <;> cases hh)
          rw [hh.1] at hr'
          simpa using hr'
      | refs r' k' q n =>
        rw [he] at htt
        simp only [T.kill]
        split
        · exact htt.1
        · rename_i hn
          refine htt.change (hfo t (Ne.symm e1)) hok (fun _ _ _ _ _ hh _ => by rcases hh with hh | ⟨_, _, hh, _⟩ <;> cases hh) (fun r' k' q x hr' _ hp => hpv r' k' q x (fun hh => hn ?_) hp)
          rw [hh.1] at hr'
          simpa using hr'
      | _ => rw [he] at htt; exact TR.change htt (hfo t (Ne.symm e1)) hok (fun r' k' q ad hr' _ hp => (List.not_mem_nil hr').elim) (fun _ _ _ _ hr' _ _ => (List.not_mem_nil hr').elim)
  · by_cases e1 : t1 = r <;> by_cases e2 : t2 = r
    · exact hne (e1.trans e2.symm)
    · simp only [e1, e2, if_true, if_false] at h1 h2
      rcases h1 with h1 | h1
      · exact h.dj r t2 b (Ne.symm e2) h1.1 h2
      · rcases hF1 b h1 with h3 | h3
        · exact h.dj r t2 b (Ne.symm e2) (hFk b h3) h2
        · exact (h.hx t2 b h2).2 h3
    · simp only [e1, e2, if_true, if_false] at h1 h2
      rcases h2 with h2 | h2
      · exact h.dj t1 r b e1 h1 h2.1
      · rcases hF1 b h2 with h3 | h3
        · exact h.dj t1 r b e1 h1 (hFk b h3)
        · exact (h.hx t1 b h1).2 h3
    · simp only [e1, e2, if_false] at h1 h2
      exact h.dj t1 t2 b hne h1 h2
  · by_cases e1 : t = r
    · simp only [e1, if_true] at hb
      rcases hb with hb | hb
      · refine ⟨(h.hx r b hb.1).1, fun hh => ?_⟩
        rcases (hH' b hh).1 with h1 | h1
        · exact (h.hx r b hb.1).2 h1
        · exact hb.2 h1
      · refine ⟨?_, fun hh => (hH' b hh).2 hb⟩
        rcases hF1 b hb with h1 | h1
        · exact (h.hx r b (hFk b h1)).1
        · exact (h.hn b h1).1
    · simp only [e1, if_false] at hb
      refine ⟨(h.hx t b hb).1, fun hh => ?_⟩
      rcases (hH' b hh).1 with h1 | h1
      · exact (h.hx t b hb).2 h1
      · exact h.dj t r b e1 hb (hFk b h1)
  · rw [hget] at hr'
    by_cases e1 : r = t
    · simp only [e1, if_true] at hr'; simp [T.roots] at hr'
    · simp only [e1, if_false] at hr'
      exact h.vw t r' (T.kill_roots r' hr')
  · exact h.gr.trans' hg fun i hi hh => (h.nw r i (hFk i hh)).elim id (fun h1 => by omega)
  · by_cases e1 : t = r
    · simp only [e1, if_true] at hb
      rcases hb with hb | hb
      · exact h.nw r b hb.1
      · rcases hF1 b hb with h1 | h1
        · exact h.nw r b (hFk b h1)
        · exact (h.hn b h1).2.1
    · simp only [e1, if_false] at hb
      exact h.nw t b hb
  · rcases (hH' b hb).1 with h1 | h1
    · exact ⟨(h.hn b h1).1, (h.hn b h1).2.1, Nat.lt_of_lt_of_le (h.hn b h1).2.2 hg.size⟩
    · exact ⟨(h.hx r b (hFk b h1)).1, h.nw r b (hFk b h1), Nat.lt_of_lt_of_le (hlt r b (hFk b h1)) hg.size⟩
end Go.Mir

set_option linter.unusedVariables false
set_option linter.unusedSimpArgs false
namespace Go.Mir
open Go.RowKit
theorem V.get_set_ne {p : Pt} : ∀ {q : Pt} {v y v1 : V}, v.set p y = some v1 → ¬ (p <+: q) → (v.get q).isSome → (v1.get q).isSome := by
  induction p with
  | nil => intro q v y v1 h hn; exact (hn List.nil_prefix).elim
  | cons s p ih =>
    intro q v y v1 h hn hq
    rw [V.set_cons] at h
    obtain ⟨x, hx, h⟩ := Option.bind_eq_some_iff.1 h
    obtain ⟨x', hx', rfl⟩ := Option.map_eq_some_iff.1 h
    cases q with
    | nil => simp [V.get_nil]
    | cons t q =>
      rw [V.get_cons] at hq ⊢
      by_cases hst : s = t
      · subst hst
        rw [V.kid_upd hx]
        rw [hx] at hq
        exact ih hx' (fun hh => hn (by simpa using hh)) hq
      · rw [V.kid_upd_ne hx x' hst]; exact hq
theorem valOf_set {w : World} {p q : Pt} {v y v1 : V} {u : Value} (h : v.set p y = some v1) (hn : ¬ (p <+: q)) : valOf w v1 u q = valOf w v u q := by
  cases q with
  | nil => rfl
  | cons s q =>
    simp only [valOf]
    rw [adrOf_set w h fun hh => hn hh.1]
theorem Env.cell_some {e : Env} {r k : Nat} {p : Pt} {x : V} (h : e.cell r k p = some x) : ∃ a cs v, e.get r = .vs a cs ∧ cs[k]? = some v ∧ v.get p = some x := by
  unfold Env.cell at h
  cases he : e.get r with
  | vs a cs =>
    rw [he] at h
    obtain ⟨v, hv, hx⟩ := Option.bind_eq_some_iff.1 h
    exact ⟨a, cs, v, rfl, hv, hx⟩
  | _ => rw [he] at h; cases h
theorem Env.setCell_some {e e1 : Env} {r k : Nat} {p : Pt} {y : V} (h : e.setCell r k p y = some e1) : ∃ a cs v v1, e.get r = .vs a cs ∧ cs[k]? = some v ∧ v.set p y = some v1 ∧ e1 = (r, .vs a (cs.set k v1)) :: e := by
  unfold Env.setCell at h
  cases he : e.get r with
  | vs a cs =>
    rw [he] at h
    obtain ⟨v, hv, h⟩ := Option.bind_eq_some_iff.1 h
    obtain ⟨v1, hv1, rfl⟩ := Option.map_eq_some_iff.1 h
    exact ⟨a, cs, v, v1, rfl, hv, hv1, rfl⟩
  | _ => rw [he] at h; cases h
theorem Rel.cellsOf {C : Ctx} {H : Nat → Prop} {e : Env} {tm : Nat → Value} {w : World} {Fs : Nat → Nat → Prop} (h : Rel C H e tm w Fs) {r k : Nat} {a : Bool} {cs : List V} {v : V} (hr : e.get r = .vs a cs) (hc : cs[k]? = some v) :
    ∃ u, (cellsOf a (tm r))[k]? = some u := by
  have ht := h.tr r
  rw [hr] at ht
  have hl := ht.2.1
  have hk := (List.getElem?_eq_some_iff.1 hc).1
  exact ⟨_, List.getElem?_eq_getElem (by rw [← hl]; exact hk)⟩
theorem Rel.takePl {C : Ctx} {H : Nat → Prop} {e e' : Env} {tm : Nat → Value} {w : World} {Fs : Nat → Nat → Prop} (h : Rel C H e tm w Fs) {r k : Nat} {p : Pt} {x : V} (ht : e.takePl C.rt r k p = some (x, e')) :
    ∃ (Fs' : Nat → Nat → Prop) (Fx : Nat → Prop) (ux : Value), Rel C (fun b => H b ∨ Fx b) e' tm w Fs' ∧ Own C.P w (okOf C.X (fun b => H b ∨ Fx b) Fs') x ux Fx ∧ PlV w e tm r k p ux ∧ (∀ b, Fx b → ¬ H b) ∧
      (∀ b, (H b ∨ Fx b ∨ ∃ t, Fs' t b) ↔ H b ∨ ∃ t, Fs t b) ∧ PlV w e' tm r k p ux ∧ e'.cell r k p = some .dead ∧ ∀ q ad, ¬ (p <+: q ∧ p ≠ q) → PlA w e tm r k q ad → PlA w e' tm r k q ad := by
  unfold Env.takePl at ht
  obtain ⟨y, hy, ht⟩ := Option.bind_eq_some_iff.1 ht
  obtain ⟨e1, he1, heq⟩ := Option.map_eq_some_iff.1 ht
  obtain ⟨rfl, rfl⟩ : y = x ∧ e1.kill C.rt r k p = e' := by simpa using heq
  obtain ⟨a, cs, v, hr, hc, hg⟩ := Env.cell_some hy
  obtain ⟨a', cs', v', v1, hr', hc', hs, rfl⟩ := Env.setCell_some he1
  rw [hr] at hr'; cases hr'
  rw [hc] at hc'; cases hc'
  obtain ⟨u, hu⟩ := h.cellsOf hr hc
  obtain ⟨Fk, hown, hFk, hp⟩ := h.place hr hc hu
  obtain ⟨ux, Fx, v1', F', hval, hx, hs', hown', hF1, hF2, hadr⟩ := hown.hole hg
  rw [hs] at hs'; cases hs'
  have hFx : ∀ b, Fx b → Fs r b := fun b hb => hFk b ((hF1 b).2 (.inr hb))
  have hok : ∀ b, okOf C.X H Fs b → okOf C.X (fun b => H b ∨ Fx b) (fun t b => if t = r then (Fs r b ∧ ¬ Fk b) ∨ F' b else Fs t b) b := fun b hb =>
    ⟨hb.1, fun hh => hh.elim hb.2.1 (fun h1 => hb.2.2 r (hFx b h1)), fun t => by
      by_cases e1 : t = r
      · simp only [e1, if_true]
        rintro (⟨h1, _⟩ | h1)
        · exact hb.2.2 r h1
        · exact hb.2.2 r (hFk b ((hF1 b).2 (.inl h1)))
      · simp only [e1, if_false]; exact hb.2.2 t⟩
  have hrel := hp p .dead v1 w (fun b => H b ∨ Fx b) F' hs (Grow.refl _ _) (fun b hb => .inl ((hF1 b).2 (.inl hb)))
    (fun b hb => ⟨hb.imp id fun hb => (hF1 b).2 (.inr hb), fun hb' => hb.elim (fun hh => (h.hx r b (hFk b ((hF1 b).2 (.inl hb')))).2 hh) (hF2 b hb')⟩)
    (hown'.frame (fun _ _ => rfl) fun b hb _ => ⟨hok b hb, rfl⟩)
    (fun q ad hn ha => (adrOf_set w hs hn).trans ha)
    (fun q x hn hq hv => ⟨V.get_set_ne hs hn hq, (valOf_set hs hn).trans hv⟩)
  have hgr : (Env.kill C.rt ((r, T.vs a (cs.set k v1)) :: e) r k p).get r = .vs a (cs.set k v1) := by
    unfold Env.kill
    rw [Env.get_over]
    simp only [Env.get, if_true, T.kill, ite_self]
  have hk := (List.getElem?_eq_some_iff.1 hc).1
  refine ⟨_, Fx, ux, hrel, hx.frame (fun _ _ => rfl) fun b hb _ => ⟨hok b hb, rfl⟩, ⟨a, cs, v, u, hr, hc, hu, by simp [hg], hval⟩, fun b hb => (h.hx r b (hFx b hb)).2, fun b => ?_, ?_, ?_, ?_⟩
  · constructor
    · rintro (hb | hb | ⟨t, hb⟩)
      · exact .inl hb
      · exact .inr ⟨r, hFx b hb⟩
      · by_cases e1 : t = r
        · simp only [e1, if_true] at hb
          exact .inr ⟨r, hb.elim (·.1) fun hb => hFk b ((hF1 b).2 (.inl hb))⟩
        · simp only [e1, if_false] at hb
          exact .inr ⟨t, hb⟩
    · rintro (hb | ⟨t, hb⟩)
      · exact .inl hb
      · by_cases e1 : t = r
        · subst e1
          by_cases hbk : Fk b
          · rcases (hF1 b).1 hbk with hb' | hb'
            · exact .inr (.inr ⟨t, by simp only [if_true]; exact .inr hb'⟩)
            · exact .inr (.inl hb')
          · exact .inr (.inr ⟨t, by simp only [if_true]; exact .inl ⟨hb, hbk⟩⟩)
        · exact .inr (.inr ⟨t, by simp only [e1, if_false]; exact hb⟩)
  · refine ⟨a, cs.set k v1, v1, u, hgr, List.getElem?_set_self hk, hu, by simp [V.get_set hs], ?_⟩
    cases p with
    | nil => exact hval
    | cons s p =>
      simp only [valOf] at hval ⊢
      rwa [adrOf_set w hs (fun hh => hh.2 rfl)]
  · unfold Env.cell
    rw [hgr]
    simp only [List.getElem?_set_self hk, Option.bind_some, V.get_set hs]
  · rintro q ad hn ⟨a2, cs2, v2, u2, g1, g2, g3, g4⟩
    rw [hr] at g1; cases g1
    rw [hc] at g2; cases g2
    rw [hu] at g3; cases g3
    exact ⟨a, cs.set k v1, v1, u, hgr, List.getElem?_set_self hk, hu, (adrOf_set w hs hn).trans g4⟩
theorem V.get_of_set {p : Pt} : ∀ {v y v1 : V}, v.set p y = some v1 → ∃ x, v.get p = some x := by
  induction p with
  | nil => intro v y v1 _; exact ⟨v, V.get_nil v⟩
  | cons s p ih =>
    intro v y v1 h
    rw [V.set_cons] at h
    obtain ⟨x, hx, h⟩ := Option.bind_eq_some_iff.1 h
    obtain ⟨x', hx', rfl⟩ := Option.map_eq_some_iff.1 h
    rw [V.get_cons, hx]
    exact ih hx'
theorem Rel.layPl {C : Ctx} {H : Nat → Prop} {e e1 : Env} {tm : Nat → Value} {w : World} {Fs : Nat → Nat → Prop} (h : Rel C H e tm w Fs) {r k : Nat} {p : Pt} {y : V} {uy : Value} {Fy : Nat → Prop} {ad : Addr}
    (hs : e.setCell r k p y = some e1) (ha : PlA w e tm r k p ad) (hy : Own C.P w (okOf C.X H Fs) y uy Fy) (hFy : ∀ b, Fy b → H b) :
    ∃ Fs', Rel C (fun b => H b ∧ ¬ Fy b) (e1.kill C.rt r k p) tm (w.setCell ad uy) Fs' ∧ (∃ v, w.cell? ad = some v) ∧ w.frozen? ad = false ∧ Grow (Fs r) w (w.setCell ad uy) ∧
      (∀ b, okOf C.X H Fs b → okOf C.X (fun b => H b ∧ ¬ Fy b) Fs' b) ∧
      ∀ q ad', ¬ (p <+: q ∧ p ≠ q) → PlA w e tm r k q ad' → PlA (w.setCell ad uy) (e1.kill C.rt r k p) tm r k q ad' := by
  obtain ⟨a, cs, v, v1, hr, hc, hset, rfl⟩ := Env.setCell_some hs
  obtain ⟨a', cs', v', u, hr', hc', hu, had⟩ := ha
  rw [hr] at hr'; cases hr'
  rw [hc] at hc'; cases hc'
  obtain ⟨Fk, hown, hFk, hp⟩ := h.place hr hc hu
  have hpne : p ≠ [] := by rintro rfl; simp [adrOf] at had
  obtain ⟨x, hg⟩ := V.get_of_set hset
  obtain ⟨ux, Fx, v0, F', hval, hx, hs', hown', hF1, hF2, hadr⟩ := hown.hole hg
  obtain ⟨ad', had', hcell, hFad, hfz, hsp⟩ := hadr hpne
  rw [had] at had'; cases had'
  have hFs : ∀ b, F' b → Fs r b := fun b hb => hFk b ((hF1 b).2 (.inl hb))
  have hadF : Fk ad.block := (hF1 _).2 (.inl hFad)
  have hokad : ∀ b, okOf C.X H Fs b → (w.setCell ad uy).heap[b]? = w.heap[b]? := fun b hb => Below.heap_setCell w ad uy b fun e => hb.2.2 r (e ▸ hFs _ hFad)
  have hyw : Own C.P (w.setCell ad uy) (okOf C.X H Fs) y uy Fy := hy.frame (fun b hb => Below.heap_setCell w ad uy b fun e => (h.hx r ad.block (hFs _ hFad)).2 (e ▸ hFy b hb)) fun b hb _ => ⟨hb, hokad b hb⟩
  have hset0 : v0.set p y = some v1 := (V.set_set y hs').trans hset
  have hstay : ∀ q, ¬ (p <+: q ∧ p ≠ q) → adrOf (w.setCell ad uy) v1 u q = adrOf w v u q := fun q hn => by
    rw [adrOf_set _ hset0 hn, adrOf_setCell hown' ?_, adrOf_set w hs' hn]
    intro q1 q2 he h1 h2 h3 h4
    have := adrOf_inj hown' h3 (by rw [V.get_set hs']; rfl) h4 ((adrOf_set w hs' fun hh => hh.2 rfl).trans had)
    subst this
    exact hn ⟨he ▸ List.prefix_append _ _, fun hh => h2 (by simpa [he] using hh.symm)⟩
  have hok : ∀ b, okOf C.X H Fs b → okOf C.X (fun b => H b ∧ ¬ Fy b) (fun t b => if t = r then (Fs r b ∧ ¬ Fk b) ∨ (F' b ∨ Fy b) else Fs t b) b := fun b hb =>
    ⟨hb.1, fun hh => hb.2.1 hh.1, fun t => by
      by_cases e1 : t = r
      · simp only [e1, if_true]
        rintro (⟨h1, _⟩ | h1 | h1)
        · exact hb.2.2 r h1
        · exact hb.2.2 r (hFs b h1)
        · exact hb.2.1 (hFy b h1)
      · simp only [e1, if_false]; exact hb.2.2 t⟩
  have hrel := hp p y v1 (w.setCell ad uy) (fun b => H b ∧ ¬ Fy b) (fun b => F' b ∨ Fy b) hset (Grow.setCell w ad uy hadF)
    (fun b hb => hb.elim (fun hb => .inl ((hF1 b).2 (.inl hb))) fun hb => .inr (hFy b hb))
    (fun b hb => ⟨.inl hb.1, fun hh => hh.elim (fun hh => (h.hx r b (hFs b hh)).2 hb.1) hb.2⟩)
    ((hown'.fill (fun b hb hh => hh.2.2 r (hFs b hb)) (V.get_set hs') ((adrOf_set w hs' fun hh => hh.2 rfl).trans had) hyw (fun b hb hh => (h.hx r b (hFs b hb)).2 (hFy b hh)) hset0).frame
      (fun _ _ => rfl) fun b hb _ => ⟨hok b hb, rfl⟩)
    (fun q ad' hn ha => (hstay q hn).trans ha)
    (fun q x hn hq hv => ⟨V.get_set_ne hset hn hq, by
      cases q with
      | nil => exact hv
      | cons s q =>
        simp only [valOf] at hv ⊢
        rw [hstay _ fun hh => hn hh.1]
        obtain ⟨ad2, ha2, hc2⟩ := Option.bind_eq_some_iff.1 hv
        rw [ha2]
        refine (World.cell?_setCell_other (w := w) ad ad2 uy fun he => ?_).trans hc2
        subst he
        exact hn (adrOf_inj hown (by rw [hg]; rfl) hq had ha2 ▸ List.prefix_refl _)⟩)
  have hk := (List.getElem?_eq_some_iff.1 hc).1
  have hgr : (Env.kill C.rt ((r, T.vs a (cs.set k v1)) :: e) r k p).get r = .vs a (cs.set k v1) := by
    unfold Env.kill
    rw [Env.get_over]
    simp only [Env.get, if_true, T.kill, ite_self]
  refine ⟨_, hrel, ⟨_, hcell⟩, hfz, Grow.setCell w ad uy (hFs _ hFad), hok, ?_⟩
  rintro q ad' hn ⟨a2, cs2, v2, u2, g1, g2, g3, g4⟩
  rw [hr] at g1; cases g1
  rw [hc] at g2; cases g2
  rw [hu] at g3; cases g3
  exact ⟨a, cs.set k v1, v1, u, hgr, List.getElem?_set_self hk, hu, (hstay q hn).trans g4⟩
theorem Rel.backPl {C : Ctx} {H : Nat → Prop} {e e1 : Env} {tm : Nat → Value} {w : World} {Fs : Nat → Nat → Prop} (h : Rel C H e tm w Fs) {r k : Nat} {p : Pt} {y : V} {uy : Value} {Fy : Nat → Prop}
    (hd : e.cell r k p = some .dead) (hs : e.setCell r k p y = some e1) (hv : PlV w e tm r k p uy) (hy : Own C.P w (okOf C.X H Fs) y uy Fy) (hFy : ∀ b, Fy b → H b) :
    ∃ Fs', Rel C (fun b => H b ∧ ¬ Fy b) (e1.kill C.rt r k p) tm w Fs' ∧ (∀ b, okOf C.X H Fs b → okOf C.X (fun b => H b ∧ ¬ Fy b) Fs' b) := by
  obtain ⟨a, cs, v, v1, hr, hc, hset, rfl⟩ := Env.setCell_some hs
  obtain ⟨a', cs', v', hr', hc', hdead⟩ := Env.cell_some hd
  rw [hr] at hr'; cases hr'
  rw [hc] at hc'; cases hc'
  obtain ⟨a', cs', v', u, hr', hc', hu, _, hval⟩ := hv
  rw [hr] at hr'; cases hr'
  rw [hc] at hc'; cases hc'
  obtain ⟨Fk, hown, hFk, hp⟩ := h.place hr hc hu
  have hok : ∀ b, okOf C.X H Fs b → okOf C.X (fun b => H b ∧ ¬ Fy b) (fun t b => if t = r then (Fs r b ∧ ¬ Fk b) ∨ (Fk b ∨ Fy b) else Fs t b) b := fun b hb =>
    ⟨hb.1, fun hh => hb.2.1 hh.1, fun t => by
      by_cases e1 : t = r
      · simp only [e1, if_true]
        rintro (⟨h1, _⟩ | h1 | h1)
        · exact hb.2.2 r h1
        · exact hb.2.2 r (hFk b h1)
        · exact hb.2.1 (hFy b h1)
      · simp only [e1, if_false]; exact hb.2.2 t⟩
  have hrel := hp p y v1 w (fun b => H b ∧ ¬ Fy b) (fun b => Fk b ∨ Fy b) hset (Grow.refl _ _)
    (fun b hb => hb.imp id (hFy b))
    (fun b hb => ⟨.inl hb.1, fun hh => hh.elim (fun hh => (h.hx r b (hFk b hh)).2 hb.1) hb.2⟩)
    ((hown.fillSame hdead hval hy (fun b hb hh => (h.hx r b (hFk b hb)).2 (hFy b hh)) hset).frame (fun _ _ => rfl) fun b hb _ => ⟨hok b hb, rfl⟩)
    (fun q ad hn ha => (adrOf_set w hset hn).trans ha)
    (fun q x hn hq hv => ⟨V.get_set_ne hset hn hq, (valOf_set hset hn).trans hv⟩)
  exact ⟨_, hrel, hok⟩
theorem Rel.letGo {C : Ctx} {H H' : Nat → Prop} {e : Env} {tm : Nat → Value} {w : World} {Fs : Nat → Nat → Prop} (h : Rel C H e tm w Fs) (hH : ∀ b, H' b → H b) : Rel C H' e tm w Fs :=
  h.world (Grow.refl _ _) fun b hb => ⟨.inl (hH b hb), (h.hn b (hH b hb)).2.2⟩
theorem toDs_get : ∀ {cs : List V} {ds : List D}, toDs cs = some ds → ds.length = cs.length ∧ ∀ (j : Nat) (v : V) (d : D), cs[j]? = some v → ds[j]? = some d → v.toD = some d
  | [], ds, h => by simp [toDs] at h; subst h; simp
  | c :: cs, ds, h => by
    simp only [toDs] at h
    obtain ⟨x, hx, h⟩ := Option.bind_eq_some_iff.1 h
    obtain ⟨xs, hxs, rfl⟩ := Option.map_eq_some_iff.1 h
    have ih := toDs_get hxs
    refine ⟨by simp [ih.1], fun j v d hv hd => ?_⟩
    cases j with
    | zero => simp at hv hd; subst hv; subst hd; exact hx
    | succ j => exact ih.2 j v d (by simpa using hv) (by simpa using hd)
theorem toDss_get : ∀ {cs : List (List V)} {ds : List (List D)}, toDss cs = some ds → ds.length = cs.length ∧ (∀ (j : Nat) (v : List V) (d : List D), cs[j]? = some v → ds[j]? = some d → toDs v = some d) ∧ toDs cs.flatten = some ds.flatten
  | [], ds, h => by simp [toDss] at h; subst h; simp [toDs]
  | c :: cs, ds, h => by
    simp only [toDss] at h
    obtain ⟨x, hx, h⟩ := Option.bind_eq_some_iff.1 h
    obtain ⟨xs, hxs, rfl⟩ := Option.map_eq_some_iff.1 h
    have ih := toDss_get hxs
    refine ⟨by simp [ih.1], fun j v d hv hd => ?_, ?_⟩
    · cases j with
      | zero => simp at hv hd; subst hv; subst hd; exact hx
      | succ j => exact ih.2.1 j v d (by simpa using hv) (by simpa using hd)
    · have key : ∀ {a b : List V} {x y : List D}, toDs a = some x → toDs b = some y → toDs (a ++ b) = some (x ++ y) := by
        intro a
        induction a with
        | nil => intro b x y h1 h2; simp [toDs] at h1; subst h1; simpa using h2
        | cons v a ih =>
          intro b x y h1 h2
          simp only [toDs] at h1
          obtain ⟨z, hz, h1⟩ := Option.bind_eq_some_iff.1 h1
          obtain ⟨zs, hzs, rfl⟩ := Option.map_eq_some_iff.1 h1
          simp only [List.cons_append, toDs, hz, Option.bind_some, ih hzs h2, Option.map_some]
      rw [List.flatten_cons, List.flatten_cons]
      exact key hx ih.2.2
theorem Own.freeze {P : Program} {w : World} {ok : Nat → Prop} {v : V} {u : Value} {F : Nat → Prop} (h : Own P w ok v u F) : ∀ {x : D}, v.toD = some x → RO w (fun b => ok b ∨ F b) x u := by
  induction h with
  | dead h1 hF => intro x hx; simp [V.toD] at hx
  | d hF hr => intro x hx; simp [V.toD] at hx; subst hx; exact hr.mono fun b hb _ => ⟨.inl hb, rfl⟩
  | nil hF => intro x hx; simp [V.toD, toDss] at hx; subst hx; exact .nil
  | @blk v u g vs cur e fz F Fs hh hg hc hd hb hF ih =>
    intro x hx
    have key : ∀ (xs : List (List V)) (sz cap : Nat) (ds : List (List D)), toDss xs = some ds → (∀ c ∈ xs, c.length = sz) → 0 < sz → xs.length ≤ cap → vs = xs.flatten → vs.length ≤ cur.size →
        RO w (fun b => ok b ∨ F b) (.sl ds) (.slice (some ⟨g, 0, none⟩) xs.length cap) := by
      intro xs sz cap ds hds hsz hz hcap hvs hle
      obtain ⟨hl, h1, h2⟩ := toDss_get hds
      have hcl := flat_len hsz
      rw [← hvs] at hcl h2
      obtain ⟨hfl, hfg⟩ := toDs_get h2
      cases xs with
      | nil => simp at hl; subst hl; exact .nil
      | cons c0 xs' =>
        rw [← hl]
        refine .sl (sz := sz) (cur.toList.take vs.length) (by intro e; simp [e] at hl) hz ?_ (by omega) (.inr ((hF g).2 (.inl rfl))) ?_ ?_ ?_
        · intro d hd'
          obtain ⟨j, hj, hjd⟩ := List.getElem_of_mem hd'
          have hjx : j < (c0 :: xs').length := by omega
          have := h1 j _ d (List.getElem?_eq_getElem hjx) (by rw [List.getElem?_eq_getElem hj, hjd])
          rw [(toDs_get this).1]
          exact hsz _ (List.getElem_mem hjx)
        · rw [List.length_take, Nat.min_eq_left (by simpa using hle), hcl, hl]
        · intro j u hu
          rw [List.getElem?_take] at hu
          split at hu
          · simp only [World.cell?, hg, Nat.zero_add]; simpa using hu
          · cases hu
        · intro j d u hd' hu
          rw [List.getElem?_take] at hu
          split at hu
          · rename_i hj
            have hu' : cur[j]? = some u := by simpa using hu
            exact (ih j vs[j] u (List.getElem?_eq_getElem hj) hu' (hfg j _ d (List.getElem?_eq_getElem hj) hd')).mono
              fun b hb _ => ⟨hb.imp id fun hb => (hF b).2 (.inr ⟨j, hj, hb⟩), rfl⟩
          · cases hu
    have hlen := hh.len
    cases v with
    | own e' xs =>
      simp only [V.toD] at hx
      obtain ⟨ds, hds, rfl⟩ := Option.map_eq_some_iff.1 hx
      obtain ⟨rfl, _, hz, hsz, hvs, cap, rfl, h1, _, _⟩ := hh
      exact key xs _ cap ds hds hsz hz h1 hvs hlen
    | row xs =>
      simp only [V.toD] at hx
      obtain ⟨ds, hds, rfl⟩ := Option.map_eq_some_iff.1 hx
      obtain ⟨hsz, hvs, _, _, cap, rfl, h1⟩ := hh
      exact key xs 1 cap ds hds hsz (by omega) h1 hvs hlen
    | d y => simp [Shape] at hh
    | _ => simp [V.toD] at hx
end Go.Mir

set_option linter.unusedVariables false
namespace Go.Mir
def leaves (P : Program) : Nat → TypeId → List TypeId
  | 0, t => [t]
  | d + 1, t =>
    match P.underlying t with
    | some (.struct fs) => fs.toList.flatMap fun f => leaves P d f.type
    | some (.array n e) => (List.replicate n ()).flatMap fun _ => leaves P d e
    | _ => [t]
def isAggT (P : Program) (t : TypeId) : Bool :=
  match P.underlying t with
  | some (.struct _) | some (.array _ _) => true
  | _ => false
def elemOr (P : Program) (t : TypeId) : Nat :=
  match P.underlying t with
  | some (.slice e) => e
  | _ => 0
def cellV (e : Nat) : Value → Option V
  | .slice none 0 0 => some (.own e [])
  | v => if plain v then some (.d (.sc v)) else none
def cellVs (P : Program) : List TypeId → List Value → Option (List V)
  | _, [] => some []
  | [], v :: vs => (cellV 0 v).bind fun x => (cellVs P [] vs).map (x :: ·)
  | t :: ts, v :: vs => (cellV (elemOr P t) v).bind fun x => (cellVs P ts vs).map (x :: ·)
def isAggV : Value → Bool
  | .agg _ => true
  | _ => false
def conT (P : Program) (t : TypeId) (v : Value) : Option T := (cellVs P (leaves P 6 t) v.cells.toList).map fun cs => .vs (isAggV v) cs
def zeroV (P : Program) (t : TypeId) : Option (List V) := ((P.info? t).bind (·.zero)).bind fun z => cellVs P (leaves P 6 t) z.cells.toList
def opd (P : Program) (t : TypeId) : Operand → Option Opd
  | .tmp t => some (.tmp t)
  | .const v => (conT P t v).map .con
  | .func f => some (.fn f)
  | .global _ => none
def opds (P : Program) : List TypeId → List Operand → Option (List Opd)
  | _, [] => some []
  | [], o :: os => (opd P 0 o).bind fun x => (opds P [] os).map (x :: ·)
  | t :: ts, o :: os => (opd P t o).bind fun x => (opds P ts os).map (x :: ·)
def optO (P : Program) : Option Operand → Option (Option Opd)
  | none => some none
  | some o => (opd P 0 o).map some
def bparts (P : Program) (fs : List Field) (places : List (Nat × Nat)) : List (Nat × Operand) → Option (List (Nat × Nat × Opd))
  | [] => some []
  | (i, x) :: ps => (places[i]?).bind fun pl => (opd P (((fs[i]?).map (·.type)).getD 0) x).bind fun o => (bparts P fs places ps).map ((pl.1, pl.2, o) :: ·)
def sparts (P : Program) (e : TypeId) : List (Nat × Operand) → Option (List (Nat × Opd))
  | [] => some []
  | (i, x) :: ps => (opd P e x).bind fun o => (sparts P e ps).map ((i, o) :: ·)
def flatKs (P : Program) (f : TypeId → Option (List K)) : List Field → Nat → Option (List K)
  | [], _ => some []
  | fd :: fs, o => if fd.offset = o ∧ fd.name ≠ "_" then (f fd.type).bind fun a => if a.length = P.cellsOf fd.type then (flatKs P f fs (o + P.cellsOf fd.type)).map (a ++ ·) else none else none
def flatK (P : Program) : Nat → TypeId → Option (List K)
  | 0, _ => none
  | d + 1, t =>
    match P.underlying t with
    | some .bool => if P.cellsOf t = 1 then some [.b] else none
    | some (.int _) => if P.cellsOf t = 1 then some [.i] else none
    | some .string => if P.cellsOf t = 1 then some [.s] else none
    | some (.struct fs) => if P.stoodInHeld t then none else flatKs P (flatK P d) fs.toList 0
    | _ => none
def eqKind (P : Program) (t : TypeId) : Option (Option (Bool × List K)) :=
  match P.underlying t with
  | some .bool => some (some (false, [.b]))
  | some (.struct _) => if P.eqGuardType P.depth t then none else (flatK P 8 t).map fun ks => some (true, ks)
  | some (.int _) | some .string => some none
  | _ => none
def appI (m : Option Md) (e sz by_ : Nat) (x y : Opd) : I := match m with | some .fz => .appd e sz by_ x y | _ => .app false e sz by_ x y
def sliceI (m : Option Md) (sz : Nat) (x : Opd) (lo hi : Option Opd) : I := match m with | some .cp => .cut sz x lo hi | _ => .slice false sz x lo hi
def storeI (m : Option Md) (n : Nat) (a v : Opd) : I := match m with | some .st => .stored n a v | _ => .store n a v
def prepI (P : Program) (m : Option Md) (o : Oper) : Option I :=
  match o.op with
  | .move x => (opd P o.type x).map (.mov (m.getD .cp))
  | .assign x => (opd P o.type x).map (.mov (m.getD .tk))
  | .pick c a b => (opd P 0 c).bind fun c => (opd P o.type a).bind fun a => (opd P o.type b).map fun b => .pick c a b
  | .alloc t => (zeroV P t).map .alloc
  | .box t x => (opd P t x).map .box
  | .build t ps =>
    match P.underlying t with
    | some (.struct fs) => (zeroV P t).bind fun z => (fs.toList.mapM (fun f => (P.info? f.type).map fun i => (f.offset, i.size))).bind fun places => (bparts P fs.toList places ps.toList).map (.build true z)
    | _ => none
  | .buildSlice t n ps =>
    match P.underlying t with
    | some (.slice e) => (zeroV P e).bind fun z => if z.length = P.cellsOf e ∧ 0 < P.cellsOf e ∧ n * P.cellsOf e ≤ 16777216 then (sparts P e ps.toList).map (.bslice e z n) else none
    | _ => none
  | .load t a => if (P.underlying t).isSome then (opd P 0 a).map (.load (m.getD .cp) (isAggT P t) (P.cellsOf t)) else none
  | .store t a v => if (P.underlying t).isSome = true ∧ o.dst = none then (opd P 0 a).bind fun a => (opd P t v).map fun v => storeI m (P.cellsOf t) a v else none
  | .nilCheck x => (opd P 0 x).map .nilc
  | .binOp op t x y _ => (eqKind P t).bind fun kd => (opd P t x).bind fun x => (opd P t y).map fun y => .bin kd op x y
  | .unOp op _ x => (opd P 0 x).map (.un op)
  | .convert src dst x =>
    match P.underlying src, P.underlying dst with
    | some (.int _), some (.int k) => (opd P 0 x).map (.conv k)
    | some .string, some .string => (opd P 0 x).map .same
    | some .string, some (.slice e) => match P.underlying e with | some (.int .u8) => (opd P 0 x).map .s2b | _ => none
    | some (.slice e), some .string => match P.underlying e with | some (.int .u8) => (opd P 0 x).map .b2s | _ => none
    | some (.slice _), some (.slice e) => if src = dst then match P.underlying e with | some (.int .u8) => (opd P 0 x).map .s2s | _ => none else none
    | _, _ => none
  | .makeFunc (.func f) first caps => if first.isEmpty then (opds P [] caps.toList).map (.mkfn f) else none
  | .makeSlice t l c =>
    match P.underlying t with
    | some (.slice e) => (zeroV P e).bind fun z => if z.length = P.cellsOf e ∧ 0 < P.cellsOf e ∧ 0 < P.bytesOf e then (opd P 0 l).bind fun l => (opd P 0 c).map fun c => .mkslice e (P.bytesOf e) z l c else none
    | _ => none
  | .slice t x lo hi mx =>
    if mx.isSome then none else
    match P.underlying t with
    | some .string => (opd P 0 x).bind fun x => (optO P lo).bind fun lo => (optO P hi).map fun hi => .slice true 1 x lo hi
    | some (.slice e) => if 0 < P.cellsOf e then (opd P t x).bind fun x => (optO P lo).bind fun lo => (optO P hi).map fun hi => sliceI m (P.cellsOf e) x lo hi else none
    | _ => none
  | .fieldAddr s x f =>
    match P.underlying s with
    | some (.struct fs) => (fs[f]?).bind fun fd => if P.cellsOf fd.type = 0 then none else (opd P 0 x).map (.fieldA fd.offset)
    | _ => none
  | .field s x f =>
    match P.underlying s with
    | some (.struct fs) => (fs[f]?).bind fun fd => if (P.underlying fd.type).isSome then (opd P 0 x).map (.field fd.offset (P.cellsOf fd.type) (isAggT P fd.type)) else none
    | _ => none
  | .indexAddr t x i =>
    match P.underlying t with
    | some (.slice e) => (opd P 0 x).bind fun x => (opd P 0 i).map fun i => .indexA (P.cellsOf e) x i
    | _ => none
  | .index t x i =>
    match P.underlying t with
    | some .string => (opd P 0 x).bind fun x => (opd P 0 i).map fun i => .indexS x i
    | _ => none
  | .extract x i => (opd P 0 x).map (.extract i)
  | .call c =>
    match c.callee with
    | .value (.func f) => (opds P c.argTypes.toList c.args.toList).map fun l => match m with | some .cp => .callr f l | _ => .call f l
    | .value (.tmp t) => (opds P c.argTypes.toList c.args.toList).map (.callv (.tmp t))
    | .builtin .len =>
      match c.args.toList, c.argTypes.toList with
      | [x], [t] =>
        match P.underlying t with
        | some .string => (opd P 0 x).map (.len true)
        | some (.slice _) => (opd P t x).map (.len false)
        | _ => none
      | _, _ => none
    | .builtin .append =>
      match c.args.toList, c.argTypes.toList with
      | [x, y], [t, t'] =>
        match P.underlying t with
        | some (.slice e) =>
          if 0 < P.cellsOf e ∧ 0 < P.bytesOf e ∧ ((P.info? e).bind (·.zero)).any (fun z => z.cells.size == P.cellsOf e) then
            match P.underlying t' with
            | some (.slice _) => (opd P t x).bind fun x => (opd P t' y).map fun y => appI m e (P.cellsOf e) (P.bytesOf e) x y
            | some .string => if P.cellsOf e = 1 then (opd P t x).bind fun x => (opd P t' y).map fun y => .app true e (P.cellsOf e) (P.bytesOf e) x y else none
            | _ => none
          else none
        | _ => none
      | _, _ => none
    | .builtin .min => match c.args.toList with
      | [x, y] => (opd P 0 x).bind fun x => (opd P 0 y).map fun y => .mn x y
      | _ => none
    | .builtin .max => match c.args.toList with
      | [x, y] => (opd P 0 x).bind fun x => (opd P 0 y).map fun y => .mx x y
      | _ => none
    | _ => none
  | _ => none
end Go.Mir

set_option linter.unusedVariables false
set_option linter.unusedSimpArgs false
namespace Go.Mir
open Go.RowKit
def ev (tm : Nat → Value) : Operand → Value
  | .tmp t => tm t
  | .const v => v
  | .global g => .pointer (some ⟨g, 0, none⟩)
  | .func f => .func (.func f) #[] #[]
def setTm (tm : Nat → Value) (d : Option Nat) (v : Value) : Nat → Value :=
  match d with
  | none => tm
  | some u => fun t => if t = u then v else tm t
abbrev No : Nat → Prop := fun _ => False
section
variable {P : Program} {w : World} {ok : Nat → Prop} {e : Env} {tm : Nat → Value}
theorem cellV_own {el : Nat} {v : Value} {x : V} (h : cellV el v = some x) : Own P w ok x v No := by
  unfold cellV at h
  split at h
  · cases h; exact .nil fun _ h => h
  · split at h
    · rename_i hp
      cases h; exact .d (fun _ h => h) (.sc hp)
    · cases h
theorem OwnL.nil : OwnL P w ok [] [] No := ⟨rfl, fun _ _ => False, by simp, by simp, by simp⟩
theorem OwnL.cons {v : V} {u : Value} {vs : List V} {us : List Value} {F G : Nat → Prop} (h1 : Own P w ok v u F) (h2 : OwnL P w ok vs us G) (hd : ∀ b, F b → ¬ G b) : OwnL P w ok (v :: vs) (u :: us) (fun b => F b ∨ G b) := by
  obtain ⟨hl, Fs, g1, g2, g3⟩ := h2
  refine ⟨by simp [hl], fun j => match j with | 0 => F | j + 1 => Fs j, ?_, ?_, ?_⟩
  · intro j z y hz hy
    cases j with
    | zero => simp at hz hy; subst hz; subst hy; exact h1
    | succ j => exact g1 j z y (by simpa using hz) (by simpa using hy)
  · intro i j b hi hj hij h3 h4
    cases i with
    | zero =>
      cases j with
      | zero => exact hij rfl
      | succ j => exact hd b h3 ((g3 b).2 ⟨j, by simpa using hj, h4⟩)
    | succ i =>
      cases j with
      | zero => exact hd b h4 ((g3 b).2 ⟨i, by simpa using hi, h3⟩)
      | succ j => exact g2 i j b (by simpa using hi) (by simpa using hj) (by omega) h3 h4
  · intro b
    constructor
    · rintro (h | h)
      · exact ⟨0, by simp, h⟩
      · obtain ⟨j, hj, h⟩ := (g3 b).1 h
        exact ⟨j + 1, by simpa using hj, h⟩
    · rintro ⟨j, hj, h⟩
      cases j with
      | zero => exact .inl h
      | succ j => exact .inr ((g3 b).2 ⟨j, by simpa using hj, h⟩)
theorem OwnL.head {v : V} {u : Value} {vs : List V} {us : List Value} {H : Nat → Prop} (h : OwnL P w ok (v :: vs) (u :: us) H) :
    ∃ F G, Own P w ok v u F ∧ OwnL P w ok vs us G ∧ (∀ b, F b → ¬ G b) ∧ ∀ b, H b ↔ F b ∨ G b := by
  obtain ⟨hl, Fs, g1, g2, g3⟩ := h
  refine ⟨Fs 0, fun b => ∃ j, j < vs.length ∧ Fs (j + 1) b, g1 0 v u rfl rfl, ⟨by simpa using hl, fun j => Fs (j + 1), ?_, ?_, fun b => Iff.rfl⟩, ?_, ?_⟩
  · intro j z y hz hy; exact g1 (j + 1) z y (by simpa using hz) (by simpa using hy)
  · intro i j b hi hj hij; exact g2 (i + 1) (j + 1) b (by simpa using hi) (by simpa using hj) (by omega)
  · rintro b h0 ⟨j, hj, h1⟩; exact g2 0 (j + 1) b (by simp) (by simpa using hj) (by omega) h0 h1
  · intro b
    rw [g3]
    constructor
    · rintro ⟨j, hj, h⟩
      cases j with
      | zero => exact .inl h
      | succ j => exact .inr ⟨j, by simpa using hj, h⟩
    · rintro (h | ⟨j, hj, h⟩)
      · exact ⟨0, by simp, h⟩
      · exact ⟨j + 1, by simpa using hj, h⟩
theorem OwnL.one {cs : List V} {us : List Value} {F : Nat → Prop} (h : OwnL P w ok cs us F) : ∀ u ∈ us, u.oneCell' = true := by
  obtain ⟨hl, Fs, g1, _, _⟩ := h
  intro u hu
  obtain ⟨j, hj, rfl⟩ := List.getElem_of_mem hu
  exact (g1 j cs[j] us[j] (List.getElem?_eq_getElem (by omega)) (List.getElem?_eq_getElem hj)).one
theorem cellVs_own : ∀ {ts : List TypeId} {vs : List Value} {cs : List V}, cellVs P ts vs = some cs → OwnL P w ok cs vs No
  | _, [], cs, h => by simp [cellVs] at h; subst h; exact OwnL.nil
  | [], v :: vs, cs, h => by
    simp only [cellVs] at h
    obtain ⟨x, hx, h⟩ := Option.bind_eq_some_iff.1 h
    obtain ⟨xs, hxs, rfl⟩ := Option.map_eq_some_iff.1 h
    exact (OwnL.cons (cellV_own hx) (cellVs_own hxs) (by simp)).ext (by simp)
  | t :: ts, v :: vs, cs, h => by
    simp only [cellVs] at h
    obtain ⟨x, hx, h⟩ := Option.bind_eq_some_iff.1 h
    obtain ⟨xs, hxs, rfl⟩ := Option.map_eq_some_iff.1 h
    exact (OwnL.cons (cellV_own hx) (cellVs_own hxs) (by simp)).ext (by simp)
theorem conT_own {t : TypeId} {v : Value} {x : T} (h : conT P t v = some x) : TR P w ok e tm x v No ∧ x.roots = [] ∧ ∃ a cs, x = .vs a cs := by
  unfold conT at h
  obtain ⟨cs, hcs, rfl⟩ := Option.map_eq_some_iff.1 h
  have h1 := cellVs_own (P := P) (w := w) (ok := ok) hcs
  refine ⟨⟨?_, ?_⟩, rfl, _, _, rfl⟩
  · cases v <;> simp [isAggV]
  · cases v <;> simp only [isAggV, cellsOf, Value.cells] at h1 ⊢ <;> exact h1
theorem OwnL.noD {cs : List V} {us : List Value} {F : Nat → Prop} (h : OwnL P w ok cs us F) (hd : cs.all V.isD = true) : ∀ b, ¬ F b := by
  obtain ⟨hl, Fs, g1, _, g3⟩ := h
  intro b hb
  obtain ⟨j, hj, hb⟩ := (g3 b).1 hb
  have hx : cs[j].isD = true := by
    rw [List.all_eq_true] at hd
    exact hd _ (List.getElem_mem hj)
  have := g1 j cs[j] us[j] (List.getElem?_eq_getElem hj) (List.getElem?_eq_getElem (by omega))
  cases hv : cs[j] with
  | d x =>
    rw [hv] at this
    cases this with
    | d hF _ => exact hF b hb
    | blk _ hh => simp [Shape] at hh
  | _ => rw [hv] at hx; simp [V.isD] at hx
theorem VS.sc {v x : Value} {F : Nat → Prop} (h : VS P w ok false [.d (.sc v)] x F) : x = v ∧ plain v = true := by
  obtain ⟨_, hl, Fs, g1, _, _⟩ := h
  have := g1 0 _ x rfl (by simp [cellsOf])
  cases this with
  | d hF hr => cases hr with | sc h => exact ⟨rfl, h⟩
  | blk _ hh => simp [Shape] at hh
theorem VS.ofSc {v : Value} (h : plain v = true) : VS P w ok false [.d (.sc v)] v No :=
  ⟨by simp, (OwnL.cons (.d (fun _ h => h) (.sc h)) OwnL.nil (by simp)).ext (by simp)⟩
theorem VS.ofOne {v : V} {u : Value} {F : Nat → Prop} (h : Own P w ok v u F) : VS P w ok false [v] u F :=
  ⟨by simp, (OwnL.cons h OwnL.nil (by simp)).ext (by simp)⟩
theorem VS.toOne {v : V} {u : Value} {F : Nat → Prop} (h : VS P w ok false [v] u F) : Own P w ok v u F := by
  obtain ⟨_, hl, Fs, g1, _, g3⟩ := h
  exact (g1 0 v u rfl (by simp [cellsOf])).ext fun b => by rw [g3]; simp
end
section
variable {C : Ctx} {H : Nat → Prop} {e e' : Env} {tm : Nat → Value} {w : World} {Fs : Nat → Nat → Prop}
theorem Rel.opd (h : Rel C H e tm w Fs) {ty : TypeId} {x : Operand} {o : Opd} (ho : opd C.P ty x = some o) :
    ∃ F, TR C.P w (okOf C.X H Fs) e tm (e.opd o) (ev tm x) F ∧ ((∃ t, o = .tmp t ∧ x = .tmp t ∧ ∀ b, F b ↔ Fs t b) ∨ ((∀ b, ¬ F b) ∧ (e.opd o).roots = [] ∧ ∀ t, o ≠ .tmp t)) := by
  cases x with
  | tmp t => simp [Mir.opd] at ho; subst ho; exact ⟨Fs t, h.tr t, .inl ⟨t, rfl, rfl, fun _ => Iff.rfl⟩⟩
  | const v =>
    simp only [Mir.opd] at ho
    obtain ⟨x, hx, rfl⟩ := Option.map_eq_some_iff.1 ho
    have := conT_own (P := C.P) (w := w) (ok := okOf C.X H Fs) (e := e) (tm := tm) hx
    exact ⟨No, this.1, .inr ⟨fun _ h => h, this.2.1, by simp⟩⟩
  | func f =>
    simp [Mir.opd] at ho; subst ho
    exact ⟨No, ⟨fun _ h => h, [], rfl, rfl, by simp⟩, .inr ⟨fun _ h => h, rfl, by simp⟩⟩
  | global g => simp [Mir.opd] at ho
theorem Rel.opdSc (h : Rel C H e tm w Fs) {ty : TypeId} {x : Operand} {o : Opd} (ho : Mir.opd C.P ty x = some o) {v : Value} (hv : e.opd o = .sc v) : ev tm x = v ∧ plain v = true := by
  obtain ⟨F, ht, _⟩ := h.opd ho
  rw [hv] at ht
  exact VS.sc ht
theorem Rel.put (h : Rel C H e tm w Fs) {dst : Option Nat} {t : T} {x : Value} {F : Nat → Prop} (hp : e.put C.rt dst t = some e') (ht : TR C.P w (okOf C.X H Fs) e tm t x F) (hF : ∀ b, F b → H b) :
    ∃ Fs', Rel C (fun b => H b ∧ ¬ F b) e' (setTm tm dst x) w Fs' := by
  cases dst with
  | none => simp [Env.put] at hp; subst hp; exact ⟨Fs, h.letGo fun b hb => hb.1⟩
  | some u =>
    simp only [Env.put] at hp
    split at hp
    · rename_i hr
      cases hp
      have hv : ∀ r, r ∈ t.roots → (u, r) ∈ C.rt ∧ r ≠ u := fun r hr' => by
        have := List.all_eq_true.1 hr r hr'
        simpa using this
      refine ⟨_, h.set u (fun b hb => .inl (hF b hb)) (fun b hb => ⟨.inl hb.1, hb.2⟩) hv (ht.change (fun _ _ => rfl) (fun b hb _ => ⟨⟨hb.1, fun hh => hb.2.1 hh.1, fun t' => ?_⟩, rfl⟩) (fun _ _ _ _ _ _ hp => hp) (fun _ _ _ _ _ _ hp => hp))⟩
      by_cases e1 : t' = u
      · simp only [e1, if_true]; exact fun hh => hb.2.1 (hF b hh)
      · simp only [e1, if_false]; exact hb.2.2 t'
    · cases hp
theorem Rel.putSc (h : Rel C H e tm w Fs) {dst : Option Nat} {v : Value} (hp : e.put C.rt dst (.sc v) = some e') (hv : plain v = true) : ∃ Fs', Rel C H e' (setTm tm dst v) w Fs' := by
  obtain ⟨Fs', h'⟩ := h.put hp (VS.ofSc hv) (F := No) (fun _ h => h.elim)
  exact ⟨Fs', by simpa [No] using h'⟩
def OkMono (C : Ctx) (H : Nat → Prop) (Fs : Nat → Nat → Prop) (H' : Nat → Prop) (Fs' : Nat → Nat → Prop) : Prop := ∀ b, okOf C.X H Fs b → okOf C.X H' Fs' b
theorem VS.okMono {P : Program} {w : World} {ok ok' : Nat → Prop} {a : Bool} {cs : List V} {x : Value} {F : Nat → Prop} (h : VS P w ok a cs x F) (hk : ∀ b, ok b → ok' b) : VS P w ok' a cs x F :=
  h.frame (fun _ _ => rfl) fun b hb _ => ⟨hk b hb, rfl⟩
theorem Rel.noH (h : Rel C H e tm w Fs) {G : Nat → Prop} (hG : ∀ b, ¬ G b) : Rel C (fun b => H b ∨ G b) e tm w Fs ∧ OkMono C H Fs (fun b => H b ∨ G b) Fs :=
  ⟨h.letGo fun b hb => hb.elim id fun hb => (hG b hb).elim, fun b hb => ⟨hb.1, fun hh => hh.elim hb.2.1 (hG b), hb.2.2⟩⟩
theorem TR.okMono {P : Program} {w : World} {ok ok' : Nat → Prop} {e : Env} {tm : Nat → Value} {t : T} {x : Value} {F : Nat → Prop} (h : TR P w ok e tm t x F) (hk : ∀ b, ok b → ok' b) : TR P w ok' e tm t x F :=
  h.change (fun _ _ => rfl) (fun b hb _ => ⟨hk b hb, rfl⟩) (fun _ _ _ _ _ _ hp => hp) (fun _ _ _ _ _ _ hp => hp)
theorem TR.noD {P : Program} {w : World} {ok : Nat → Prop} {e : Env} {tm : Nat → Value} {ts : List (Bool × List V)} {x : Value} {F : Nat → Prop} (h : TR P w ok e tm (.tup ts) x F) (hd : ts.all (fun c => c.2.all V.isD) = true) : ∀ b, ¬ F b := by
  obtain ⟨xs, rfl, hl, Fs, h1, h2, h3⟩ := h
  intro b hb
  obtain ⟨j, hj, hb⟩ := (h3 b).1 hb
  rw [List.all_eq_true] at hd
  exact OwnL.noD (h1 j ts[j] xs[j] (List.getElem?_eq_getElem hj) (List.getElem?_eq_getElem (by omega))).2 (hd _ (List.getElem_mem hj)) b hb
theorem Rel.empty (h : Rel C H e tm w Fs) (t : Nat) {F : Nat → Prop} (hF : ∀ b, F b ↔ Fs t b) :
    Rel C (fun b => H b ∨ F b) ((t, .dead) :: e.killR C.rt t) tm w (fun t' b => if t' = t then No b else Fs t' b) ∧ OkMono C H Fs (fun b => H b ∨ F b) (fun t' b => if t' = t then No b else Fs t' b) ∧ ∀ b, F b → ¬ H b := by
  have hs := h.set t (t := .dead) (x := tm t) (F := No) (H' := fun b => H b ∨ F b) (fun _ h => h.elim) (fun b hb => ⟨hb.imp id (hF b).1, fun h => h⟩) (by simp [T.roots]) (fun _ h => h)
  have htm : (fun t' => if t' = t then tm t else tm t') = tm := funext fun t' => by split <;> simp_all
  rw [htm] at hs
  exact ⟨hs, fun b hb => ⟨hb.1, fun hh => hh.elim hb.2.1 fun hh => hb.2.2 t ((hF b).1 hh), fun t' => by
    by_cases e1 : t' = t
    · simp [e1]
    · simp only [e1, if_false]; exact hb.2.2 t'⟩, fun b hb => (h.hx t b ((hF b).1 hb)).2⟩
theorem Rel.takeO (h : Rel C H e tm w Fs) {ty : TypeId} {x : Operand} {o : Opd} (ho : Mir.opd C.P ty x = some o) {t : T} (hv : e.takeO C.rt o = (t, e')) :
    ∃ F Fs', Rel C (fun b => H b ∨ F b) e' tm w Fs' ∧ TR C.P w (okOf C.X (fun b => H b ∨ F b) Fs') e' tm t (ev tm x) F ∧ (∀ b, F b → ¬ H b) ∧ OkMono C H Fs (fun b => H b ∨ F b) Fs' ∧
      (t.roots = [] ∨ (e' = e ∧ t = e.opd o)) := by
  obtain ⟨F, ht, hw⟩ := h.opd ho
  rcases hw with ⟨u, rfl, rfl, hFt⟩ | ⟨hF, hr, hnt⟩
  · simp only [Env.takeO, Env.takeT] at hv
    simp only [Env.opd] at ht
    have triv : (∀ b, ¬ F b) → e.get u = t → e = e' → ∃ F Fs', Rel C (fun b => H b ∨ F b) e' tm w Fs' ∧ TR C.P w (okOf C.X (fun b => H b ∨ F b) Fs') e' tm t (ev tm (.tmp u)) F ∧ (∀ b, F b → ¬ H b) ∧
        OkMono C H Fs (fun b => H b ∨ F b) Fs' ∧ (t.roots = [] ∨ (e' = e ∧ t = e.opd (.tmp u))) := fun hF h1 h2 => by
      subst h1; subst h2
      obtain ⟨h1, h2⟩ := h.noH hF
      exact ⟨F, Fs, h1, ht.okMono h2, fun b hb => (hF b hb).elim, h2, .inr ⟨rfl, rfl⟩⟩
    cases he : e.get u with
    | vs a' cs' =>
      rw [he] at hv ht triv
      simp only at hv
      by_cases hd : cs'.all V.isD = true
      · rw [if_pos hd] at hv
        simp only [Prod.mk.injEq] at hv
        exact triv (OwnL.noD ht.2 hd) hv.1 hv.2
      · rw [if_neg hd] at hv
        simp only [Prod.mk.injEq] at hv
        obtain ⟨rfl, rfl⟩ := hv
        obtain ⟨h1, h2, h3⟩ := h.empty u hFt
        exact ⟨F, _, h1, VS.okMono ht h2, h3, h2, .inl rfl⟩
    | tup ts =>
      rw [he] at hv ht triv
      simp only at hv
      by_cases hd : ts.all (fun c => c.2.all V.isD) = true
      · rw [if_pos hd] at hv
        simp only [Prod.mk.injEq] at hv
        exact triv (TR.noD ht hd) hv.1 hv.2
      · rw [if_neg hd] at hv
        simp only [Prod.mk.injEq] at hv
        obtain ⟨rfl, rfl⟩ := hv
        obtain ⟨h1, h2, h3⟩ := h.empty u hFt
        exact ⟨F, _, h1, (ht.okMono h2).change (fun _ _ => rfl) (fun b hb _ => ⟨hb, rfl⟩) (fun r k p ad hr => (List.not_mem_nil hr).elim) (fun _ _ _ _ hr _ _ => (List.not_mem_nil hr).elim), h3, h2, .inl rfl⟩
    | dead => rw [he] at hv ht triv; simp only [Prod.mk.injEq] at hv; exact triv ht hv.1 hv.2
    | at_ r k p => rw [he] at hv ht triv; simp only [Prod.mk.injEq] at hv; exact triv ht.1 hv.1 hv.2
    | ref r k p => rw [he] at hv ht triv; simp only [Prod.mk.injEq] at hv; exact triv ht.1 hv.1 hv.2
    | refs r k p n => rw [he] at hv ht triv; simp only [Prod.mk.injEq] at hv; exact triv ht.1 hv.1 hv.2
    | adr c => rw [he] at hv ht triv; simp only [Prod.mk.injEq] at hv; exact triv ht.1 hv.1 hv.2
    | fn f c => rw [he] at hv ht triv; simp only [Prod.mk.injEq] at hv; exact triv ht.1 hv.1 hv.2
  · obtain ⟨h1, h2⟩ := h.noH hF
    have : t = e.opd o ∧ e' = e := by
      cases o with
      | tmp t => exact (hnt t rfl).elim
      | con y => simp only [Env.takeO, Prod.mk.injEq] at hv; exact ⟨hv.1.symm, hv.2.symm⟩
      | fn f => simp only [Env.takeO, Prod.mk.injEq] at hv; exact ⟨hv.1.symm, hv.2.symm⟩
    obtain ⟨rfl, rfl⟩ := this
    exact ⟨F, Fs, h1, ht.okMono h2, fun b hb => (hF b hb).elim, h2, .inl hr⟩
theorem PlV.det {w : World} {e : Env} {tm : Nat → Value} {r k : Nat} {p : Pt} {x y : Value} (h1 : PlV w e tm r k p x) (h2 : PlV w e tm r k p y) : x = y := by
  obtain ⟨a1, cs1, v1, u1, g1, g2, g3, g4, g5⟩ := h1
  obtain ⟨a2, cs2, v2, u2, k1, k2, k3, k4, k5⟩ := h2
  rw [g1] at k1; cases k1
  rw [g2] at k2; cases k2
  rw [g3] at k3; cases k3
  rw [g5] at k5; cases k5; rfl
theorem Rel.takeRef (h : Rel C H e tm w Fs) {r k : Nat} {p : Pt} {v : V} {x : Value} (hx : PlV w e tm r k p x) (hpl : e.takePl C.rt r k p = some (v, e')) :
    ∃ F Fs', Rel C (fun b => H b ∨ F b) e' tm w Fs' ∧ Own C.P w (okOf C.X (fun b => H b ∨ F b) Fs') v x F ∧ (∀ b, F b → ¬ H b) ∧ OkMono C H Fs (fun b => H b ∨ F b) Fs' ∧ PlV w e' tm r k p x ∧ e'.cell r k p = some .dead ∧ ∀ q ad, ¬ (p <+: q ∧ p ≠ q) → PlA w e tm r k q ad → PlA w e' tm r k q ad := by
  obtain ⟨Fs', Fx, ux, h1, h2, h3, h4, h5, h6, h7, h8⟩ := h.takePl hpl
  obtain rfl := h3.det hx
  exact ⟨Fx, Fs', h1, h2, h4, fun b hb => ⟨hb.1, fun hh => by
      rcases (h5 b).1 (hh.elim .inl fun hh => .inr (.inl hh)) with hh | ⟨t, hh⟩
      · exact hb.2.1 hh
      · exact hb.2.2 t hh, fun t' hh => by
      rcases (h5 b).1 (.inr (.inr ⟨t', hh⟩)) with hh | ⟨t, hh⟩
      · exact hb.2.1 hh
      · exact hb.2.2 t hh⟩, h6, h7, h8⟩
end
end Go.Mir

set_option linter.unusedVariables false
set_option linter.unusedSimpArgs false
namespace Go.Mir
open Go.RowKit
theorem add_none (b o n : Nat) : (⟨b, o, none⟩ : Addr).add n = ⟨b, o + n, none⟩ := by
  unfold Addr.add; split <;> simp_all
theorem adr_eta {ad : Addr} (h : ad.spot = none) : ad = ⟨ad.block, ad.off, none⟩ := by cases ad; simp_all
theorem Pt.shift_zero : ∀ {p : Pt}, p ≠ [] → p.shift 0 = some p
  | [], h => (h rfl).elim
  | [(i, j)], _ => rfl
  | x :: y :: p, _ => by simp [Pt.shift, Pt.shift_zero (p := y :: p) (by simp)]
theorem Pt.shift_len {n : Nat} : ∀ {p q : Pt}, p.shift n = some q → q.length = p.length ∧ p ≠ [] ∧ q ≠ []
  | [], q, h => by simp [Pt.shift] at h
  | [(i, j)], q, h => by simp [Pt.shift] at h; subst h; simp
  | x :: y :: p, q, h => by
    simp only [Pt.shift] at h
    obtain ⟨q', hq, rfl⟩ := Option.map_eq_some_iff.1 h
    have := Pt.shift_len hq
    exact ⟨by simp [this.1], by simp, by simp⟩
theorem Pt.shift_free {n : Nat} {p q : Pt} (h : p.shift n = some q) : ¬ (q <+: p ∧ q ≠ p) := by
  rintro ⟨⟨t, rfl⟩, hne⟩
  have := (Pt.shift_len h).1
  simp at this
  subst this
  simp at hne
theorem V.kid_idx {v x : V} {i j n : Nat} (h : v.kid (i, j + n) = some x) : v.idx (i, j + n) = v.idx (i, j) + n := by
  cases v <;> simp [V.kid] at h <;> simp [V.idx, Nat.add_assoc]
theorem adrOf_shift {w : World} {n : Nat} : ∀ {p q : Pt} {v : V} {u : Value} {ad : Addr}, p.shift n = some q → (v.get q).isSome → adrOf w v u p = some ad → adrOf w v u q = some ⟨ad.block, ad.off + n, none⟩
  | [], q, v, u, ad, h, _, _ => by simp [Pt.shift] at h
  | [(i, j)], q, v, u, ad, h, hg, ha => by
    simp [Pt.shift] at h; subst h
    rw [V.get_cons] at hg
    cases hk : v.kid (i, j + n) with
    | none => simp [hk] at hg
    | some x =>
      simp only [adrOf] at ha ⊢
      cases hb : hdBlk u with
      | none => simp [hb] at ha
      | some g =>
        simp [hb] at ha; subst ha
        simp [V.kid_idx hk]
  | s :: t :: p, q, v, u, ad, h, hg, ha => by
    simp only [Pt.shift] at h
    obtain ⟨q', hq, rfl⟩ := Option.map_eq_some_iff.1 h
    obtain ⟨hl, _, hne⟩ := Pt.shift_len hq
    cases q' with
    | nil => exact (hne rfl).elim
    | cons t' q' =>
      rw [V.get_cons] at hg
      cases hk : v.kid s with
      | none => simp [hk] at hg
      | some y =>
        simp only [hk, Option.bind_some] at hg
        cases hb : hdBlk u with
        | none => simp [adrOf, hb] at ha
        | some g =>
          cases hc : w.cell? ⟨g, v.idx s, none⟩ with
          | none => simp [adrOf, hb, hc] at ha
          | some uy =>
            rw [adrOf_step hb hc hk] at ha ⊢
            exact adrOf_shift hq hg ha
section
variable {C : Ctx} {H : Nat → Prop} {e e' : Env} {tm : Nat → Value} {w : World} {Fs : Nat → Nat → Prop}
theorem PlA.shift {r k n : Nat} {p q : Pt} {ad : Addr} {x : V} (hp : PlA w e tm r k p ad) (hs : p.shift n = some q) (hc : e.cell r k q = some x) : PlA w e tm r k q ⟨ad.block, ad.off + n, none⟩ := by
  obtain ⟨a, cs, v, u, h1, h2, h3, h4⟩ := hp
  obtain ⟨a', cs', v', g1, g2, g3⟩ := Env.cell_some hc
  rw [h1] at g1; cases g1
  rw [h2] at g2; cases g2
  exact ⟨a, cs, v, u, h1, h2, h3, adrOf_shift hs (by simp [g3]) h4⟩
theorem Rel.cellAt (h : Rel C H e tm w Fs) {r k : Nat} {p : Pt} {ad : Addr} {x : V} (hp : PlA w e tm r k p ad) (hc : e.cell r k p = some x) :
    ∃ u F, w.cell? ad = some u ∧ PlV w e tm r k p u ∧ Own C.P w (okOf C.X H Fs) x u F ∧ (∀ b, F b → Fs r b) ∧ ad.spot = none := by
  obtain ⟨a, cs, v, u, h1, h2, h3, h4⟩ := hp
  obtain ⟨a', cs', v', g1, g2, g3⟩ := Env.cell_some hc
  rw [h1] at g1; cases g1
  rw [h2] at g2; cases g2
  obtain ⟨F, hF, hs⟩ := h.root h1 h2 h3
  have hne : p ≠ [] := by rintro rfl; simp [adrOf] at h4
  obtain ⟨ux, Fx, v0, F', hval, hx, _, _, hF1, _, hadr⟩ := hF.hole g3
  obtain ⟨ad', ha', hcl, _, _, hsp⟩ := hadr hne
  rw [h4] at ha'; cases ha'
  exact ⟨ux, Fx, hcl, ⟨a, cs, v, u, h1, h2, h3, by simp [g3], hval⟩, hx, fun b hb => hs b ((hF1 b).2 (.inr hb)), hsp⟩
theorem Rel.ptr (h : Rel C H e tm w Fs) {ty : TypeId} {x : Operand} {o : Opd} (ho : Mir.opd C.P ty x = some o) {q : Ptr} (hq : e.ptr o = some q) :
    match q with
    | .at_ r k p => ∃ ad, ev tm x = .pointer (some ad) ∧ PlA w e tm r k p ad
    | .adr c => AdrR w (okOf C.X H Fs) c (ev tm x) := by
  obtain ⟨F, ht, hw⟩ := h.opd ho
  unfold Env.ptr at hq
  split at hq
  · rename_i r k p he; cases hq; rw [he] at ht; exact ht.2
  · rename_i c he; cases hq; rw [he] at ht; exact ht.2
  · rename_i t c _ he; cases hq
    rcases hw with ⟨t', h1, rfl, _⟩ | ⟨_, _, hn⟩
    · cases h1
      simp only [Env.opd] at he ht
      have hown := VS.toOne (he ▸ ht)
      cases hown with
      | @blk _ _ g vs cur el fz _ Fs' hh hg hc hd hb hF =>
        obtain ⟨hfz, rfl, hl, hu⟩ := hh
        refine ⟨⟨g, 0, none⟩, hu, false, _, _, tm t, he, rfl, by simp [Mir.cellsOf], ?_⟩
        simp only [ev] at hu
        simp [adrOf, hu, hdBlk, V.idx]
    · exact (hn _ rfl).elim
  · cases hq
theorem Rel.cells (h : Rel C H e tm w Fs) {r k : Nat} {p : Pt} {ad : Addr} (hp : PlA w e tm r k p ad) (hsp : ad.spot = none) : ∀ {n i : Nat} {cs : List V}, cells (fun i => (p.shift i).bind fun q => e.cell r k q) i n = some cs →
    cs.length = n ∧ ∃ us : List Value, us.length = n ∧ ∀ (j : Nat) (v : V), cs[j]? = some v → ∃ u q F, us[j]? = some u ∧ w.cell? ⟨ad.block, ad.off + (i + j), none⟩ = some u ∧ p.shift (i + j) = some q ∧ PlV w e tm r k q u ∧
      e.cell r k q = some v ∧ Own C.P w (okOf C.X H Fs) v u F := by
  intro n
  induction n with
  | zero => intro i cs hc; simp [Mir.cells] at hc; subst hc; exact ⟨rfl, [], rfl, by simp⟩
  | succ n ih =>
    intro i cs hc
    simp only [Mir.cells] at hc
    obtain ⟨v, hv, hc⟩ := Option.bind_eq_some_iff.1 hc
    obtain ⟨vs, hvs, rfl⟩ := Option.map_eq_some_iff.1 hc
    obtain ⟨q, hq, hv⟩ := Option.bind_eq_some_iff.1 hv
    obtain ⟨u, F, h1, h2, h3, h4, _⟩ := h.cellAt (hp.shift hq hv) hv
    obtain ⟨hl, us, hus, hall⟩ := ih hvs
    refine ⟨by simp [hl], u :: us, by simp [hus], fun j z hz => ?_⟩
    cases j with
    | zero => simp at hz; subst hz; exact ⟨u, q, F, rfl, h1, hq, h2, hv, h3⟩
    | succ j =>
      obtain ⟨u', q', F', g1, g2, g3, g4⟩ := hall j z (by simpa using hz)
      rw [show i + 1 + j = i + (j + 1) by omega] at g2 g3
      exact ⟨u', q', F', by simpa using g1, g2, g3, g4⟩
end
section
variable {P : Program} {w : World}
theorem run_isAggT {t : TypeId} (h : (P.underlying t).isSome) : (isAgg t).run P w = .ok (isAggT P t) w := by
  cases hu : P.underlying t with
  | none => simp [hu] at h
  | some d => unfold isAgg isAggT; cases d <;> simp [underlying, hu]
theorem info_of_underlying {t : TypeId} (h : (P.underlying t).isSome) : ∃ i, P.info? t = some i := by
  cases hi : P.info? t with
  | none => simp [Program.underlying, hi] at h
  | some i => exact ⟨i, rfl⟩
theorem run_loadAt {t : TypeId} (h : (P.underlying t).isSome) {ad : Addr} (hsp : ad.spot = none) {us : List Value} (hl : us.length = P.cellsOf t)
    (hc : ∀ (j : Nat) (u : Value), us[j]? = some u → w.cell? ⟨ad.block, ad.off + j, none⟩ = some u) (h1 : isAggT P t = true ∨ us.length = 1) :
    ∃ x, (Instr.loadAt t (.pointer (some ad))).run P w = .ok x w ∧ cellsOf (isAggT P t) x = us ∧ (isAggT P t = true → ∃ arr, x = .agg arr) := by
  obtain ⟨i, hi⟩ := info_of_underlying h
  have had : ∀ j, ad.add j = ⟨ad.block, ad.off + j, none⟩ := fun j => by rw [adr_eta hsp]; exact add_none _ _ _
  by_cases ha : isAggT P t = true
  · refine ⟨.agg us.toArray, ?_, by simp [cellsOf, ha], fun _ => ⟨_, rfl⟩⟩
    have hsz : i.size = us.length := by rw [hl]; simp [Program.cellsOf, hi]
    have hld := run_loadCells_list (P := P) w ad us (fun j v hv => by rw [had]; exact hc j v hv)
    simp [Instr.loadAt, Instr.sureAddr, loadVar, run_isAggT h, ha, sizeOf, typeInfo, hi, hsz, hld]
  · have ha' : isAggT P t = false := by simpa using ha
    rcases h1 with h1 | h1
    · exact (ha h1).elim
    · obtain ⟨u, rfl⟩ := List.length_eq_one_iff.1 h1
      refine ⟨u, ?_, by simp [cellsOf, ha'], by simp [ha']⟩
      have hcu := hc 0 u rfl
      rw [Nat.add_zero, ← adr_eta hsp] at hcu
      simp [Instr.loadAt, Instr.sureAddr, loadVar, run_isAggT h, ha', hcu]
end
end Go.Mir

set_option linter.unusedVariables false
set_option linter.unusedSimpArgs false
namespace Go.Mir
open Go.RowKit
section
variable {C : Ctx} {tm : Nat → Value}
theorem Rel.ext {H H' : Nat → Prop} {e : Env} {w : World} {Fs : Nat → Nat → Prop} (h : Rel C H e tm w Fs) (hH : ∀ b, H' b ↔ H b) : Rel C H' e tm w Fs := h.letGo fun b hb => (hH b).1 hb
theorem Rel.fillAt {r k : Nat} {p : Pt} {ad : Addr} (hsp : ad.spot = none) : ∀ {cs : List V} {us : List Value} {H : Nat → Prop} {e e' : Env} {w : World} {Fs : Nat → Nat → Prop} {i : Nat} {F : Nat → Prop}, Rel C H e tm w Fs →
    PlA w e tm r k p ad → OwnL C.P w (okOf C.X H Fs) cs us F → (∀ b, F b → H b) → Env.fillAt C.rt r k p e i cs = some e' →
    ∃ w' Fs', (storeCells ⟨ad.block, ad.off, none⟩ us i).run C.P w = .ok () w' ∧ Rel C (fun b => H b ∧ ¬ F b) e' tm w' Fs' := by
  intro cs
  induction cs with
  | nil =>
    intro us H e e' w Fs i F h hp ho hF hf
    simp [Env.fillAt] at hf; subst hf
    have : us = [] := List.eq_nil_of_length_eq_zero (by rw [← ho.1]; rfl)
    subst this
    exact ⟨w, Fs, rfl, h.letGo fun b hb => hb.1⟩
  | cons v cs ih =>
    intro us H e e' w Fs i F h hp ho hF hf
    simp only [Env.fillAt] at hf
    obtain ⟨q, hq, hf⟩ := Option.bind_eq_some_iff.1 hf
    obtain ⟨e1, he1, hf⟩ := Option.bind_eq_some_iff.1 hf
    cases us with
    | nil => simp [OwnL] at ho
    | cons u us =>
      obtain ⟨F0, G, g1, g2, g3, g4⟩ := ho.head
      have hcell : ∃ x, e.cell r k q = some x := by
        obtain ⟨a, cs', v', v1, k1, k2, k3, _⟩ := Env.setCell_some he1
        obtain ⟨x, hx⟩ := V.get_of_set k3
        exact ⟨x, by simp only [Env.cell, k1, k2, Option.bind_some, hx]⟩
      obtain ⟨x, hx⟩ := hcell
      have hpq := hp.shift hq hx
      obtain ⟨Fs1, k1, ⟨c, k2⟩, k3, k4, k5, k6⟩ := h.layPl he1 hpq g1 (fun b hb => hF b ((g4 b).2 (.inl hb)))
      have hG : ∀ b, G b → H b ∧ ¬ F0 b := fun b hb => ⟨hF b ((g4 b).2 (.inr hb)), fun hh => g3 b hh hb⟩
      have g2' : OwnL C.P (w.setCell ⟨ad.block, ad.off + i, none⟩ u) (okOf C.X (fun b => H b ∧ ¬ F0 b) Fs1) cs us G :=
        g2.frame (fun b hb => k4.block b (g2.lt b hb) fun hh => (h.hx r b hh).2 (hG b hb).1) fun b hb hl => ⟨k5 b hb, k4.block b hl fun hh => hb.2.2 r hh⟩
      obtain ⟨w', Fs', m1, m2⟩ := ih k1 (k6 p ad (Pt.shift_free hq) hp) g2' hG hf
      refine ⟨w', Fs', ?_, m2.letGo fun b hb => ⟨⟨hb.1, fun hh => hb.2 ((g4 b).2 (.inl hh))⟩, fun hh => hb.2 ((g4 b).2 (.inr hh))⟩⟩
      rw [storeCells]
      simp only [Sem.run_bind, add_none, run_store C.P w _ u .plain g1.one, k2, k3, Bool.false_eq_true, if_false, Result.andThen_ok]
      exact m1
theorem Rel.takeAt {r k : Nat} {p : Pt} {ad : Addr} {w : World} : ∀ {n : Nat} {H : Nat → Prop} {e e' : Env} {Fs : Nat → Nat → Prop} {i : Nat} {cs : List V}, Rel C H e tm w Fs →
    PlA w e tm r k p ad → Env.takeAt C.rt r k p e i n = some (cs, e') →
    ∃ (us : List Value) (F : Nat → Prop) (Fs' : Nat → Nat → Prop), us.length = n ∧ (∀ (j : Nat) (u : Value), us[j]? = some u → w.cell? ⟨ad.block, ad.off + (i + j), none⟩ = some u) ∧ Rel C (fun b => H b ∨ F b) e' tm w Fs' ∧ OwnL C.P w (okOf C.X (fun b => H b ∨ F b) Fs') cs us F ∧
      (∀ b, F b → ¬ H b) ∧ OkMono C H Fs (fun b => H b ∨ F b) Fs' := by
  intro n
  induction n with
  | zero =>
    intro H e e' Fs i cs h hp ht
    simp [Env.takeAt] at ht
    obtain ⟨rfl, rfl⟩ := ht
    obtain ⟨h1, h2⟩ := h.noH (G := No) (fun _ h => h)
    exact ⟨[], No, Fs, rfl, by simp, h1, OwnL.nil, fun b hb => hb.elim, h2⟩
  | succ n ih =>
    intro H e e' Fs i cs h hp ht
    simp only [Env.takeAt] at ht
    obtain ⟨q, hq, ht⟩ := Option.bind_eq_some_iff.1 ht
    obtain ⟨⟨v, e1⟩, hv, ht⟩ := Option.bind_eq_some_iff.1 ht
    obtain ⟨⟨vs, e2⟩, hvs, heq⟩ := Option.map_eq_some_iff.1 ht
    simp only [Prod.mk.injEq] at heq
    obtain ⟨rfl, rfl⟩ := heq
    have hcell : e.cell r k q = some v := by
      unfold Env.takePl at hv
      obtain ⟨y, hy, hv⟩ := Option.bind_eq_some_iff.1 hv
      obtain ⟨z, _, hv⟩ := Option.map_eq_some_iff.1 hv
      simp only [Prod.mk.injEq] at hv
      rw [hy, hv.1]
    obtain ⟨u, F0, c1, c2, _, _, c3⟩ := h.cellAt (hp.shift hq hcell) hcell
    obtain ⟨Fx, Fs1, k1, k2, k3, k4, k5, k6, k7⟩ := h.takeRef c2 hv
    obtain ⟨us, F, Fs', m1, m2, m3, m4, m5, m6⟩ := ih k1 (k7 p ad (Pt.shift_free hq) hp) hvs
    refine ⟨u :: us, fun b => Fx b ∨ F b, Fs', by simp [m1], fun j z hz => ?_, m3.ext (by simp [or_assoc]), ?_, fun b hb => hb.elim (k3 b) fun hb hh => m5 b hb (.inl hh), fun b hb => ?_⟩
    · cases j with
      | zero => simp at hz; subst hz; exact c1
      | succ j =>
        rw [show i + (j + 1) = i + 1 + j by omega]
        exact m2 j z (by simpa using hz)
    · have hk : ∀ b, okOf C.X (fun b => (H b ∨ Fx b) ∨ F b) Fs' b → okOf C.X (fun b => H b ∨ Fx b ∨ F b) Fs' b := fun b hb => ⟨hb.1, fun hh => hb.2.1 (or_assoc.2 hh), hb.2.2⟩
      exact OwnL.cons (k2.frame (fun _ _ => rfl) fun b hb _ => ⟨hk b (m6 b hb), rfl⟩) (m4.frame (fun _ _ => rfl) fun b hb _ => ⟨hk b hb, rfl⟩) fun b hb hh => m5 b hh (.inr hb)
    · have := m6 b (k4 b hb)
      exact ⟨this.1, fun hh => this.2.1 (or_assoc.2 hh), this.2.2⟩
theorem Rel.dataAt {r k : Nat} {p : Pt} {ad : Addr} {w : World} {H : Nat → Prop} {e : Env} {Fs : Nat → Nat → Prop} (h : Rel C H e tm w Fs) (hp : PlA w e tm r k p ad) (hsp : ad.spot = none) {n : Nat} {cs : List V} (hc : e.cellsAt r k p n = some cs) :
    ∃ us : List Value, us.length = n ∧ cs.length = n ∧ (∀ (j : Nat) (u : Value), us[j]? = some u → w.cell? ⟨ad.block, ad.off + j, none⟩ = some u) ∧ (∀ u ∈ us, u.oneCell' = true) ∧
      (∀ (j : Nat) (x : D), cs[j]? = some (.d x) → ∃ u, us[j]? = some u ∧ RO w (okOf C.X H Fs) x u) ∧ (∀ (j : Nat) (v : V), cs[j]? = some v → ∃ u q, us[j]? = some u ∧ p.shift j = some q ∧ PlV w e tm r k q u ∧ e.cell r k q = some v) := by
  obtain ⟨hl, us, hus, hall⟩ := h.cells hp hsp hc
  refine ⟨us, hus, hl, fun j u hu => ?_, fun u hu => ?_, fun j x hx => ?_, fun j v hv => ?_⟩
  · have hj : j < cs.length := by rw [hl, ← hus]; exact (List.getElem?_eq_some_iff.1 hu).1
    obtain ⟨u', q, F, g1, g2, _⟩ := hall j cs[j] (List.getElem?_eq_getElem hj)
    rw [hu] at g1; cases g1
    simpa using g2
  · obtain ⟨j, hj, rfl⟩ := List.getElem_of_mem hu
    obtain ⟨u', q, F, g1, _, _, _, _, g2⟩ := hall j cs[j] (List.getElem?_eq_getElem (by omega))
    rw [List.getElem?_eq_getElem hj] at g1; cases g1
    exact g2.one
  · obtain ⟨u', q, F, g1, _, _, _, _, g2⟩ := hall j _ hx
    refine ⟨u', g1, ?_⟩
    cases g2 with
    | d _ hr => exact hr
    | blk _ hh => simp [Shape] at hh
  · obtain ⟨u', q, F, g1, _, g3, g4, g5, _⟩ := hall j v hv
    exact ⟨u', q, g1, by simpa using g3, g4, g5⟩
theorem OwnL.ofData {P : Program} {w : World} {ok : Nat → Prop} {cs : List V} {us : List Value} (hl : cs.length = us.length) (h : ∀ (j : Nat) (v : V) (u : Value), cs[j]? = some v → us[j]? = some u → Own P w ok v u No) : OwnL P w ok cs us No :=
  ⟨hl, fun _ => No, h, fun _ _ _ _ _ _ h => h.elim, fun b => ⟨fun h => h.elim, fun ⟨_, _, h⟩ => h⟩⟩
theorem VS.freeze {P : Program} {w : World} {ok ok' : Nat → Prop} {a : Bool} {cs : List V} {x : Value} {F : Nat → Prop} {ds : List D} (h : VS P w ok a cs x F) (hd : toDs cs = some ds) (hk : ∀ b, ok b ∨ F b → ok' b) : VS P w ok' a (dsV ds) x No := by
  obtain ⟨ha, hl, Fc, g1, g2, g3⟩ := h
  obtain ⟨hdl, hdg⟩ := toDs_get hd
  refine ⟨ha, OwnL.ofData (by simp [dsV, hdl, hl]) fun j v u hv hu => ?_⟩
  simp only [dsV, List.getElem?_map] at hv
  obtain ⟨d, hd', rfl⟩ := Option.map_eq_some_iff.1 hv
  have hj : j < cs.length := by rw [← hdl]; exact (List.getElem?_eq_some_iff.1 hd').1
  have h1 := g1 j cs[j] u (List.getElem?_eq_getElem hj) hu
  exact .d (fun _ h => h) ((h1.freeze (hdg j _ d (List.getElem?_eq_getElem hj) hd')).mono fun b hb _ => ⟨hk b (hb.imp id fun hb => (g3 b).2 ⟨j, hj, hb⟩), rfl⟩)
theorem Rel.frzPl {H : Nat → Prop} {e e1 : Env} {w : World} {Fs : Nat → Nat → Prop} (h : Rel C H e tm w Fs) {r k : Nat} {p : Pt} {v : V} {x : D} (hc : e.cell r k p = some v) (hx : v.toD = some x) (hs : e.setCell r k p (.d x) = some e1) :
    ∃ (Fs' : Nat → Nat → Prop) (u : Value), Rel C H (e1.kill C.rt r k p) tm w Fs' ∧ OkMono C H Fs H Fs' ∧ PlV w e tm r k p u ∧ RO w (okOf C.X H Fs') x u ∧
      ∀ q ad', ¬ (p <+: q ∧ p ≠ q) → PlA w e tm r k q ad' → PlA w (e1.kill C.rt r k p) tm r k q ad' := by
  obtain ⟨a, cs, v0, hr, hcs, hg⟩ := Env.cell_some hc
  obtain ⟨a', cs', v', v1, hr', hc', hset, rfl⟩ := Env.setCell_some hs
  rw [hr] at hr'; cases hr'
  rw [hcs] at hc'; cases hc'
  obtain ⟨u, hu⟩ := h.cellsOf hr hcs
  obtain ⟨Fk, hown, hFk, hp⟩ := h.place hr hcs hu
  obtain ⟨ux, Fx, v2, F', hval, hxo, hs', hown', hF1, hF2, _⟩ := hown.hole hg
  have hFs : ∀ b, F' b → Fs r b := fun b hb => hFk b ((hF1 b).2 (.inl hb))
  have hok : ∀ b, okOf C.X H Fs b ∨ Fx b → okOf C.X H (fun t b => if t = r then (Fs r b ∧ ¬ Fk b) ∨ F' b else Fs t b) b := fun b hb => by
    rcases hb with hb | hb
    · exact ⟨hb.1, hb.2.1, fun t => by
        by_cases e1 : t = r
        · simp only [e1, if_true]
          rintro (⟨h1, _⟩ | h1)
          · exact hb.2.2 r h1
          · exact hb.2.2 r (hFs b h1)
        · simp only [e1, if_false]; exact hb.2.2 t⟩
    · have hbk : Fk b := (hF1 b).2 (.inr hb)
      refine ⟨(h.hx r b (hFk b hbk)).1, (h.hx r b (hFk b hbk)).2, fun t => ?_⟩
      by_cases e1 : t = r
      · simp only [e1, if_true]
        rintro (⟨_, h1⟩ | h1)
        · exact h1 hbk
        · exact hF2 b h1 hb
      · simp only [e1, if_false]; exact fun hh => h.dj t r b e1 hh (hFk b hbk)
  have hro : RO w (okOf C.X H (fun t b => if t = r then (Fs r b ∧ ¬ Fk b) ∨ F' b else Fs t b)) x ux := (hxo.freeze hx).mono fun b hb _ => ⟨hok b hb, rfl⟩
  have hset2 : v2.set p (.d x) = some v1 := (V.set_set _ hs').trans hset
  have hval2 : valOf w v2 u p = some ux := by
    cases p with
    | nil => exact hval
    | cons s p => simp only [valOf] at hval ⊢; rwa [adrOf_set w hs' fun hh => hh.2 rfl]
  have hrel := hp p (.d x) v1 w H F' hset (Grow.refl _ _) (fun b hb => .inl ((hF1 b).2 (.inl hb))) (fun b hb => ⟨.inl hb, fun hh => (h.hx r b (hFs b hh)).2 hb⟩)
    (((hown'.frame (fun _ _ => rfl) fun b hb _ => ⟨hok b (.inl hb), rfl⟩).fillSame (V.get_set hs') hval2 (.d (F := No) (fun _ h => h) hro) (fun _ _ h => h) hset2).ext fun b => by simp)
    (fun q ad hn ha => (adrOf_set w hset hn).trans ha)
    (fun q x hn hq hv => ⟨V.get_set_ne hset hn hq, (valOf_set hset hn).trans hv⟩)
  have hk := (List.getElem?_eq_some_iff.1 hcs).1
  have hgr : (Env.kill C.rt ((r, T.vs a (cs.set k v1)) :: e) r k p).get r = .vs a (cs.set k v1) := by
    unfold Env.kill
    rw [Env.get_over]
    simp only [Env.get, if_true, T.kill, ite_self]
  refine ⟨_, ux, hrel, fun b hb => hok b (.inl hb), ⟨a, cs, v0, u, hr, hcs, hu, by simp [hg], hval⟩, hro, ?_⟩
  rintro q ad' hn ⟨a2, cs2, v3, u2, g1, g2, g3, g4⟩
  rw [hr] at g1; cases g1
  rw [hcs] at g2; cases g2
  rw [hu] at g3; cases g3
  exact ⟨a, cs.set k v1, v1, u, hgr, List.getElem?_set_self hk, hu, (adrOf_set w hset hn).trans g4⟩
end
theorem PlV.adr {w : World} {e : Env} {tm : Nat → Value} {r k : Nat} {p : Pt} {x : Value} (h : PlV w e tm r k p x) (hp : p ≠ []) : ∃ ad, PlA w e tm r k p ad ∧ w.cell? ad = some x := by
  obtain ⟨a, cs, v, u, g1, g2, g3, g4, g5⟩ := h
  cases p with
  | nil => exact (hp rfl).elim
  | cons s p =>
    simp only [valOf] at g5
    obtain ⟨ad, h1, h2⟩ := Option.bind_eq_some_iff.1 g5
    exact ⟨ad, ⟨a, cs, v, u, g1, g2, g3, h1⟩, h2⟩
theorem PlV.cell {w : World} {e : Env} {tm : Nat → Value} {r k : Nat} {p : Pt} {x : Value} (h : PlV w e tm r k p x) : ∃ y, e.cell r k p = some y := by
  obtain ⟨a, cs, v, u, g1, g2, g3, g4, g5⟩ := h
  obtain ⟨y, hy⟩ := Option.isSome_iff_exists.1 g4
  exact ⟨y, by simp only [Env.cell, g1, g2, Option.bind_some, hy]⟩
theorem PlA.det {w : World} {e : Env} {tm : Nat → Value} {r k : Nat} {p : Pt} {a b : Addr} (h1 : PlA w e tm r k p a) (h2 : PlA w e tm r k p b) : a = b := by
  obtain ⟨_, _, _, _, g1, g2, g3, g4⟩ := h1
  obtain ⟨_, _, _, _, k1, k2, k3, k4⟩ := h2
  rw [g1] at k1; cases k1
  rw [g2] at k2; cases k2
  rw [g3] at k3; cases k3
  rw [g4] at k4; cases k4
  rfl
theorem Rel.vals {C : Ctx} {H : Nat → Prop} {e e' : Env} {tm : Nat → Value} {w : World} {Fs : Nat → Nat → Prop} (h : Rel C H e tm w Fs) {ty : TypeId} {x : Operand} {o : Opd} (ho : Mir.opd C.P ty x = some o) {a : Bool} {cs : List V} (hv : e.vals C.rt o = some (a, cs, e')) :
    ∃ F Fs', Rel C (fun b => H b ∨ F b) e' tm w Fs' ∧ VS C.P w (okOf C.X (fun b => H b ∨ F b) Fs') a cs (ev tm x) F ∧ (∀ b, F b → ¬ H b) ∧ OkMono C H Fs (fun b => H b ∨ F b) Fs' := by
  unfold Env.vals at hv
  split at hv
  · rename_i a' cs' e1 ht
    simp only [Option.some.injEq, Prod.mk.injEq] at hv
    obtain ⟨rfl, rfl, rfl⟩ := hv
    obtain ⟨F, Fs', h1, h2, h3, h4, _⟩ := h.takeO ho ht
    exact ⟨F, Fs', h1, h2, h3, h4⟩
  · rename_i r k p e1 ht
    obtain ⟨⟨v, e2⟩, hpl, hq⟩ := Option.map_eq_some_iff.1 hv
    simp only [Prod.mk.injEq] at hq
    obtain ⟨rfl, rfl, rfl⟩ := hq
    obtain ⟨F, ht', _⟩ := h.opd ho
    obtain ⟨F1, Fs1, h1, h2, h3, h4, h5⟩ := h.takeO ho ht
    rcases h5 with h5 | ⟨rfl, h5⟩
    · simp [T.roots] at h5
    · rw [← h5] at ht'
      obtain ⟨F2, Fs2, k1, k2, k3, k4, _⟩ := h.takeRef ht'.2 hpl
      exact ⟨F2, Fs2, k1, VS.ofOne k2, k3, k4⟩
  · rename_i r k p n e1 ht
    obtain ⟨⟨cs', e2⟩, hta, hq⟩ := Option.map_eq_some_iff.1 hv
    simp only [Prod.mk.injEq] at hq
    obtain ⟨rfl, rfl, rfl⟩ := hq
    obtain ⟨F, ht', _⟩ := h.opd ho
    obtain ⟨F1, Fs1, h1, h2, h3, h4, h5⟩ := h.takeO ho ht
    rcases h5 with h5 | ⟨rfl, h5⟩
    · simp [T.roots] at h5
    · rw [← h5] at ht'
      obtain ⟨_, hn, arr, hx, hs, hall⟩ := ht'
      obtain ⟨q0, hq0, hpv0⟩ := hall 0 _ (Array.getElem?_eq_getElem (by omega))
      have hpne : p ≠ [] := (Pt.shift_len hq0).2.1
      rw [Pt.shift_zero hpne] at hq0
      cases hq0
      obtain ⟨ad, hpa, _⟩ := hpv0.adr hpne
      obtain ⟨us, F2, Fs2, k1, k2, k3, k4, k5, k6⟩ := h.takeAt hpa hta
      refine ⟨F2, Fs2, k3, ⟨fun _ => ⟨arr, hx⟩, ?_⟩, k5, k6⟩
      have : us = arr.toList := by
        apply List.ext_getElem?
        intro j
        by_cases hj : j < n
        · have hu := List.getElem?_eq_getElem (show j < us.length by omega)
          have ha := Array.getElem?_eq_getElem (show j < arr.size by omega)
          obtain ⟨q, hq, hpv⟩ := hall j _ ha
          obtain ⟨ad', hpa', hc'⟩ := hpv.adr (Pt.shift_len hq).2.2
          obtain ⟨y, hy⟩ := hpv.cell
          have h6 := (hpa.shift hq hy).det hpa'
          have h7 := k2 j _ hu
          simp only [Nat.zero_add] at h7
          rw [h6, hc'] at h7
          rw [hu, ← h7]
          simp [ha]
        · rw [List.getElem?_eq_none (by omega), List.getElem?_eq_none (by simp; omega)]
      rw [this] at k4
      rw [hx]
      simpa [Mir.cellsOf] using k4
  · cases hv
end Go.Mir

set_option linter.unusedVariables false
set_option linter.unusedSimpArgs false
namespace Go.Mir
open Go.RowKit
def Done (C : Ctx) (o : Oper) (e' : Env) (tm : Nat → Value) (w : World) : Prop :=
  ∃ v w' Fs', ((execOp (ev tm) o).run C.P w = .ok (.value v) w' ∨ ((execOp (ev tm) o).run C.P w = .ok .skip w' ∧ v = undef)) ∧ Rel C No e' (setTm tm o.dst v) w' Fs'
section
variable {C : Ctx} {e e' : Env} {tm : Nat → Value} {w : World} {Fs : Nat → Nat → Prop} {o : Oper}
theorem T.bool?_eq {t : T} {b : Bool} (h : t.bool? = some b) : t = .bool b := by
  unfold T.bool? at h; split at h <;> simp_all
theorem T.int?_eq {t : T} {k : IntKind} {n : Int} (h : t.int? = some (k, n)) : t = .int k n := by
  unfold T.int? at h; split at h <;> simp_all
theorem T.str?_eq {t : T} {s : ByteArray} (h : t.str? = some s) : t = .str s := by
  unfold T.str? at h; split at h <;> simp_all
theorem Rel.toBool (h : Rel C No e tm w Fs) {ty : TypeId} {x : Operand} {q : Opd} (ho : Mir.opd C.P ty x = some q) {b : Bool} (hb : (e.opd q).bool? = some b) : ev tm x = .bool b := (h.opdSc ho (T.bool?_eq hb)).1
theorem Rel.toInt (h : Rel C No e tm w Fs) {ty : TypeId} {x : Operand} {q : Opd} (ho : Mir.opd C.P ty x = some q) {k : IntKind} {n : Int} (hb : (e.opd q).int? = some (k, n)) : ev tm x = .int k n := (h.opdSc ho (T.int?_eq hb)).1
theorem Rel.toStr (h : Rel C No e tm w Fs) {ty : TypeId} {x : Operand} {q : Opd} (ho : Mir.opd C.P ty x = some q) {s : ByteArray} (hb : (e.opd q).str? = some s) : ev tm x = .string s := (h.opdSc ho (T.str?_eq hb)).1
theorem Rel.cp {H : Nat → Prop} (h : Rel C H e tm w Fs) {ty : TypeId} {x : Operand} {q : Opd} (ho : Mir.opd C.P ty x = some q) {t : T} (ht : T.cp q (e.opd q) = some t) : TR C.P w (okOf C.X H Fs) e tm t (ev tm x) No := by
  obtain ⟨F, hr, hw⟩ := h.opd ho
  have own : ∀ (t' : Nat) (v : V), q = .tmp t' → e.get t' = .vs false [v] → x = .tmp t' := fun t' v hq he => by
    rcases hw with ⟨t2, h1, h2, _⟩ | ⟨_, _, hn⟩
    · rw [hq] at h1; cases h1; exact h2
    · exact (hn t' hq).elim
  unfold T.cp at ht
  split at ht
  · rename_i x' agg cs heq
    by_cases hd : cs.all V.isD = true
    · rw [if_pos hd] at ht
      cases ht
      rw [heq] at hr ⊢
      exact VS.ext hr fun b => ⟨fun h => h.elim, fun h => OwnL.noD hr.2 hd b h⟩
    · rw [if_neg hd] at ht
      split at ht
      · cases ht
        obtain rfl := own _ _ rfl heq
        exact ⟨fun _ h => h, false, _, _, _, heq, rfl, rfl, by simp [V.get_nil], rfl⟩
      · cases ht
        obtain rfl := own _ _ rfl heq
        exact ⟨fun _ h => h, false, _, _, _, heq, rfl, rfl, by simp [V.get_nil], rfl⟩
      · cases ht
        obtain rfl := own _ _ rfl heq
        exact ⟨fun _ h => h, h.ptr ho (by unfold Env.ptr; simp only [Env.opd] at heq ⊢; rw [heq])⟩
      · cases ht
  · rename_i x' ts heq
    by_cases hd : ts.all (fun c => c.2.all V.isD) = true
    · rw [if_pos hd] at ht
      cases ht
      rw [heq] at hr ⊢
      exact hr.ext fun b => ⟨fun h => h.elim, fun h => TR.noD hr hd b h⟩
    · rw [if_neg hd] at ht; cases ht
  · cases ht
  · cases ht
    refine hr.ext fun b => ⟨fun h => h.elim, fun hb => ?_⟩
    cases heq : e.opd q with
    | at_ r k p => rw [heq] at hr; exact hr.1 b hb
    | ref r k p => rw [heq] at hr; exact hr.1 b hb
    | refs r k p n => rw [heq] at hr; exact hr.1 b hb
    | adr c => rw [heq] at hr; exact hr.1 b hb
    | fn f c => rw [heq] at hr; exact hr.1 b hb
    | _ => simp_all
theorem done_mk {v : Value} {w' : World} {Fs' : Nat → Nat → Prop} {H : Nat → Prop} (hr : (execOp (ev tm) o).run C.P w = .ok (.value v) w') (h : Rel C H e' (setTm tm o.dst v) w' Fs') : Done C o e' tm w :=
  ⟨v, w', Fs', .inl hr, h.letGo fun b hb => hb.elim⟩
theorem noH (h : Rel C No e tm w Fs) {F : Nat → Prop} {Fs' : Nat → Nat → Prop} : True := trivial
theorem Rel.putHeld {F : Nat → Prop} (h : Rel C (fun b => No b ∨ F b) e tm w Fs) {dst : Option Nat} {t : T} {x : Value} (hp : e.put C.rt dst t = some e') (ht : TR C.P w (okOf C.X (fun b => No b ∨ F b) Fs) e tm t x F) :
    ∃ Fs', Rel C No e' (setTm tm dst x) w Fs' := by
  obtain ⟨Fs', h'⟩ := h.put hp ht fun b hb => .inr hb
  exact ⟨Fs', h'.letGo fun b hb => hb.elim⟩
theorem ok_move (h : Rel C No e tm w Fs) {x : Operand} {q : Opd} {m : Md} (hop : o.op = .move x ∨ o.op = .assign x) {ty : TypeId} (hq : Mir.opd C.P ty x = some q) {call : FuncId → List T → Option Res} {pm : FuncId → List PM}
    (hi : ioI call pm C.rt e o.dst (.mov m q) = some e') : Done C o e' tm w := by
  have hrun : ∀ w, (execOp (ev tm) o).run C.P w = .ok (.value (ev tm x)) w := fun w => by rcases hop with hop | hop <;> simp [execOp, hop]
  cases m with
  | cp =>
    simp only [ioI] at hi
    obtain ⟨t, ht, hp⟩ := Option.bind_eq_some_iff.1 hi
    obtain ⟨Fs', h'⟩ := h.put hp (h.cp hq ht) fun b hb => hb.elim
    exact done_mk (hrun w) (h'.letGo (H' := No) fun b hb => hb.elim)
  | tk =>
    simp only [ioI] at hi
    split at hi
    · rename_i a cs e1 hv
      obtain ⟨F, Fs1, h1, h2, _, _⟩ := h.vals hq hv
      obtain ⟨Fs', h'⟩ := h1.putHeld hi h2
      exact done_mk (hrun w) h'
    · split at hi
      · cases hi
      · cases hi
      · cases hi
      · rename_i t e1 _ _ _ ht
        obtain ⟨F, Fs1, h1, h2, _, _, _⟩ := h.takeO hq ht
        obtain ⟨Fs', h'⟩ := h1.putHeld hi h2
        exact done_mk (hrun w) h'
  | fz =>
    simp only [ioI] at hi
    split at hi
    · rename_i t a cs heq
      obtain ⟨ds, hds, hp⟩ := Option.bind_eq_some_iff.1 hi
      obtain ⟨F, ht, hw⟩ := h.opd hq
      rcases hw with ⟨t2, h1, rfl, hFt⟩ | ⟨_, _, hn⟩
      · cases h1
        rw [heq] at ht
        have hv : VS C.P w (okOf C.X No fun t' b => if t' = t then No b else Fs t' b) a (dsV ds) (tm t) No := VS.freeze ht hds fun b hb => by
          rcases hb with hb | hb
          · refine ⟨hb.1, fun h => h, fun t' => ?_⟩
            by_cases e1 : t' = t
            · simp [e1]
            · simp only [e1, if_false]; exact hb.2.2 t'
          · refine ⟨(h.hx t b ((hFt b).1 hb)).1, fun h => h, fun t' => ?_⟩
            by_cases e1 : t' = t
            · simp [e1]
            · simp only [e1, if_false]; exact fun hh => h.dj t' t b e1 hh ((hFt b).1 hb)
        have hs := h.set t (t := .vs a (dsV ds)) (x := tm t) (F := No) (H' := No) (fun _ h => h.elim) (fun b hb => hb.elim) (by simp [T.roots]) hv
        have htm : (fun t' => if t' = t then tm t else tm t') = tm := funext fun t' => by split <;> simp_all
        rw [htm] at hs
        obtain ⟨Fs', h'⟩ := hs.put hp hv fun b hb => hb.elim
        exact done_mk (hrun w) (h'.letGo (H' := No) fun b hb => hb.elim)
      · exact (hn _ rfl).elim
    · rename_i r k p heq
      obtain ⟨v, hv, hi⟩ := Option.bind_eq_some_iff.1 hi
      obtain ⟨y, hy, hi⟩ := Option.bind_eq_some_iff.1 hi
      obtain ⟨e1, he1, hp⟩ := Option.bind_eq_some_iff.1 hi
      obtain ⟨F, ht, hw⟩ := h.opd hq
      rw [heq] at ht
      obtain ⟨Fs1, u, h1, h2, h3, h4, _⟩ := h.frzPl hv hy he1
      obtain rfl := h3.det ht.2
      obtain ⟨Fs', h'⟩ := h1.put hp (VS.ofOne (.d (F := No) (fun _ h => h) h4)) fun b hb => hb.elim
      exact done_mk (hrun w) (h'.letGo (H' := No) fun b hb => hb.elim)
    · cases hi
  | st =>
    simp only [ioI] at hi
    have hz : TR C.P w (okOf C.X No Fs) e tm (T.lzp C.rt o.dst (T.lz q (e.opd q))) (ev tm x) No := by
      suffices hh : TR C.P w (okOf C.X No Fs) e tm (T.lz q (e.opd q)) (ev tm x) No by
        unfold T.lzp
        split
        · exact hh
        · split
          · exact hh
          · exact fun _ h => h
      obtain ⟨F, ht, hw⟩ := h.opd hq
      have hstrip : ∀ {a : Bool} {cs : List V}, TR C.P w (okOf C.X No Fs) e tm (.vs a cs) (ev tm x) F → TR C.P w (okOf C.X No Fs) e tm (.vs a (cs.map V.strip)) (ev tm x) No := fun {a cs} ht => by
        obtain ⟨ha, hl, Fc, g1, g2, g3⟩ := ht
        refine ⟨ha, OwnL.ofData (by simpa using hl) fun j v u hv hu => ?_⟩
        rw [List.getElem?_map] at hv
        obtain ⟨v0, hv0, rfl⟩ := Option.map_eq_some_iff.1 hv
        have := g1 j v0 u hv0 hu
        cases v0 with
        | d y =>
          cases this with
          | d hF hr => exact .d (fun _ h => h) hr
          | blk _ hh => simp [Shape] at hh
        | _ => exact .dead this.one fun _ h => h
      cases heq : e.opd q with
      | vs a cs =>
        rw [heq] at ht
        simp only [T.lz]
        split
        · rename_i t c
          exact h.cp hq (by rw [heq]; simp [T.cp, V.isD])
        · rename_i t el xs
          exact h.cp hq (by rw [heq]; simp [T.cp, V.isD])
        · exact fun _ h => h
        · exact hstrip ht
      | at_ r k p => rw [heq] at ht; exact ⟨fun _ h => h, ht.2⟩
      | ref r k p => rw [heq] at ht; exact ⟨fun _ h => h, ht.2⟩
      | adr c => rw [heq] at ht; exact ⟨fun _ h => h, ht.2⟩
      | dead => exact fun _ h => h
      | tup ts => exact fun _ h => h
      | fn f c => exact fun _ h => h
      | refs r k p n => exact fun _ h => h
    obtain ⟨Fs', h'⟩ := h.put hi hz fun b hb => hb.elim
    exact done_mk (hrun w) (h'.letGo (H' := No) fun b hb => hb.elim)
theorem ok_pick (h : Rel C No e tm w Fs) {c a b : Operand} {qc qa qb : Opd} (hop : o.op = .pick c a b) {t1 t2 t3 : TypeId} (hc : Mir.opd C.P t1 c = some qc) (ha : Mir.opd C.P t2 a = some qa) (hb : Mir.opd C.P t3 b = some qb)
    {call : FuncId → List T → Option Res} {pm : FuncId → List PM} (hi : ioI call pm C.rt e o.dst (.pick qc qa qb) = some e') : Done C o e' tm w := by
  simp only [ioI] at hi
  obtain ⟨q, hq, hi⟩ := Option.bind_eq_some_iff.1 hi
  obtain ⟨t, ht, hp⟩ := Option.bind_eq_some_iff.1 hi
  have hcv := h.toBool hc hq
  cases q with
  | true =>
    obtain ⟨Fs', h'⟩ := h.put hp (h.cp ha ht) fun b hb => hb.elim
    exact done_mk (v := ev tm a) (by simp [execOp, hop, hcv, asBool]) (h'.letGo (H' := No) fun b hb => hb.elim)
  | false =>
    obtain ⟨Fs', h'⟩ := h.put hp (h.cp hb ht) fun b hb => hb.elim
    exact done_mk (v := ev tm b) (by simp [execOp, hop, hcv, asBool]) (h'.letGo (H' := No) fun b hb => hb.elim)
end
end Go.Mir

set_option linter.unusedVariables false
set_option linter.unusedSimpArgs false
namespace Go.Mir
open Go.RowKit
inductive All2 {α β : Type} (R : α → β → Prop) : List α → List β → Prop
  | nil : All2 R [] []
  | cons {a : α} {b : β} {ags : List α} {bs : List β} (h : R a b) (t : All2 R ags bs) : All2 R (a :: ags) (b :: bs)
def fillU (us : List Value) (off : Nat) : List Value → List Value
  | [] => us
  | u :: ws => fillU (us.set off u) (off + 1) ws
theorem fillV_len : ∀ {ws us : List V} {off : Nat}, (fillV us off ws).length = us.length
  | [], _, _ => rfl
  | u :: ws, us, off => by simp [fillV, fillV_len (ws := ws)]
theorem fold_fill (off : Nat) : ∀ (ws : List Value) (n : Nat) (cells : Array Value), ((ws.zipIdx n).foldl (fun (cs : Array Value) (p : Value × Nat) => cs.setIfInBounds (off + p.2) p.1) cells).toList = fillU cells.toList (off + n) ws
  | [], n, cells => rfl
  | u :: ws, n, cells => by
    simp only [List.zipIdx_cons, List.foldl_cons, fillU]
    rw [fold_fill off ws (n + 1)]
    simp [Nat.add_assoc]
section
variable {P : Program} {w : World} {ok : Nat → Prop}
theorem OwnL.set {cs : List V} {us : List Value} {F G : Nat → Prop} {v : V} {u : Value} (h : OwnL P w ok cs us F) (hv : Own P w ok v u G) (hd : ∀ b, G b → ¬ F b) (k : Nat) (hk : k < cs.length) :
    ∃ K : Nat → Prop, (∀ b, K b → F b ∨ G b) ∧ OwnL P w ok (cs.set k v) (us.set k u) K := by
  obtain ⟨hl, Fs, g1, g2, g3⟩ := h
  have hF : ∀ j b, j < cs.length → Fs j b → F b := fun j b hj hb => (g3 b).2 ⟨j, hj, hb⟩
  refine ⟨fun b => ∃ j, j < cs.length ∧ (if j = k then G b else Fs j b), ?_, by simp [hl], fun j b => if j = k then G b else Fs j b, ?_, ?_, by simp⟩
  · rintro b ⟨j, hj, hb⟩
    by_cases e1 : j = k
    · simp only [e1, if_true] at hb; exact .inr hb
    · simp only [e1, if_false] at hb; exact .inl (hF j b hj hb)
  · intro j z y hz hy
    by_cases e1 : j = k
    · subst e1
      rw [List.getElem?_set_self hk] at hz; cases hz
      rw [List.getElem?_set_self (by omega)] at hy; cases hy
      simpa using hv
    · rw [List.getElem?_set_ne (Ne.symm e1)] at hz hy
      simpa [e1] using g1 j z y hz hy
  · intro i j b hi hj hij h1 h2
    simp only [List.length_set] at hi hj
    by_cases e1 : i = k <;> by_cases e2 : j = k
    · exact hij (e1.trans e2.symm)
    · simp only [e1, e2, if_true, if_false] at h1 h2; exact hd b h1 (hF j b hj h2)
    · simp only [e1, e2, if_true, if_false] at h1 h2; exact hd b h2 (hF i b hi h1)
    · simp only [e1, e2, if_false] at h1 h2; exact g2 i j b hi hj hij h1 h2
theorem OwnL.fill : ∀ {vs : List V} {ws : List Value} {cs : List V} {us : List Value} {F G : Nat → Prop} {off : Nat}, OwnL P w ok cs us F → OwnL P w ok vs ws G → (∀ b, G b → ¬ F b) → off + vs.length ≤ cs.length →
    ∃ K : Nat → Prop, (∀ b, K b → F b ∨ G b) ∧ OwnL P w ok (fillV cs off vs) (fillU us off ws) K
  | [], ws, cs, us, F, G, off, h, hv, hd, hl => by
    have : ws = [] := List.eq_nil_of_length_eq_zero (by rw [← hv.1]; rfl)
    subst this
    exact ⟨F, fun b hb => .inl hb, h⟩
  | v :: vs, [], cs, us, F, G, off, h, hv, hd, hl => by simp [OwnL] at hv
  | v :: vs, y :: ws, cs, us, F, G, off, h, hv, hd, hl => by
    obtain ⟨G0, G1, g1, g2, g3, g4⟩ := hv.head
    simp at hl
    obtain ⟨K, hK, h'⟩ := h.set g1 (fun b hb => hd b ((g4 b).2 (.inl hb))) off (by omega)
    obtain ⟨K', hK', h''⟩ := OwnL.fill (off := off + 1) h' g2 (fun b hb hh => (hK b hh).elim (hd b ((g4 b).2 (.inr hb))) fun hh => g3 b hh hb) (by simp; omega)
    exact ⟨K', fun b hb => (hK' b hb).elim (fun hb => (hK b hb).imp id fun hb => (g4 b).2 (.inl hb)) fun hb => .inr ((g4 b).2 (.inr hb)), h''⟩
theorem VS.cells {a : Bool} {cs : List V} {x : Value} {F : Nat → Prop} (h : VS P w ok a cs x F) : x.cells = (cellsOf a x).toArray ∧ cs.length = (cellsOf a x).length := by
  refine ⟨?_, h.2.1⟩
  cases a with
  | true => obtain ⟨arr, rfl⟩ := h.1 rfl; simp [Value.cells, cellsOf]
  | false =>
    have := h.2.one x (by simp [cellsOf])
    cases x <;> first | rfl | simp [Value.oneCell'] at this
end
section
variable {C : Ctx} {e e' : Env} {tm : Nat → Value} {w : World} {Fs : Nat → Nat → Prop} {o : Oper}
theorem OwnL.ok {P : Program} {w : World} {ok ok' : Nat → Prop} {cs : List V} {us : List Value} {F : Nat → Prop} (h : OwnL P w ok cs us F) (hk : ∀ b, ok b → ok' b) : OwnL P w ok' cs us F := h.frame (fun _ _ => rfl) fun b hb _ => ⟨hk b hb, rfl⟩
theorem okOf_sub {X H H' : Nat → Prop} {Fs : Nat → Nat → Prop} (hH : ∀ b, H' b → H b) : ∀ b, okOf X H Fs b → okOf X H' Fs b := fun b hb => ⟨hb.1, fun hh => hb.2.1 (hH b hh), hb.2.2⟩
theorem Rel.parts (place : Nat → Option (Nat × Nat)) : ∀ {ops : List (Nat × Operand)} {ps : List (Nat × Nat × Opd)} {e e' : Env} {Fs : Nat → Nat → Prop} {cs cs' : List V} {us : List Value} {F : Nat → Prop},
    (All2 (fun (a : Nat × Operand) (b : Nat × Nat × Opd) => place a.1 = some (b.1, b.2.1) ∧ ∃ ty, Mir.opd C.P ty a.2 = some b.2.2) ops ps) →
    Rel C F e tm w Fs → OwnL C.P w (okOf C.X F Fs) cs us F → Mir.parts C.rt e ps cs = some (cs', e') →
    ∃ us' F' Fs', Instr.fill place us.toArray (ops.map fun p => (p.1, ev tm p.2)) = some us' ∧ Rel C F' e' tm w Fs' ∧ OwnL C.P w (okOf C.X F' Fs') cs' us'.toList F'
  | [], ps, e, e', Fs, cs, cs', us, F, hf, h, hc, hp => by
    cases hf
    simp [Mir.parts] at hp
    obtain ⟨rfl, rfl⟩ := hp
    exact ⟨us.toArray, F, Fs, rfl, h, by simpa using hc⟩
  | (i, x) :: ops, ps, e, e', Fs, cs, cs', us, F, hf, h, hc, hp => by
    cases hf with
    | @cons _ b _ ps' hb hf =>
      obtain ⟨off, n, q⟩ := b
      obtain ⟨hpl, ty, hq⟩ := hb
      simp only at hpl hq
      simp only [Mir.parts] at hp
      obtain ⟨⟨a, vs, e1⟩, hv, hp⟩ := Option.bind_eq_some_iff.1 hp
      simp only at hp
      split at hp
      · rename_i hlen
        obtain ⟨G, Fs1, h1, h2, h3, h4⟩ := h.vals hq hv
        have hc1 : OwnL C.P w (okOf C.X (fun b => F b ∨ G b) Fs1) cs us F := hc.ok h4
        obtain ⟨K, hK, hc2⟩ := hc1.fill h2.2 h3 (by rw [hlen.1]; exact hlen.2) (off := off)
        have hxc := h2.cells
        have hul : us.length = cs.length := hc.1.symm
        obtain ⟨us', F', Fs', g1, g2, g3⟩ := Rel.parts place hf (h1.letGo hK) (hc2.ok (okOf_sub hK)) hp
        refine ⟨us', F', Fs', ?_, g2, g3⟩
        have hsz : (ev tm x).cells.size = n := by rw [hxc.1, ← hlen.1]; simp [hxc.2]
        simp only [List.map_cons, Instr.fill, hpl, hsz, ne_eq, not_true_eq_false, decide_false, Bool.false_or, List.size_toArray]
        rw [if_neg (by simp; omega)]
        rw [← g1]
        congr 1
        rw [hxc.1]
        apply Array.toList_inj.1
        have hff := fold_fill off (Mir.cellsOf a (ev tm x)) 0 us.toArray
        rw [← Array.foldl_toList, Array.toList_zipIdx]
        simpa using hff
      · cases hp
theorem Rel.newBlk {H : Nat → Prop} (h : Rel C H e tm w Fs) {cs : List V} {us : List Value} {G : Nat → Prop} (hc : OwnL C.P w (okOf C.X H Fs) cs us G) (hG : ∀ b, G b → H b) (cur : Array Value) (hcur : ∀ (j : Nat) (u : Value), j < us.length → us[j]? = some u → cur[j]? = some u) (el : TypeId) {v : V} {u : Value}
    (hs : Shape C.P v u w.heap.size cs cur el (0, 0)) :
    Rel C (fun b => H b ∨ b = w.heap.size) e tm (w.alloc (.cells cur el)) Fs ∧ Own C.P (w.alloc (.cells cur el)) (okOf C.X (fun b => H b ∨ b = w.heap.size) Fs) v u (fun b => b = w.heap.size ∨ G b) := by
  have h1 : Rel C (fun b => H b ∨ b = w.heap.size) e tm (w.alloc (.cells cur el)) Fs := h.world (Grow.alloc _ _ _) fun b hb => by
    rcases hb with hb | rfl
    · exact ⟨.inl hb, by have := (h.hn b hb).2.2; simp; omega⟩
    · exact ⟨.inr (Nat.le_refl _), by simp⟩
  refine ⟨h1, ?_⟩
  obtain ⟨hl, Fc, g1, g2, g3⟩ := hc
  have hlt : ∀ j b, j < cs.length → Fc j b → b < w.heap.size := fun j b hj hb => (h.hn b (hG b ((g3 b).2 ⟨j, hj, hb⟩))).2.2
  refine .blk Fc hs (heap_alloc_new w _) (fun j z y hz hy => ?_) g2 (fun j hj hb => by have := hlt j _ hj hb; omega) (fun b => by rw [g3])
  have hj := (List.getElem?_eq_some_iff.1 hz).1
  have hju : j < us.length := by omega
  have := hcur j us[j] hju (List.getElem?_eq_getElem hju)
  rw [this] at hy; cases hy
  exact (g1 j z _ hz (List.getElem?_eq_getElem hju)).frame (fun b hb => Below.heap_alloc w _ b (hlt j b hj hb)) fun b hb hl => ⟨⟨hb.1, fun hh => hh.elim hb.2.1 (by omega), hb.2.2⟩, Below.heap_alloc w _ b hl⟩
theorem zeroV_own {P : Program} {w : World} {ok : Nat → Prop} {t : TypeId} {z : List V} (h : zeroV P t = some z) : ∃ i v, P.info? t = some i ∧ i.zero = some v ∧ OwnL P w ok z v.cells.toList No := by
  unfold zeroV at h
  obtain ⟨v, hv, h⟩ := Option.bind_eq_some_iff.1 h
  obtain ⟨i, hi, hz⟩ := Option.bind_eq_some_iff.1 hv
  exact ⟨i, v, hi, hz, cellVs_own h⟩
theorem ok_alloc (h : Rel C No e tm w Fs) {t : TypeId} {z : List V} (hop : o.op = .alloc t) (hz : zeroV C.P t = some z) {call : FuncId → List T → Option Res} {pm : FuncId → List PM}
    (hi : ioI call pm C.rt e o.dst (.alloc z) = some e') : Done C o e' tm w := by
  simp only [ioI] at hi
  obtain ⟨i, v, h1, h2, h3⟩ := zeroV_own (w := w) (ok := okOf C.X No Fs) hz
  obtain ⟨g1, g2⟩ := h.newBlk h3 (fun _ h => h) v.cells (fun j u hj hu => by simpa using hu) t (v := .box z) (u := .pointer (some ⟨w.heap.size, 0, none⟩)) ⟨rfl, rfl, by simpa using h3.1.symm, rfl⟩
  obtain ⟨Fs', h'⟩ := g1.put hi (VS.ofOne g2) (fun b hb => by rcases hb with rfl | hb; exact .inr rfl; exact hb.elim)
  refine done_mk (v := .pointer (some ⟨w.heap.size, 0, none⟩)) (w' := w.alloc (.cells v.cells t)) ?_ (h'.letGo (H' := No) fun b hb => hb.elim)
  simp [execOp, hop, Instr.alloc, zeroValue, typeInfo, h1, h2, newVar, newRow]
theorem ok_box (h : Rel C No e tm w Fs) {t ty : TypeId} {x : Operand} {q : Opd} (hop : o.op = .box t x) (hq : Mir.opd C.P ty x = some q) {call : FuncId → List T → Option Res} {pm : FuncId → List PM}
    (hi : ioI call pm C.rt e o.dst (.box q) = some e') : Done C o e' tm w := by
  simp only [ioI] at hi
  obtain ⟨⟨a, cs, e1⟩, hv, hp⟩ := Option.bind_eq_some_iff.1 hi
  obtain ⟨F, Fs1, h1, h2, h3, h4⟩ := h.vals hq hv
  have hc := h2.cells
  obtain ⟨g1, g2⟩ := h1.newBlk h2.2 (fun b hb => .inr hb) (ev tm x).cells (fun j u hj hu => by rw [hc.1]; simpa using hu) t (v := .box cs) (u := .pointer (some ⟨w.heap.size, 0, none⟩)) ⟨rfl, rfl, by rw [hc.1]; simpa using hc.2.symm, rfl⟩
  obtain ⟨Fs', h'⟩ := g1.put hp (VS.ofOne g2) (fun b hb => by rcases hb with rfl | hb; exact .inr rfl; exact .inl (.inr hb))
  refine done_mk (v := .pointer (some ⟨w.heap.size, 0, none⟩)) (w' := w.alloc (.cells (ev tm x).cells t)) ?_ (h'.letGo (H' := No) fun b hb => hb.elim)
  simp [execOp, hop, Instr.box, newVar, newRow]
theorem bparts_all {P : Program} {fs : List Field} {places : List (Nat × Nat)} : ∀ {ops : List (Nat × Operand)} {ps : List (Nat × Nat × Opd)}, bparts P fs places ops = some ps →
    All2 (fun (a : Nat × Operand) (b : Nat × Nat × Opd) => places.toArray[a.1]? = some (b.1, b.2.1) ∧ ∃ ty, Mir.opd P ty a.2 = some b.2.2) ops ps
  | [], ps, h => by simp [bparts] at h; subst h; exact .nil
  | (i, x) :: ops, ps, h => by
    simp only [bparts] at h
    obtain ⟨pl, hpl, h⟩ := Option.bind_eq_some_iff.1 h
    obtain ⟨q, hq, h⟩ := Option.bind_eq_some_iff.1 h
    obtain ⟨ps', hps, rfl⟩ := Option.map_eq_some_iff.1 h
    exact .cons ⟨by simpa using hpl, _, hq⟩ (bparts_all hps)
theorem ok_build (h : Rel C No e tm w Fs) {t : TypeId} {parts : Array (Nat × Operand)} {fs : Array Field} {z : List V} {places : List (Nat × Nat)} {ps : List (Nat × Nat × Opd)} (hop : o.op = .build t parts) (hu : C.P.underlying t = some (.struct fs)) (hz : zeroV C.P t = some z)
    (hpl : fs.toList.mapM (fun f => (C.P.info? f.type).map fun i => (f.offset, i.size)) = some places) (hps : bparts C.P fs.toList places parts.toList = some ps) {call : FuncId → List T → Option Res} {pm : FuncId → List PM}
    (hi : ioI call pm C.rt e o.dst (.build true z ps) = some e') : Done C o e' tm w := by
  simp only [ioI] at hi
  obtain ⟨⟨cs, e1⟩, hv, hp⟩ := Option.bind_eq_some_iff.1 hi
  obtain ⟨i, v, h1, h2, h3⟩ := zeroV_own (w := w) (ok := okOf C.X No Fs) hz
  obtain ⟨us', F', Fs', g1, g2, g3⟩ := h.parts (places.toArray[·]?) (bparts_all hps) h3 hv
  obtain ⟨Fs2, h'⟩ := g2.put (t := .vs true cs) (x := .agg us') hp ⟨fun _ => ⟨_, rfl⟩, by simpa [Mir.cellsOf] using g3⟩ (fun b hb => hb)
  refine done_mk (v := .agg us') (w' := w) ?_ (h'.letGo (H' := No) fun b hb => hb.elim)
  have hb : C.P.built t (parts.map fun (i, x) => (i, ev tm x)).toList = some us' := by
    unfold Program.built
    simp only [h1, hu, h2, hpl]
    simpa using g1
  simp [execOp, hop, run_build w t _ us' hb]
theorem OwnL.append {P : Program} {w : World} {ok : Nat → Prop} : ∀ {cs vs : List V} {us ws : List Value} {F G : Nat → Prop}, OwnL P w ok cs us F → OwnL P w ok vs ws G → (∀ b, F b → ¬ G b) → OwnL P w ok (cs ++ vs) (us ++ ws) (fun b => F b ∨ G b)
  | [], vs, us, ws, F, G, h, hv, hd => by
    have : us = [] := List.eq_nil_of_length_eq_zero (by rw [← h.1]; rfl)
    subst this
    exact hv.ext fun b => ⟨fun hb => hb.elim (fun hb => (OwnL.noD h rfl b hb).elim) id, .inr⟩
  | c :: cs, vs, [], ws, F, G, h, hv, hd => by simp [OwnL] at h
  | c :: cs, vs, u :: us, ws, F, G, h, hv, hd => by
    obtain ⟨F0, F1, g1, g2, g3, g4⟩ := h.head
    exact (OwnL.cons g1 (OwnL.append g2 hv fun b hb => hd b ((g4 b).2 (.inr hb))) fun b hb hh => hh.elim (g3 b hb) (hd b ((g4 b).2 (.inl hb)))).ext fun b => by rw [g4, or_assoc]
theorem OwnL.repl {P : Program} {w : World} {ok : Nat → Prop} {z : List V} {us : List Value} (h : OwnL P w ok z us No) : ∀ n, OwnL P w ok (Mir.repl n z) ((List.replicate n us).flatten) No
  | 0 => OwnL.nil
  | n + 1 => by
    simp only [Mir.repl, List.replicate_succ, List.flatten_cons]
    exact (OwnL.append h (OwnL.repl h n) (fun _ h => h.elim)).ext (by simp)
theorem repl_made {z : List Value} (hz : 0 < z.length) (n : Nat) : (madeCells z.toArray (n * z.length)).toList = (List.replicate n z).flatten := by
  apply List.ext_getElem
  · simp [madeCells]
  · intro i h1 h2
    simp [madeCells] at h1
    have hq : i / z.length < n := (Nat.div_lt_iff_lt_mul hz).2 h1
    have hr : i % z.length < z.length := Nat.mod_lt _ hz
    have := flat_get (xs := List.replicate n z) (sz := z.length) (by simp) (i := i / z.length) (j := i % z.length) (c := z) (v := z[i % z.length]) (by simp [hq]) (List.getElem?_eq_getElem hr)
    rw [Nat.div_add_mod' i z.length] at this
    have h3 : ((List.replicate n z).flatten)[i]? = some ((List.replicate n z).flatten)[i] := List.getElem?_eq_getElem h2
    rw [this] at h3
    injection h3 with h3
    rw [← h3]
    simp [madeCells, hr]
theorem chunks_flat {sz : Nat} : ∀ {n : Nat} {cs : List V}, cs.length = n * sz → (chunks sz n cs).flatten = cs ∧ (∀ c ∈ chunks sz n cs, c.length = sz) ∧ (chunks sz n cs).length = n
  | 0, cs, h => by simp at h; subst h; simp [chunks]
  | n + 1, cs, h => by
    have h1 : (cs.drop sz).length = n * sz := by rw [List.length_drop, h, Nat.add_mul]; omega
    obtain ⟨g1, g2, g3⟩ := chunks_flat h1
    refine ⟨by simp [chunks, g1], ?_, by simp [chunks, g3]⟩
    intro c hc
    simp only [chunks, List.mem_cons] at hc
    rcases hc with rfl | hc
    · rw [List.length_take, h, Nat.add_mul]; omega
    · exact g2 c hc
theorem parts_len (rt : Views) : ∀ {ps : List (Nat × Nat × Opd)} {e e' : Env} {cs cs' : List V}, Mir.parts rt e ps cs = some (cs', e') → cs'.length = cs.length
  | [], e, e', cs, cs', h => by simp [Mir.parts] at h; rw [← h.1]
  | (off, n, x) :: ps, e, e', cs, cs', h => by
    simp only [Mir.parts] at h
    obtain ⟨⟨a, vs, e1⟩, _, h⟩ := Option.bind_eq_some_iff.1 h
    simp only at h
    split at h
    · rw [parts_len rt h, fillV_len]
    · cases h
theorem sparts_all {P : Program} {el sz : Nat} : ∀ {ops : List (Nat × Operand)} {ps : List (Nat × Opd)}, sparts P el ops = some ps →
    All2 (fun (a : Nat × Operand) (b : Nat × Nat × Opd) => (fun i : Nat => some (i * sz, sz)) a.1 = some (b.1, b.2.1) ∧ ∃ ty, Mir.opd P ty a.2 = some b.2.2) ops (ps.map fun (i, x) => (i * sz, sz, x))
  | [], ps, h => by simp [sparts] at h; subst h; exact .nil
  | (i, x) :: ops, ps, h => by
    simp only [sparts] at h
    obtain ⟨q, hq, h⟩ := Option.bind_eq_some_iff.1 h
    obtain ⟨ps', hps, rfl⟩ := Option.map_eq_some_iff.1 h
    exact .cons ⟨rfl, _, hq⟩ (sparts_all hps)
theorem ok_bslice (h : Rel C No e tm w Fs) {t el : TypeId} {n : Nat} {ops : Array (Nat × Operand)} {z : List V} {ps : List (Nat × Opd)} (hop : o.op = .buildSlice t n ops) (hu : C.P.underlying t = some (.slice el)) (hz : zeroV C.P el = some z)
    (hzl : z.length = C.P.cellsOf el ∧ 0 < C.P.cellsOf el ∧ n * C.P.cellsOf el ≤ 16777216) (hps : sparts C.P el ops.toList = some ps) {call : FuncId → List T → Option Res} {pm : FuncId → List PM}
    (hi : ioI call pm C.rt e o.dst (.bslice el z n ps) = some e') : Done C o e' tm w := by
  simp only [ioI] at hi
  obtain ⟨⟨cs, e1⟩, hv, hp⟩ := Option.bind_eq_some_iff.1 hi
  obtain ⟨i, v, h1, h2, h3⟩ := zeroV_own (w := w) (ok := okOf C.X No Fs) hz
  obtain ⟨hz1, hz2, hz3⟩ := hzl
  have hisz : i.size = C.P.cellsOf el := by simp [Program.cellsOf, h1]
  have hvl : v.cells.toList.length = C.P.cellsOf el := by rw [← h3.1, hz1]
  obtain ⟨us', F', Fs', g1, g2, g3⟩ := h.parts (fun i : Nat => some (i * C.P.cellsOf el, C.P.cellsOf el)) (sparts_all hps) (h3.repl n) (by rw [hz1] at hv; exact hv)
  have hcl : cs.length = n * C.P.cellsOf el := by rw [parts_len _ hv]; simp [Mir.repl, hz1]
  obtain ⟨c1, c2, c3⟩ := chunks_flat hcl
  have hnm : n ≤ maxLen := by
    have : n * 1 ≤ n * C.P.cellsOf el := Nat.mul_le_mul_left _ hz2
    simp only [maxLen]; omega
  obtain ⟨k1, k2⟩ := g2.newBlk g3 (fun b hb => hb) us' (fun j u hj hu => by simpa using hu) el (v := .own el (chunks (C.P.cellsOf el) n cs)) (u := .slice (some ⟨w.heap.size, 0, none⟩) n n)
    ⟨rfl, rfl, hz2, c2, c1.symm, n, by rw [c3], by rw [c3]; exact Nat.le_refl _, hnm, by rw [← hcl]; simpa using g3.1.symm⟩
  rw [hz1] at hp
  obtain ⟨Fs2, h'⟩ := k1.put hp (VS.ofOne k2) (fun b hb => by rcases hb with rfl | hb; exact .inr rfl; exact .inl hb)
  refine done_mk (v := .slice (some ⟨w.heap.size, 0, none⟩) n n) (w' := w.alloc (.cells us' el)) ?_ (h'.letGo (H' := No) fun b hb => hb.elim)
  have hnz : ¬ (16777216 < n * i.size) := by rw [hisz]; omega
  have hfill : Instr.fill (fun j => some (j * i.size, i.size)) (madeCells v.cells (n * i.size)) (ops.map fun (i, x) => (i, ev tm x)).toList = some us' := by
    have hm := repl_made (z := v.cells.toList) (by omega) n
    rw [hvl] at hm
    simp only [Array.toArray_toList] at hm
    rw [hisz, show madeCells v.cells (n * C.P.cellsOf el) = (madeCells v.cells (n * C.P.cellsOf el)).toList.toArray by simp, hm]
    simpa using g1
  by_cases hn0 : n * i.size = 0
  · have hn : n = 0 := by rw [hisz] at hn0; rcases Nat.mul_eq_zero.1 hn0 with h | h; exact h; omega
    subst hn
    simp only [Nat.zero_mul] at hfill
    have hm0 : madeCells v.cells 0 = #[] := by simp [madeCells]
    rw [hm0] at hfill
    simp at hfill
    simp [execOp, hop, Instr.buildSlice, run_underlying hu, sizeOf, typeInfo, h1, newRow, Array.range_zero', hfill]
  · unfold madeCells at hfill
    simp [execOp, hop, Instr.buildSlice, run_underlying hu, sizeOf, typeInfo, h1, hnz, zeroValue, h2, hn0, newRow]
    simp at hfill
    rw [hfill]
    simp
theorem ok_mkslice (h : Rel C No e tm w Fs) {t el tl tc : TypeId} {l c : Operand} {ql qc : Opd} {z : List V} (hop : o.op = .makeSlice t l c) (hu : C.P.underlying t = some (.slice el)) (hz : zeroV C.P el = some z)
    (hzl : z.length = C.P.cellsOf el ∧ 0 < C.P.cellsOf el ∧ 0 < C.P.bytesOf el) (hl : Mir.opd C.P tl l = some ql) (hc : Mir.opd C.P tc c = some qc) {call : FuncId → List T → Option Res} {pm : FuncId → List PM}
    (hi : ioI call pm C.rt e o.dst (.mkslice el (C.P.bytesOf el) z ql qc) = some e') : Done C o e' tm w := by
  simp only [ioI] at hi
  obtain ⟨⟨kl, n⟩, hn, hi⟩ := Option.bind_eq_some_iff.1 hi
  obtain ⟨⟨kc, m⟩, hm, hi⟩ := Option.bind_eq_some_iff.1 hi
  simp only at hi
  split at hi
  · rename_i hb
    obtain ⟨i, v, h1, h2, h3⟩ := zeroV_own (w := w) (ok := okOf C.X No Fs) hz
    obtain ⟨hz1, hz2, hz3⟩ := hzl
    have hisz : i.size = C.P.cellsOf el := by simp [Program.cellsOf, h1]
    have hiby : i.bytes = C.P.bytesOf el := by simp [Program.bytesOf, h1]
    have hvl : v.cells.toList.length = C.P.cellsOf el := by rw [← h3.1, hz1]
    obtain ⟨hb0, hb1, hb2⟩ := hb
    have hmm : m ≤ 140737488355328 := by
      have : m * 1 ≤ m * (C.P.bytesOf el : Int) := Int.mul_le_mul_of_nonneg_left (by omega) (by omega)
      omega
    obtain ⟨mn, rfl⟩ := Int.eq_ofNat_of_zero_le (show 0 ≤ m by omega)
    obtain ⟨nn, rfl⟩ := Int.eq_ofNat_of_zero_le hb0
    have hcells : (madeCells v.cells (mn * i.size)).toList = (List.replicate mn v.cells.toList).flatten := by
      have := repl_made (z := v.cells.toList) (by omega) mn
      rw [hvl] at this
      simpa [hisz] using this
    have hle : nn ≤ mn := by omega
    obtain ⟨k1, k2⟩ := h.newBlk (h3.repl nn) (fun b hb => hb) (madeCells v.cells (mn * i.size)) (fun j u hj hu => by
        rw [← Array.getElem?_toList, hcells, show mn = nn + (mn - nn) by omega, ← List.replicate_append_replicate, List.flatten_append, List.getElem?_append_left hj]; exact hu) el
      (v := .own el (List.replicate nn z)) (u := .slice (some ⟨w.heap.size, 0, none⟩) nn mn)
      ⟨rfl, rfl, hz2, by simp [hz1], rfl, mn, by simp, by simpa using hle, by simp only [maxLen]; omega, by rw [size_madeCells, hisz]⟩
    obtain ⟨Fs2, h'⟩ := k1.put hi (VS.ofOne k2) (fun b hb => by rcases hb with rfl | hb; exact .inr rfl; exact hb.elim)
    refine done_mk (v := .slice (some ⟨w.heap.size, 0, none⟩) nn mn) (w' := w.alloc (.cells (madeCells v.cells (mn * i.size)) el)) ?_ (h'.letGo (H' := No) fun b hb => hb.elim)
    have hlv := h.toInt hl hn
    have hcv := h.toInt hc hm
    have hrun := run_make (P := C.P) w t el i v hu h1 h2 kl kc nn mn (by omega) (by omega) (by rw [hiby, Int.mul_comm]; omega) (by omega)
    simp only [Int.toNat_natCast] at hrun
    simp [execOp, hop, hlv, hcv, hrun]
  · cases hi
end
end Go.Mir

set_option linter.unusedVariables false
set_option linter.unusedSimpArgs false
namespace Go.Mir
open Go.RowKit
section
variable {C : Ctx} {e e' : Env} {tm : Nat → Value} {w : World} {Fs : Nat → Nat → Prop} {o : Oper} {call : FuncId → List T → Option Res} {pm : FuncId → List PM}
theorem VS.ofAdr {P : Program} {w : World} {ok : Nat → Prop} {c : List D} {x : Value} (h : AdrR w ok c x) {n : Nat} {agg : Bool} {t : T} (ht : T.part 0 n agg (c.map .d) = some t) :
    ∃ (ad : Addr) (us : List Value), x = .pointer (some ad) ∧ ad.spot = none ∧ us.length = n ∧ (∀ (j : Nat) (u : Value), us[j]? = some u → w.cell? ⟨ad.block, ad.off + j, none⟩ = some u) ∧ (agg = true ∨ n = 1) ∧
      t = .vs agg ((c.map V.d).take n) ∧ OwnL P w ok ((c.map V.d).take n) us No := by
  obtain ⟨h0, b, off, us, rfl, hb, hl, hu, hr⟩ := h
  unfold T.part at ht
  split at ht
  · rename_i hc
    cases ht
    simp only [List.length_map, Nat.zero_add] at hc
    refine ⟨⟨b, off, none⟩, us.take n, rfl, rfl, by rw [List.length_take]; omega, fun j u hj => ?_, hc.2, by simp, OwnL.ofData (by simp; omega) fun j v u hv hj => ?_⟩
    · rw [List.getElem?_take] at hj
      split at hj
      · exact hu j u hj
      · cases hj
    · rw [List.getElem?_take] at hj hv
      split at hj
      · rename_i hjn
        rw [if_pos hjn, List.getElem?_map] at hv
        obtain ⟨d, hd, rfl⟩ := Option.map_eq_some_iff.1 hv
        exact .d (fun _ h => h) (hr j d u hd hj)
      · cases hj
  · cases ht
theorem vs_of_cells {P : Program} {w : World} {ok : Nat → Prop} {agg : Bool} {cs : List V} {us : List Value} {F : Nat → Prop} {x : Value} (h : OwnL P w ok cs us F) (hc : cellsOf agg x = us) (ha : agg = true → ∃ arr, x = .agg arr) : VS P w ok agg cs x F :=
  ⟨ha, hc ▸ h⟩
theorem all_isD {cs : List V} (h : cs.all V.isD = true) {j : Nat} {v : V} (hj : cs[j]? = some v) : ∃ x, v = .d x := by
  have := List.all_eq_true.1 h v (List.mem_of_getElem? hj)
  cases v <;> simp [V.isD] at this
  exact ⟨_, rfl⟩
theorem V.get_set_other {p : Pt} : ∀ {q : Pt} {v y v1 : V}, v.set p y = some v1 → ¬ (p <+: q) → ¬ (q <+: p) → v1.get q = v.get q := by
  induction p with
  | nil => intro q v y v1 h hn; exact (hn List.nil_prefix).elim
  | cons s p ih =>
    intro q v y v1 h hn hm
    rw [V.set_cons] at h
    obtain ⟨x, hx, h⟩ := Option.bind_eq_some_iff.1 h
    obtain ⟨x', hx', rfl⟩ := Option.map_eq_some_iff.1 h
    cases q with
    | nil => exact (hm List.nil_prefix).elim
    | cons t q =>
      rw [V.get_cons, V.get_cons]
      by_cases hst : s = t
      · subst hst
        rw [V.kid_upd hx, hx]
        exact ih hx' (fun hh => hn (by simpa using hh)) (fun hh => hm (by simpa using hh))
      · rw [V.kid_upd_ne hx x' hst]
theorem Pt.shift_inj {i j : Nat} : ∀ {p q : Pt}, p.shift i = some q → p.shift j = some q → i = j
  | [], q, h, _ => by simp [Pt.shift] at h
  | [(a, b)], q, h, h' => by simp [Pt.shift] at h h'; subst h; simp at h'; omega
  | x :: y :: p, q, h, h' => by
    simp only [Pt.shift] at h h'
    obtain ⟨q1, hq1, rfl⟩ := Option.map_eq_some_iff.1 h
    obtain ⟨q2, hq2, he⟩ := Option.map_eq_some_iff.1 h'
    simp at he
    subst he
    exact Pt.shift_inj (p := y :: p) hq1 hq2
theorem cell_kill_other {rt : Views} {e e1 : Env} {r k : Nat} {q q' : Pt} {y : V} (hs : e.setCell r k q y = some e1) (h1 : ¬ (q <+: q')) (h2 : ¬ (q' <+: q)) : (e1.kill rt r k q).cell r k q' = e.cell r k q' := by
  obtain ⟨a, cs, v, v1, hr, hc, hset, rfl⟩ := Env.setCell_some hs
  have hgr : (Env.kill rt ((r, T.vs a (cs.set k v1)) :: e) r k q).get r = .vs a (cs.set k v1) := by
    unfold Env.kill
    rw [Env.get_over]
    simp only [Env.get, if_true, T.kill, ite_self]
  unfold Env.cell
  rw [hgr, hr]
  simp only [hc, List.getElem?_set_self (List.getElem?_eq_some_iff.1 hc).1, Option.bind_some]
  exact V.get_set_other hset h1 h2
theorem Rel.frzAt {r k : Nat} {p : Pt} {ad : Addr} (hsp : ad.spot = none) : ∀ {n : Nat} {cs : List V} {ds : List D} {e e' : Env} {Fs : Nat → Nat → Prop} {i : Nat}, Rel C No e tm w Fs → PlA w e tm r k p ad →
    Mir.cells (fun i => (p.shift i).bind fun q => e.cell r k q) i n = some cs → toDs cs = some ds → Env.fillAt C.rt r k p e i (dsV ds) = some e' →
    ∃ (Fs' : Nat → Nat → Prop) (us : List Value), Rel C No e' tm w Fs' ∧ OkMono C No Fs No Fs' ∧ us.length = n ∧ ds.length = n ∧ (∀ (j : Nat) (u : Value), us[j]? = some u → w.cell? ⟨ad.block, ad.off + (i + j), none⟩ = some u) ∧
      ∀ (j : Nat) (x : D) (u : Value), ds[j]? = some x → us[j]? = some u → RO w (okOf C.X No Fs') x u
  | 0, cs, ds, e, e', Fs, i, h, hp, hc, hd, hf => by
    simp [Mir.cells] at hc; subst hc
    simp [toDs] at hd; subst hd
    simp [dsV, Env.fillAt] at hf; subst hf
    exact ⟨Fs, [], h, fun b hb => hb, rfl, rfl, by simp, by simp⟩
  | n + 1, cs, ds, e, e', Fs, i, h, hp, hc, hd, hf => by
    simp only [Mir.cells] at hc
    obtain ⟨v, hv, hc⟩ := Option.bind_eq_some_iff.1 hc
    obtain ⟨vs, hvs, rfl⟩ := Option.map_eq_some_iff.1 hc
    obtain ⟨q, hq, hv⟩ := Option.bind_eq_some_iff.1 hv
    simp only [toDs] at hd
    obtain ⟨x, hx, hd⟩ := Option.bind_eq_some_iff.1 hd
    obtain ⟨xs, hxs, rfl⟩ := Option.map_eq_some_iff.1 hd
    simp only [dsV, List.map_cons, Env.fillAt, hq, Option.bind_some] at hf
    obtain ⟨e1, he1, hf⟩ := Option.bind_eq_some_iff.1 hf
    obtain ⟨u, F0, c1, c2, _, _, c3⟩ := h.cellAt (hp.shift hq hv) hv
    obtain ⟨Fs1, u1, k1, k2, k3, k4, k5⟩ := h.frzPl hv hx he1
    obtain rfl := k3.det c2
    have hcells : ∀ (m i' : Nat), i < i' → Mir.cells (fun i => (p.shift i).bind fun q => (e1.kill C.rt r k q).cell r k q) i' m = Mir.cells (fun i => (p.shift i).bind fun q => e.cell r k q) i' m → True := fun _ _ _ _ => trivial
    have hsame : ∀ (m i' : Nat), i < i' → Mir.cells (fun j => (p.shift j).bind fun q' => (e1.kill C.rt r k q).cell r k q') i' m = Mir.cells (fun j => (p.shift j).bind fun q' => e.cell r k q') i' m := by
      intro m
      induction m with
      | zero => intro i' _; rfl
      | succ m ih =>
        intro i' hi'
        simp only [Mir.cells]
        rw [ih (i' + 1) (by omega)]
        cases hq' : p.shift i' with
        | none => rfl
        | some q' =>
          simp only [Option.bind_some]
          have hl : q.length = q'.length := by rw [(Pt.shift_len hq).1, (Pt.shift_len hq').1]
          have hne : q ≠ q' := fun e => by subst e; have := Pt.shift_inj hq hq'; omega
          rw [cell_kill_other he1 (fun hh => hne (hh.eq_of_length hl)) (fun hh => hne (hh.eq_of_length hl.symm).symm)]
    obtain ⟨Fs', us, m1, m2, m3, m4, m5, m6⟩ := Rel.frzAt hsp k1 (k5 p ad (Pt.shift_free hq) hp) (by rw [hsame n (i + 1) (by omega)]; exact hvs) hxs hf
    refine ⟨Fs', u1 :: us, m1, fun b hb => m2 b (k2 b hb), by simp [m3], by simp [m4], fun j z hz => ?_, fun j y z hy hz => ?_⟩
    · cases j with
      | zero => simp at hz; subst hz; exact c1
      | succ j =>
        rw [show i + (j + 1) = i + 1 + j by omega]
        exact m5 j z (by simpa using hz)
    · cases j with
      | zero => simp at hy hz; subst hy; subst hz; exact k4.mono fun b hb _ => ⟨m2 b hb, rfl⟩
      | succ j => exact m6 j y z (by simpa using hy) (by simpa using hz)
theorem ok_load (h : Rel C No e tm w Fs) {t ty : TypeId} {a : Operand} {q : Opd} {m : Md} (hop : o.op = .load t a) (hu : (C.P.underlying t).isSome) (hq : Mir.opd C.P ty a = some q)
    (hi : ioI call pm C.rt e o.dst (.load m (isAggT C.P t) (C.P.cellsOf t) q) = some e') : Done C o e' tm w := by
  simp only [ioI] at hi
  obtain ⟨pt, hpt, hi⟩ := Option.bind_eq_some_iff.1 hi
  have hp := h.ptr hq hpt
  have fin : ∀ {x : Value}, (Instr.loadAt t (ev tm a)).run C.P w = .ok x w → (execOp (ev tm) o).run C.P w = .ok (.value x) w := fun hx => by simp [execOp, hop, hx]
  cases pt with
  | adr c =>
    simp only at hi hp
    obtain ⟨tt, ht, hput⟩ := Option.bind_eq_some_iff.1 hi
    obtain ⟨ad, us, hx, hsp, hl, hc, h1, rfl, ho⟩ := VS.ofAdr (P := C.P) hp ht
    obtain ⟨x, g1, g2, g3⟩ := run_loadAt (w := w) hu hsp hl hc (h1.imp id fun h => hl.trans h)
    obtain ⟨Fs', h'⟩ := h.put hput (vs_of_cells ho g2 g3) fun b hb => hb
    exact done_mk (fin (by rw [hx]; exact g1)) (h'.letGo (H' := No) fun b hb => hb.elim)
  | at_ r k p =>
    simp only at hi hp
    obtain ⟨ad, hx, hpl⟩ := hp
    have hspot : ∀ {cs : List V} {n}, e.cellsAt r k p (n + 1) = some cs → ad.spot = none := fun {cs n} hcs => by
      simp only [Env.cellsAt, Mir.cells] at hcs
      obtain ⟨v, hv, _⟩ := Option.bind_eq_some_iff.1 hcs
      obtain ⟨q', hq', hv⟩ := Option.bind_eq_some_iff.1 hv
      rw [Pt.shift_zero (Pt.shift_len hq').2.1] at hq'
      cases hq'
      obtain ⟨_, _, _, _, _, _, hsp⟩ := h.cellAt hpl hv
      exact hsp
    have hspot' : ad.spot = none := by
      obtain ⟨a1, cs1, v1, u1, g1, g2, g3, g4⟩ := hpl
      clear hi fin hspot
      induction p generalizing v1 u1 cs1 with
      | nil => simp [adrOf] at g4
      | cons s p ih =>
        simp only [adrOf] at g4
        obtain ⟨g, hg, g4⟩ := Option.bind_eq_some_iff.1 g4
        cases p with
        | nil => simp at g4; rw [← g4]
        | cons s' p =>
          simp only at g4
          obtain ⟨u', _, g4⟩ := Option.bind_eq_some_iff.1 g4
          obtain ⟨v', _, g4⟩ := Option.bind_eq_some_iff.1 g4
          have key : ∀ (p : Pt) (v : V) (u : Value), adrOf w v u p = some ad → ad.spot = none := by
            intro p
            induction p with
            | nil => intro v u h; simp [adrOf] at h
            | cons s p ih =>
              intro v u h
              simp only [adrOf] at h
              obtain ⟨g, _, h⟩ := Option.bind_eq_some_iff.1 h
              cases p with
              | nil => simp at h; rw [← h]
              | cons s' p =>
                simp only at h
                obtain ⟨u', _, h⟩ := Option.bind_eq_some_iff.1 h
                obtain ⟨v', _, h⟩ := Option.bind_eq_some_iff.1 h
                exact ih v' u' h
          exact key _ v' u' g4
    cases m with
    | cp =>
      simp only at hi
      obtain ⟨cs, hcs, hi⟩ := Option.bind_eq_some_iff.1 hi
      obtain ⟨us, hul, hcl, hmem, hone, hdat, hval⟩ := h.dataAt hpl hspot' hcs
      by_cases hd : cs.all V.isD = true
      · rw [if_pos hd] at hi
        split at hi
        · rename_i h1
          obtain ⟨x, g1, g2, g3⟩ := run_loadAt (w := w) hu hspot' hul hmem (h1.imp id fun h => hul.trans h)
          have ho : OwnL C.P w (okOf C.X No Fs) cs us No := OwnL.ofData (by omega) fun j v u hv hj => by
            obtain ⟨y, rfl⟩ := all_isD hd hv
            obtain ⟨u', hu', hr⟩ := hdat j y hv
            rw [hj] at hu'; cases hu'
            exact .d (fun _ h => h) hr
          obtain ⟨Fs', h'⟩ := h.put hi (vs_of_cells ho g2 g3) fun b hb => hb
          exact done_mk (fin (by rw [hx]; exact g1)) (h'.letGo (H' := No) fun b hb => hb.elim)
        · cases hi
      · rw [if_neg hd] at hi
        have one : ∀ (v : V) (hv : cs = [v]) (hagg : isAggT C.P t = false), ∃ u, us = [u] ∧ (execOp (ev tm) o).run C.P w = .ok (.value u) w ∧ PlV w e tm r k p u ∧ e.cell r k p = some v := fun v hv hagg => by
          subst hv
          obtain ⟨u, q', g1, g2, g3, g4⟩ := hval 0 v rfl
          rw [Pt.shift_zero (Pt.shift_len g2).2.1] at g2
          cases g2
          have hus : us = [u] := by
            cases us with
            | nil => simp at g1
            | cons u0 us =>
              simp at g1; subst g1
              simp at hcl
              have : us = [] := List.eq_nil_of_length_eq_zero (by simp at hul; omega)
              rw [this]
          obtain ⟨x, k1, k2, _⟩ := run_loadAt (w := w) hu hspot' hul hmem (.inr (by rw [hus]; rfl))
          rw [hagg, hus] at k2
          simp [cellsOf] at k2
          subst k2
          exact ⟨x, hus, fin (by rw [hx]; exact k1), g3, g4⟩
        split at hi
        · rename_i el xs hag
          obtain ⟨u, _, hrun, hpv, hce⟩ := one _ rfl hag
          obtain ⟨Fs', h'⟩ := h.put (F := No) (x := u) hi ⟨fun _ h => h, hpv⟩ fun b hb => hb
          exact done_mk hrun (h'.letGo (H' := No) fun b hb => hb.elim)
        · rename_i xs hag
          obtain ⟨u, _, hrun, hpv, hce⟩ := one _ rfl hag
          obtain ⟨Fs', h'⟩ := h.put (F := No) (x := u) hi ⟨fun _ h => h, hpv⟩ fun b hb => hb
          exact done_mk hrun (h'.letGo (H' := No) fun b hb => hb.elim)
        · rename_i c hag
          obtain ⟨u, _, hrun, hpv, hce⟩ := one _ rfl hag
          obtain ⟨u2, F2, c1, c2, c3, _⟩ := h.cellAt hpl hce
          obtain rfl := c2.det hpv
          cases c3 with
          | @blk _ _ g vs cur el fz _ Fs2 hh hg _ _ _ _ =>
            obtain ⟨_, rfl, _, rfl⟩ := hh
            have hpa : PlA w e tm r k (p ++ [(0, 0)]) ⟨g, 0, none⟩ := by
              obtain ⟨a1, cs1, v1, u1, m1, m2, m3, m4⟩ := hpl
              obtain ⟨a2, cs2, v2, n1, n2, n3⟩ := Env.cell_some hce
              rw [m1] at n1; cases n1
              rw [m2] at n2; cases n2
              refine ⟨a1, cs1, v1, u1, m1, m2, m3, ?_⟩
              have key : ∀ (p : Pt) (v : V) (u : Value), adrOf w v u p = some ad → v.get p = some (.box vs) → w.cell? ad = some (.pointer (some ⟨g, 0, none⟩)) → adrOf w v u (p ++ [(0, 0)]) = some ⟨g, 0, none⟩ := by
                intro p
                induction p with
                | nil => intro v u h; simp [adrOf] at h
                | cons s p ih =>
                  intro v u h1 h2 h3
                  rw [V.get_cons] at h2
                  obtain ⟨y, hy, h2⟩ := Option.bind_eq_some_iff.1 h2
                  cases p with
                  | nil =>
                    rw [V.get_nil] at h2; cases h2
                    simp only [adrOf] at h1
                    obtain ⟨g', hg', h1⟩ := Option.bind_eq_some_iff.1 h1
                    simp at h1; subst h1
                    simp only [List.cons_append, List.nil_append]
                    rw [adrOf_step hg' h3 hy]
                    simp [adrOf, hdBlk, V.idx]
                  | cons s' p =>
                    cases hb : hdBlk u with
                    | none => simp [adrOf, hb] at h1
                    | some g' =>
                      cases hcc : w.cell? ⟨g', v.idx s, none⟩ with
                      | none => simp [adrOf, hb, hcc] at h1
                      | some uy =>
                        rw [adrOf_step hb hcc hy] at h1
                        simp only [List.cons_append]
                        rw [adrOf_step hb hcc hy]
                        exact ih y uy h1 h2 h3
              exact key p v1 u1 m4 n3 c1
            obtain ⟨Fs', h'⟩ := h.put (F := No) (x := .pointer (some ⟨g, 0, none⟩)) hi ⟨fun _ h => h, _, rfl, hpa⟩ fun b hb => hb
            exact done_mk hrun (h'.letGo (H' := No) fun b hb => hb.elim)
        · rename_i hag
          obtain ⟨x, g1, g2, g3⟩ := run_loadAt (w := w) hu hspot' hul hmem (.inl hag)
          obtain ⟨arr, rfl⟩ := g3 hag
          rw [hag] at g2
          simp only [cellsOf, if_true] at g2
          have hpos : 0 < C.P.cellsOf t := by
            rcases Nat.eq_zero_or_pos (C.P.cellsOf t) with h0 | h0
            · have := List.length_eq_zero_iff.1 (hcl.trans h0)
              rw [this] at hd; simp at hd
            · exact h0
          have hsz : arr.size = C.P.cellsOf t := by rw [← hul, ← g2]; simp
          obtain ⟨Fs', h'⟩ := h.put (F := No) (x := .agg arr) hi ⟨fun _ h => h, hpos, arr, rfl, hsz, fun j u hj => by
            obtain ⟨u', q', k1, k2, k3, _⟩ := hval j _ (List.getElem?_eq_getElem (by rw [hcl, ← hsz]; exact (Array.getElem?_eq_some_iff.1 hj).1))
            rw [← g2] at k1
            have : u' = u := by
              have h1 : arr.toList[j]? = some u := by simpa using hj
              rw [h1] at k1; exact (Option.some.inj k1).symm
            subst this
            exact ⟨q', k2, k3⟩⟩ fun b hb => hb
          exact done_mk (fin (by rw [hx]; exact g1)) (h'.letGo (H' := No) fun b hb => hb.elim)
        · cases hi
    | tk =>
      simp only at hi
      split at hi
      · rename_i h1
        obtain ⟨⟨cs, e1⟩, hta, hput⟩ := Option.bind_eq_some_iff.1 hi
        obtain ⟨us, F, Fs1, hul, hmem, k1, k2, k3, k4⟩ := h.takeAt hpl hta
        obtain ⟨x, g1, g2, g3⟩ := run_loadAt (w := w) hu hspot' hul (fun j u hj => by simpa using hmem j u hj) (h1.imp id fun h => hul.trans h)
        obtain ⟨Fs', h'⟩ := k1.putHeld hput (vs_of_cells k2 g2 g3)
        exact done_mk (fin (by rw [hx]; exact g1)) h'
      · cases hi
    | fz =>
      simp only at hi
      split at hi
      · rename_i h1
        obtain ⟨cs, hcs, hi⟩ := Option.bind_eq_some_iff.1 hi
        obtain ⟨ds, hds, hi⟩ := Option.bind_eq_some_iff.1 hi
        obtain ⟨e1, he1, hput⟩ := Option.bind_eq_some_iff.1 hi
        obtain ⟨Fs1, us, k1, k2, hul, hdl, hmem, hdat⟩ := Rel.frzAt hspot' h hpl hcs hds he1
        obtain ⟨x, g1, g2, g3⟩ := run_loadAt (w := w) hu hspot' hul (fun j u hj => by simpa using hmem j u hj) (h1.imp id fun h => hul.trans h)
        have ho : OwnL C.P w (okOf C.X No Fs1) (dsV ds) us No := OwnL.ofData (by simp [dsV]; omega) fun j v u hv hj => by
          simp only [dsV, List.getElem?_map] at hv
          obtain ⟨d, hd, rfl⟩ := Option.map_eq_some_iff.1 hv
          exact .d (fun _ h => h) (hdat j d u hd hj)
        obtain ⟨Fs', h'⟩ := k1.put hput (vs_of_cells ho g2 g3) fun b hb => hb
        exact done_mk (fin (by rw [hx]; exact g1)) (h'.letGo (H' := No) fun b hb => hb.elim)
      · cases hi
    | st =>
      simp only at hi
      split at hi
      · rename_i h1
        obtain ⟨cs, hcs, hput⟩ := Option.bind_eq_some_iff.1 hi
        obtain ⟨us, hul, hcl, hmem, hone, hdat, hval⟩ := h.dataAt hpl hspot' hcs
        obtain ⟨x, g1, g2, g3⟩ := run_loadAt (w := w) hu hspot' hul hmem (h1.imp id fun h => hul.trans h)
        have ho : OwnL C.P w (okOf C.X No Fs) (cs.map V.strip) us No := OwnL.ofData (by simp; omega) fun j v u hv hj => by
          rw [List.getElem?_map] at hv
          obtain ⟨v0, hv0, rfl⟩ := Option.map_eq_some_iff.1 hv
          have hou := hone u (List.mem_of_getElem? hj)
          cases v0 with
          | d y =>
            obtain ⟨u', hu', hr⟩ := hdat j y hv0
            rw [hj] at hu'; cases hu'
            exact .d (fun _ h => h) hr
          | _ => exact .dead hou fun _ h => h
        obtain ⟨Fs', h'⟩ := h.put hput (vs_of_cells ho g2 g3) fun b hb => hb
        exact done_mk (fin (by rw [hx]; exact g1)) (h'.letGo (H' := No) fun b hb => hb.elim)
      · cases hi
end
end Go.Mir

set_option linter.unusedVariables false
set_option linter.unusedSimpArgs false
namespace Go.Mir
open Go.RowKit
theorem adrOf_spot {w : World} {ad : Addr} : ∀ (p : Pt) (v : V) (u : Value), adrOf w v u p = some ad → ad.spot = none := by
  intro p
  induction p with
  | nil => intro v u h; simp [adrOf] at h
  | cons s p ih =>
    intro v u h
    simp only [adrOf] at h
    obtain ⟨g, _, h⟩ := Option.bind_eq_some_iff.1 h
    cases p with
    | nil => simp at h; rw [← h]
    | cons s' p =>
      simp only at h
      obtain ⟨u', _, h⟩ := Option.bind_eq_some_iff.1 h
      obtain ⟨v', _, h⟩ := Option.bind_eq_some_iff.1 h
      exact ih v' u' h
section
variable {C : Ctx} {e e' : Env} {tm : Nat → Value} {w : World} {Fs : Nat → Nat → Prop} {o : Oper} {call : FuncId → List T → Option Res} {pm : FuncId → List PM}
theorem PlA.spot {r k : Nat} {p : Pt} {ad : Addr} (h : PlA w e tm r k p ad) : ad.spot = none := by
  obtain ⟨_, _, v, u, _, _, _, h⟩ := h
  exact adrOf_spot p v u h
theorem Rel.ptrH {H : Nat → Prop} (h : Rel C H e tm w Fs) {ty : TypeId} {x : Operand} {q : Opd} (ho : Mir.opd C.P ty x = some q) {r k : Nat} {p : Pt} (hq : e.ptr q = some (.at_ r k p)) : ∃ ad, ev tm x = .pointer (some ad) ∧ PlA w e tm r k p ad := h.ptr ho hq
theorem ok_store (h : Rel C No e tm w Fs) {t ty tv : TypeId} {a v : Operand} {qa qv : Opd} (hop : o.op = .store t a v) (hd : o.dst = none) (hu : (C.P.underlying t).isSome) (ha : Mir.opd C.P ty a = some qa) (hv : Mir.opd C.P tv v = some qv)
    (hi : ioI call pm C.rt e o.dst (.store (C.P.cellsOf t) qa qv) = some e') : Done C o e' tm w := by
  simp only [ioI] at hi
  obtain ⟨⟨ag, cs, e1⟩, hvals, hi⟩ := Option.bind_eq_some_iff.1 hi
  simp only at hi
  split at hi
  · rename_i hl
    obtain ⟨pt, hpt, hi⟩ := Option.bind_eq_some_iff.1 hi
    obtain ⟨F, Fs1, h1, h2, h3, h4⟩ := h.vals hv hvals
    cases pt with
    | adr c => simp at hi
    | at_ r k p =>
      simp only at hi
      obtain ⟨ad, hx, hpl⟩ := h1.ptrH ha hpt
      have hsp := hpl.spot
      have hc := h2.cells
      obtain ⟨w', Fs', g1, g2⟩ := Rel.fillAt hsp h1 hpl h2.2 (fun b hb => .inr hb) hi
      refine ⟨undef, w', Fs', .inr ⟨?_, rfl⟩, by rw [hd]; exact g2.letGo fun b hb => hb.elim⟩
      obtain ⟨i, hinf⟩ := info_of_underlying hu
      have hisz : i.size = C.P.cellsOf t := by simp [Program.cellsOf, hinf]
      have hsz : (ev tm v).cells.size = C.P.cellsOf t := by rw [hc.1]; simpa using hc.2.symm.trans hl
      rw [← adr_eta hsp, show Mir.cellsOf ag (ev tm v) = (ev tm v).cells.toList by rw [hc.1]] at g1
      simp [execOp, hop, hx, Instr.storeAt, Instr.sureAddr, storeVar, sizeOf, typeInfo, hinf, hisz, hsz, g1]
  · cases hi
theorem storeI_store {rt : Views} {e e1 : Env} {dst : Option Nat} {m : Option Md} {n : Nat} {a v : Opd} (h : ioI call pm rt e dst (storeI m n a v) = some e1) : ioI call pm rt e dst (.store n a v) = some e1 := by
  unfold storeI at h
  split at h
  · simp only [ioI] at h ⊢
    split at h
    · exact h
    · cases h
  · exact h
theorem ok_nilc (h : Rel C No e tm w Fs) {ty : TypeId} {x : Operand} {q : Opd} (hop : o.op = .nilCheck x) (hq : Mir.opd C.P ty x = some q)
    (hi : ioI call pm C.rt e o.dst (.nilc q) = some e') : Done C o e' tm w := by
  simp only [ioI] at hi
  obtain ⟨pt, hpt, hi⟩ := Option.bind_eq_some_iff.1 hi
  have hp := h.ptr hq hpt
  cases pt with
  | at_ r k p =>
    obtain ⟨ad, hx, hpl⟩ := hp
    obtain ⟨Fs', h'⟩ := h.put (F := No) (x := .pointer (some ad)) hi ⟨fun _ h => h, _, rfl, hpl⟩ fun b hb => hb
    exact done_mk (by simp [execOp, hop, hx]) (h'.letGo (H' := No) fun b hb => hb.elim)
  | adr c =>
    obtain ⟨h0, b, off, us, hx, hr⟩ := hp
    obtain ⟨Fs', h'⟩ := h.put (F := No) (x := .pointer (some ⟨b, off, none⟩)) hi ⟨fun _ h => h, h0, b, off, us, rfl, hr⟩ fun b hb => hb
    exact done_mk (by simp [execOp, hop, hx]) (h'.letGo (H' := No) fun b hb => hb.elim)
theorem ok_fieldA (h : Rel C No e tm w Fs) {s ty : TypeId} {x : Operand} {f : Nat} {fs : Array Field} {fd : Field} {q : Opd} (hop : o.op = .fieldAddr s x f) (hu : C.P.underlying s = some (.struct fs)) (hf : fs[f]? = some fd) (hz : C.P.cellsOf fd.type ≠ 0) (hq : Mir.opd C.P ty x = some q)
    (hi : ioI call pm C.rt e o.dst (.fieldA fd.offset q) = some e') : Done C o e' tm w := by
  simp only [ioI] at hi
  obtain ⟨pt, hpt, hi⟩ := Option.bind_eq_some_iff.1 hi
  have hp := h.ptr hq hpt
  have hinf : ∃ i, C.P.info? fd.type = some i ∧ i.size ≠ 0 := by
    cases hI : C.P.info? fd.type with
    | none => simp [Program.cellsOf, hI] at hz
    | some i => exact ⟨i, rfl, by simpa [Program.cellsOf, hI] using hz⟩
  obtain ⟨i, hI, hi0⟩ := hinf
  have hrun : ∀ ad : Addr, ev tm x = .pointer (some ad) → (execOp (ev tm) o).run C.P w = .ok (.value (.pointer (some (ad.add fd.offset)))) w := fun ad hx => by
    simp [execOp, hop, hx, Instr.fieldAt, Instr.sureAddr, run_underlying hu, hf, fieldPlace, sizeOf, typeInfo, hI, hi0]
  cases pt with
  | at_ r k p =>
    obtain ⟨ad, hx, hpl⟩ := hp
    simp only at hi
    obtain ⟨q', hq', hi⟩ := Option.bind_eq_some_iff.1 hi
    obtain ⟨c, hc, hi⟩ := Option.bind_eq_some_iff.1 hi
    have hpl' := hpl.shift hq' hc
    obtain ⟨Fs', h'⟩ := h.put (F := No) (x := .pointer (some ⟨ad.block, ad.off + fd.offset, none⟩)) hi ⟨fun _ h => h, _, rfl, hpl'⟩ fun b hb => hb
    refine done_mk (v := .pointer (some ⟨ad.block, ad.off + fd.offset, none⟩)) ?_ (h'.letGo (H' := No) fun b hb => hb.elim)
    rw [hrun ad hx, adr_eta hpl.spot, add_none]
  | adr c =>
    obtain ⟨h0, b, off, us, hx, hb, hl, hmem, hro⟩ := hp
    simp only at hi
    split at hi
    · rename_i hlt
      obtain ⟨Fs', h'⟩ := h.put (F := No) (x := .pointer (some ⟨b, off + fd.offset, none⟩)) hi ⟨fun _ h => h, by simpa using hlt, b, off + fd.offset, us.drop fd.offset, rfl, hb, by simp [hl],
        fun j u hj => by rw [Nat.add_assoc]; exact hmem _ u (by simpa using hj), fun j d u hd hj => hro (fd.offset + j) d u (by simpa using hd) (by simpa using hj)⟩ fun b hb => hb
      refine done_mk (v := .pointer (some ⟨b, off + fd.offset, none⟩)) ?_ (h'.letGo (H' := No) fun b hb => hb.elim)
      rw [hrun _ hx, add_none]
    · cases hi
theorem run_part {P : Program} {w : World} {t : TypeId} (h : (P.underlying t).isSome) {cs : Array Value} {off : Nat} (hl : off + P.cellsOf t ≤ cs.size) (h1 : isAggT P t = true ∨ P.cellsOf t = 1) :
    ∃ x, (part t cs off).run P w = .ok x w ∧ cellsOf (isAggT P t) x = (cs.toList.drop off).take (P.cellsOf t) ∧ (isAggT P t = true → ∃ arr, x = .agg arr) := by
  obtain ⟨i, hi⟩ := info_of_underlying h
  have hsz : i.size = P.cellsOf t := by simp [Program.cellsOf, hi]
  by_cases ha : isAggT P t = true
  · refine ⟨.agg (cs.extract off (off + P.cellsOf t)), ?_, ?_, fun _ => ⟨_, rfl⟩⟩
    · simp [part, run_isAggT h, ha, sizeOf, typeInfo, hi, hsz]
    · simp [cellsOf, ha, List.extract_eq_drop_take']
  · have ha' : isAggT P t = false := by simpa using ha
    rcases h1 with h1 | h1
    · exact (ha h1).elim
    · have hlt : off < cs.size := by omega
      refine ⟨cs[off], ?_, ?_, by simp [ha']⟩
      · simp [part, run_isAggT h, ha', hlt]
      · simp only [cellsOf, ha', h1, Bool.false_eq_true, if_false]
        rw [List.drop_eq_getElem_cons (by simpa using hlt)]
        simp
theorem ok_field (h : Rel C No e tm w Fs) {s ty : TypeId} {x : Operand} {f : Nat} {fs : Array Field} {fd : Field} {q : Opd} (hop : o.op = .field s x f) (hu : C.P.underlying s = some (.struct fs)) (hf : fs[f]? = some fd) (hfu : (C.P.underlying fd.type).isSome) (hq : Mir.opd C.P ty x = some q)
    (hi : ioI call pm C.rt e o.dst (.field fd.offset (C.P.cellsOf fd.type) (isAggT C.P fd.type) q) = some e') : Done C o e' tm w := by
  simp only [ioI] at hi
  split at hi
  · rename_i cs heq
    split at hi
    · rename_i hd
      obtain ⟨t, ht, hput⟩ := Option.bind_eq_some_iff.1 hi
      unfold T.part at ht
      split at ht
      · rename_i hc
        cases ht
        obtain ⟨F, htr, _⟩ := h.opd hq
        rw [heq] at htr
        obtain ⟨ha, hl, Fc, g1, _, _⟩ := htr
        obtain ⟨arr, hx⟩ := ha rfl
        rw [hx] at hl g1
        simp only [cellsOf, if_true] at hl g1
        obtain ⟨y, r1, r2, r3⟩ := run_part (w := w) hfu (cs := arr) (off := fd.offset) (by have := hc.1; rw [hl] at this; simpa using this) hc.2
        have ho : OwnL C.P w (okOf C.X No Fs) ((cs.drop fd.offset).take (C.P.cellsOf fd.type)) ((arr.toList.drop fd.offset).take (C.P.cellsOf fd.type)) No := OwnL.ofData (by simp [hl]) fun j v u hv hj => by
          obtain ⟨z, rfl⟩ := all_isD hd hv
          rw [List.getElem?_take] at hv hj
          split at hj
          · rename_i hjn
            rw [if_pos hjn] at hv
            have := g1 (fd.offset + j) _ u (by simpa using hv) (by simpa using hj)
            cases this with
            | d _ hr => exact .d (fun _ h => h) hr
            | blk _ hh => simp [Shape] at hh
          · cases hj
        obtain ⟨Fs', h'⟩ := h.put hput (vs_of_cells ho r2 r3) fun b hb => hb
        refine done_mk (v := y) ?_ (h'.letGo (H' := No) fun b hb => hb.elim)
        simp [execOp, hop, hx, Instr.field, run_underlying hu, hf, asAgg, r1]
      · cases ht
    · cases hi
  · cases hi
theorem OwnL.noStrip {P : Program} {w : World} {ok : Nat → Prop} {cs : List V} {us : List Value} {F : Nat → Prop} (h : OwnL P w ok cs us F) : OwnL P w ok (cs.map V.strip) us No := by
  obtain ⟨hl, Fc, g1, g2, g3⟩ := h
  refine OwnL.ofData (by simpa using hl) fun j v u hv hu => ?_
  rw [List.getElem?_map] at hv
  obtain ⟨v0, hv0, rfl⟩ := Option.map_eq_some_iff.1 hv
  have := g1 j v0 u hv0 hu
  cases v0 with
  | d y =>
    cases this with
    | d hF hr => exact .d (fun _ h => h) hr
    | blk _ hh => simp [Shape] at hh
  | _ => exact .dead this.one fun _ h => h
theorem ok_extract (h : Rel C No e tm w Fs) {ty : TypeId} {x : Operand} {q : Opd} {n : Nat} (hop : o.op = .extract x n) (hq : Mir.opd C.P ty x = some q)
    (hi : ioI call pm C.rt e o.dst (.extract n q) = some e') : Done C o e' tm w := by
  simp only [ioI] at hi
  split at hi
  · rename_i t ts heq
    obtain ⟨⟨a, cs⟩, hts, hput⟩ := Option.bind_eq_some_iff.1 hi
    obtain ⟨F, ht, hw⟩ := h.opd hq
    rcases hw with ⟨t2, h1, rfl, hFt⟩ | ⟨_, _, hn⟩
    · cases h1
      rw [heq] at ht
      obtain ⟨xs, hx, hl, Fc, g1, g2, g3⟩ := ht
      have hn := (List.getElem?_eq_some_iff.1 hts).1
      have hxs : xs[n]? = some xs[n] := List.getElem?_eq_getElem (by omega)
      have hv := g1 n (a, cs) _ hts hxs
      have hFn : ∀ b, Fc n b → Fs t b := fun b hb => (hFt b).1 ((g3 b).2 ⟨n, hn, hb⟩)
      have hs := h.set t (t := .tup (ts.set n (a, cs.map V.strip))) (x := tm t) (F := fun b => F b ∧ ¬ Fc n b) (H' := Fc n) (fun b hb => .inr ((hFt b).1 hb.1)) (fun b hb => ⟨.inr (hFn b hb), fun hh => hh.2 hb⟩) (by simp [T.roots]) (by
        have hok : ∀ b, okOf C.X No Fs b → okOf C.X (Fc n) (fun t' b => if t' = t then F b ∧ ¬ Fc n b else Fs t' b) b := fun b hb => ⟨hb.1, fun hh => hb.2.2 t (hFn b hh), fun t' => by
          by_cases e1 : t' = t
          · simp only [e1, if_true]; exact fun hh => hb.2.2 t ((hFt b).1 hh.1)
          · simp only [e1, if_false]; exact hb.2.2 t'⟩
        refine ⟨xs, hx, by simpa using hl, fun j b => if j = n then False else Fc j b, fun j c y hc hy => ?_, fun i j b hi hj hij h1 h2 => ?_, fun b => ?_⟩
        · by_cases e1 : j = n
          · subst e1
            rw [List.getElem?_set_self hn] at hc; cases hc
            rw [hxs] at hy; cases hy
            simp only [if_true]
            exact ⟨hv.1, (OwnL.noStrip hv.2).ok hok⟩
          · rw [List.getElem?_set_ne (Ne.symm e1)] at hc
            simp only [e1, if_false]
            exact VS.okMono (g1 j c y hc hy) hok
        · simp only [List.length_set] at hi hj
          by_cases e1 : i = n
          · simp [e1] at h1
          · by_cases e2 : j = n
            · simp [e2] at h2
            · simp only [e1, e2, if_false] at h1 h2; exact g2 i j b hi hj hij h1 h2
        · simp only [List.length_set]
          rw [g3]
          constructor
          · rintro ⟨⟨j, hj, hb⟩, hnb⟩
            have : j ≠ n := by rintro rfl; exact hnb hb
            exact ⟨j, hj, by simpa [this] using hb⟩
          · rintro ⟨j, hj, hb⟩
            by_cases e1 : j = n
            · simp [e1] at hb
            · simp only [e1, if_false] at hb
              exact ⟨⟨j, hj, hb⟩, fun hh => g2 j n b hj hn e1 hb hh⟩)
      have htm : (fun t' => if t' = t then tm t else tm t') = tm := funext fun t' => by split <;> simp_all
      rw [htm] at hs
      have hv' : VS C.P w (okOf C.X (Fc n) fun t' b => if t' = t then F b ∧ ¬ Fc n b else Fs t' b) a cs xs[n] (Fc n) := VS.okMono hv fun b hb => ⟨hb.1, fun hh => hb.2.2 t (hFn b hh), fun t' => by
          by_cases e1 : t' = t
          · simp only [e1, if_true]; exact fun hh => hb.2.2 t ((hFt b).1 hh.1)
          · simp only [e1, if_false]; exact hb.2.2 t'⟩
      obtain ⟨Fs', h'⟩ := hs.put hput hv' fun b hb => hb
      refine done_mk (v := xs[n]) ?_ (h'.letGo (H' := No) fun b hb => hb.elim)
      simp [execOp, hop, hx, Instr.extract, hxs]
    · exact (hn _ rfl).elim
  · cases hi
end
end Go.Mir

set_option linter.unusedVariables false
set_option linter.unusedSimpArgs false
namespace Go.Mir
open Go.RowKit
theorem eqVs_append : ∀ {ks ls : List K} {a b c d : List Value}, a.length = ks.length → b.length = ks.length → eqVs (ks ++ ls) (a ++ c) (b ++ d) = (eqVs ks a b).bind fun r => if r then eqVs ls c d else some false
  | [], ls, [], [], c, d, _, _ => by simp [eqVs]
  | k :: ks, ls, x :: a, y :: b, c, d, h, h' => by
    simp only [List.cons_append, eqVs, eqVs_append (ks := ks) (ls := ls) (a := a) (b := b) (c := c) (d := d) (by simpa using h) (by simpa using h')]
    cases eqV k x y with
    | none => simp
    | some r => cases r <;> simp
  | [], ls, x :: a, b, c, d, h, _ => by simp at h
  | [], ls, [], y :: b, c, d, _, h => by simp at h
  | k :: ks, ls, [], b, c, d, h, _ => by simp at h
  | k :: ks, ls, x :: a, [], c, d, _, h => by simp at h
section
variable {P : Program} {w : World}
theorem isAggT_struct {t : TypeId} {fs : Array Field} (h : P.underlying t = some (.struct fs)) : isAggT P t = true := by simp [isAggT, h]
theorem flatK_fit {d : Nat} {t : TypeId} {ks : List K} (h : flatK P d t = some ks) (hl : ks.length = P.cellsOf t) : (P.underlying t).isSome ∧ (isAggT P t = true ∨ P.cellsOf t = 1) := by
  cases d with
  | zero => simp [flatK] at h
  | succ d =>
    simp only [flatK] at h
    cases hu : P.underlying t with
    | none => simp [hu] at h
    | some ds =>
      rw [hu] at h
      refine ⟨rfl, ?_⟩
      cases ds <;> simp only [reduceCtorEq] at h <;> first
        | (left; simp [isAggT, hu]; done)
        | (right; split at h; · assumption
           · cases h)
theorem equal_flat : ∀ (d : Nat) (t : TypeId) (ks : List K), flatK P d t = some ks → ∀ (d' : Nat), d ≤ d' → ∀ (x y : Value) (r : Bool), (isAggT P t = true → ∃ a, x = .agg a) → (isAggT P t = true → ∃ a, y = .agg a) → (cellsOf (isAggT P t) x).length = ks.length → (cellsOf (isAggT P t) y).length = ks.length →
    eqVs ks (cellsOf (isAggT P t) x) (cellsOf (isAggT P t) y) = some r → (Op.equalIn d' t x y).run P w = .ok r w
  | 0, t, ks, h => by simp [flatK] at h
  | d + 1, t, ks, h => by
    intro d' hd x y r hx hy lx ly he
    obtain ⟨d', rfl⟩ : ∃ k, d' = k + 1 := ⟨d' - 1, by omega⟩
    simp only [flatK] at h
    cases hu : P.underlying t with
    | none => simp [hu] at h
    | some ds =>
      rw [hu] at h
      have single : ∀ k, isAggT P t = false → eqVs [k] (cellsOf (isAggT P t) x) (cellsOf (isAggT P t) y) = some r → eqV k x y = some r := fun k h he => by
        simp only [cellsOf, h, Bool.false_eq_true, if_false, eqVs] at he
        obtain ⟨b, hb, he⟩ := Option.bind_eq_some_iff.1 he
        have : b = r := by cases b <;> simpa using he
        rw [← this]; exact hb
      cases ds <;> simp only [reduceCtorEq] at h
      case bool =>
        split at h
        · cases h
          have hb := single _ (by simp [isAggT, hu]) he
          cases x <;> cases y <;> simp [eqV] at hb
          subst hb
          exact run_equalIn_bool' w d' t _ _ hu
        · cases h
      case int k =>
        split at h
        · cases h
          have hb := single _ (by simp [isAggT, hu]) he
          cases x <;> cases y <;> simp [eqV] at hb
          obtain ⟨rfl, rfl⟩ := hb
          exact run_equalIn_int w d' t _ k _ _ hu
        · cases h
      case string =>
        split at h
        · cases h
          have hb := single _ (by simp [isAggT, hu]) he
          cases x <;> cases y <;> simp [eqV] at hb
          subst hb
          rw [run_equalIn_string w d' t _ _ hu, beq_toListBytes]
        · cases h
      case struct fs =>
        split at h
        · cases h
        · rename_i hst
          have ha := isAggT_struct hu
          obtain ⟨xs, rfl⟩ := hx ha
          obtain ⟨ys, rfl⟩ := hy ha
          simp only [ha, cellsOf, if_true, Array.length_toList] at he lx ly
          have hf : P.fieldsOf t = fs := by simp [Program.fieldsOf, hu]
          rw [run_equalIn_struct w d' t xs ys (by rw [hf]; exact hu) (by simpa using hst), hf]
          have key : ∀ (l : List Field) (o : Nat) (ks : List K) (r : Bool), flatKs P (flatK P d) l o = some ks → o + ks.length ≤ xs.size → o + ks.length ≤ ys.size → eqVs ks ((xs.toList.drop o).take ks.length) ((ys.toList.drop o).take ks.length) = some r → (Op.eqFields d' xs ys l).run P w = .ok r w := by
            intro l
            induction l with
            | nil =>
              intro o ks r hfl _ _ he
              simp only [flatKs, Option.some.injEq] at hfl
              subst hfl
              simp only [List.length_nil, List.take_zero, eqVs, Option.some.injEq] at he
              subst he
              rfl
            | cons f l ih =>
              intro o ks r hfl hxl hyl he
              simp only [flatKs] at hfl
              split at hfl
              · rename_i hon
                obtain ⟨a, hft, hfl⟩ := Option.bind_eq_some_iff.1 hfl
                split at hfl
                · rename_i hal
                  obtain ⟨ks', hks, rfl⟩ := Option.map_eq_some_iff.1 hfl
                  rw [List.length_append] at hxl hyl
                  have hfu := flatK_fit hft hal
                  obtain ⟨x1, p1, p2, p3⟩ := run_part (P := P) (w := w) hfu.1 (cs := xs) (off := o) (by omega) hfu.2
                  obtain ⟨y1, q1, q2, q3⟩ := run_part (P := P) (w := w) hfu.1 (cs := ys) (off := o) (by omega) hfu.2
                  have l1 : ((xs.toList.drop o).take a.length).length = a.length := by simp; omega
                  have l2 : ((ys.toList.drop o).take a.length).length = a.length := by simp; omega
                  rw [List.length_append, List.take_add, List.take_add, eqVs_append l1 l2, List.drop_drop, List.drop_drop] at he
                  obtain ⟨b, hb, he⟩ := Option.bind_eq_some_iff.1 he
                  have h1 := equal_flat d f.type _ hft d' (by omega) x1 y1 b p3 q3 (by rw [p2, ← hal]; exact l1) (by rw [q2, ← hal]; exact l2) (by rw [p2, q2, ← hal]; exact hb)
                  simp only [Op.eqFields, hon.2, ne_eq, not_false_eq_true, if_true, hon.1, Sem.run_bind, p1, q1, h1, Result.andThen_ok]
                  cases b with
                  | false => simp at he; subst he; simp
                  | true =>
                    simp only [if_true] at he
                    rw [hal] at he hxl hyl
                    simpa using ih _ ks' r hks (by omega) (by omega) he
                · cases hfl
              · cases hfl
          exact key fs.toList 0 ks r h (by omega) (by omega) (by rw [List.drop_zero, List.drop_zero, List.take_of_length_le (by simp; omega), List.take_of_length_le (by simp; omega)]; exact he)
theorem run_ibin {k : IntKind} {a b : Int} {o : BinOp} {v : Value} (h1 : o ≠ .shl) (h2 : o ≠ .shr) (h : ibin o k a b = some v) (t : TypeId) : (binOp o t (.int k a) (.int k b)).run P w = .ok v w := by
  cases o <;> simp only [ibin] at h <;> (try (split at h; · cases h)) <;> first
    | (exact (h1 rfl).elim) | (exact (h2 rfl).elim)
    | (simp only [Option.some.injEq] at h; subst h; simp [binOp, Op.intArith, Op.intDiv, Op.intBits, Op.intCmp, *]; done)
    | cases h
end
section
variable {C : Ctx} {e e' : Env} {tm : Nat → Value} {w : World} {Fs : Nat → Nat → Prop} {o : Oper} {call : FuncId → List T → Option Res} {pm : FuncId → List PM}
theorem scs_own {P : Program} {w : World} {ok : Nat → Prop} : ∀ {cs : List V} {vs us : List Value} {F : Nat → Prop}, scs cs = some vs → OwnL P w ok cs us F → us = vs ∧ ∀ v ∈ vs, plain v = true
  | [], vs, us, F, h, ho => by
    simp [scs] at h; subst h
    exact ⟨List.eq_nil_of_length_eq_zero (by rw [← ho.1]; rfl), by simp⟩
  | c :: cs, vs, [], F, h, ho => by simp [OwnL] at ho
  | c :: cs, vs, u :: us, F, h, ho => by
    obtain ⟨F0, G, g1, g2, _, _⟩ := ho.head
    cases c with
    | d x =>
      cases x with
      | sc v =>
        simp only [scs] at h
        obtain ⟨vs', hv, rfl⟩ := Option.map_eq_some_iff.1 h
        obtain ⟨rfl, h2⟩ := scs_own hv g2
        cases g1 with
        | d _ hr =>
          cases hr with
          | sc hp => exact ⟨rfl, by simpa [hp] using h2⟩
        | blk _ hh => simp [Shape] at hh
      | sl xs => simp [scs] at h
    | _ => simp [scs] at h
theorem run_bin {t : TypeId} {ks : Option (Bool × List K)} (hk : eqKind C.P t = some ks) {op : BinOp} {tx ty : T} {x y v : Value} {F G : Nat → Prop} {ok : Nat → Prop} (hx : TR C.P w ok e tm tx x F) (hy : TR C.P w ok e tm ty y G) (h : bin ks op tx ty = some v) (ox oy : Operand) :
    ((do eqGuard op t ox oy x y; binOp op t x y) : Sem Value).run C.P w = .ok v w ∧ plain v = true := by
  unfold bin at h
  split at h
  · rename_i k a k' b
    obtain ⟨rfl, _⟩ := VS.sc hx
    obtain ⟨rfl, _⟩ := VS.sc hy
    have hg : (eqGuard op t ox oy (.int k a) (.int k' b)).run C.P w = .ok () w := by cases op <;> simp [eqGuard]
    simp only [Sem.run_bind, hg, Result.andThen_ok]
    split at h
    · unfold ishift at h
      split at h
      · cases h
      · rename_i hb; simp only [Option.some.injEq] at h; subst h; exact ⟨by simp [binOp, Op.shift, hb], rfl⟩
    · unfold ishift at h
      split at h
      · cases h
      · rename_i hb; simp only [Option.some.injEq] at h; subst h; exact ⟨by simp [binOp, Op.shift, hb], rfl⟩
    · rename_i h1 h2
      split at h
      · rename_i hkk
        subst hkk
        refine ⟨run_ibin (fun e => h1 e) (fun e => h2 e) h t, ?_⟩
        cases op <;> simp only [ibin, Option.some.injEq, reduceCtorEq] at h <;> (try (split at h; · cases h)) <;> (try simp only [Option.some.injEq] at h) <;> subst h <;> rfl
      · cases h
  · rename_i a b
    obtain ⟨rfl, _⟩ := VS.sc hx
    obtain ⟨rfl, _⟩ := VS.sc hy
    have hg : (eqGuard op t ox oy (.string a) (.string b)).run C.P w = .ok () w := by cases op <;> simp [eqGuard]
    simp only [Sem.run_bind, hg, Result.andThen_ok]
    cases op <;> simp only [strbin, Option.some.injEq, reduceCtorEq] at h
    case add =>
      split at h
      · rename_i hl
        simp only [Option.some.injEq] at h
        subst h
        refine ⟨?_, rfl⟩
        have hm : ¬ (((a.size + b.size : Nat) : Int) > IntKind.i64.max) := by
          simp only [IntKind.max, IntKind.signed, IntKind.bits, if_true]
          omega
        simp only [binOp, Op.stringOp, if_neg hm]
        rfl
      · cases h
    all_goals
      subst h
      exact ⟨by simp [binOp, Op.stringOp, beq_toListBytes], rfl⟩
  · rename_i ag ks a xs a' ys
    split at h
    · rename_i hc
      obtain ⟨rfl, rfl, hlx, hly⟩ := hc
      obtain ⟨xa, hxa, h⟩ := Option.bind_eq_some_iff.1 h
      obtain ⟨ya, hya, h⟩ := Option.bind_eq_some_iff.1 h
      obtain ⟨ex, _⟩ := scs_own hxa hx.2
      obtain ⟨ey, _⟩ := scs_own hya hy.2
      have lx : xa.length = ks.length := by rw [← ex, ← hx.2.1, hlx]
      have ly : ya.length = ks.length := by rw [← ey, ← hy.2.1, hly]
      unfold eqKind at hk
      split at hk
      · rename_i hu
        simp only [Option.some.injEq, Prod.mk.injEq] at hk
        obtain ⟨rfl, rfl⟩ := hk
        have one : ∀ {z : List Value}, z.length = [K.b].length → ∃ q, z = [q] := fun {z} h => List.length_eq_one_iff.1 h
        obtain ⟨x1, rfl⟩ := one lx
        obtain ⟨y1, rfl⟩ := one ly
        have key : ∀ (r : Bool), eqVs [K.b] [x1] [y1] = some r → ∃ p q : Bool, x1 = .bool p ∧ y1 = .bool q ∧ r = (p == q) := fun r hr => by
          simp only [eqVs] at hr
          obtain ⟨b, hb, hr⟩ := Option.bind_eq_some_iff.1 hr
          have : b = r := by cases b <;> simpa using hr
          subst this
          cases x1 <;> cases y1 <;> simp [eqV] at hb
          exact ⟨_, _, rfl, rfl, hb.symm⟩
        simp only [cellsOf, Bool.false_eq_true, if_false, List.cons.injEq, and_true] at ex ey
        subst ex; subst ey
        cases op <;> simp only [reduceCtorEq] at h
        case eql =>
          obtain ⟨r, hr, rfl⟩ := Option.map_eq_some_iff.1 h
          obtain ⟨p, q, rfl, rfl, rfl⟩ := key r hr
          refine ⟨?_, rfl⟩
          simp [Sem.run_bind, eqGuard, run_eql_bool w t p q hu]
        case neq =>
          obtain ⟨r, hr, rfl⟩ := Option.map_eq_some_iff.1 h
          obtain ⟨p, q, rfl, rfl, rfl⟩ := key r hr
          refine ⟨?_, rfl⟩
          simp [Sem.run_bind, eqGuard, run_neq_bool w t p q hu]
      · rename_i fs hu
        split at hk
        · cases hk
        · rename_i hgt
          obtain ⟨ks', hks, hk⟩ := Option.map_eq_some_iff.1 hk
          simp only [Option.some.injEq, Prod.mk.injEq] at hk
          obtain ⟨rfl, rfl⟩ := hk
          have ha := isAggT_struct hu
          obtain ⟨xarr, rfl⟩ := hx.1 rfl
          obtain ⟨yarr, rfl⟩ := hy.1 rfl
          have hge : ∀ op, (eqGuard op t ox oy (.agg xarr) (.agg yarr)).run C.P w = .ok () w := fun op => run_eqGuard_agg w op t ox oy xarr yarr (by simpa using hgt)
          have heq : ∀ r, eqVs ks' xa ya = some r → (Op.equalIn 10000 t (.agg xarr) (.agg yarr)).run C.P w = .ok r w := fun r hr => by
            refine equal_flat 8 t ks' hks 10000 (by omega) _ _ r (fun _ => ⟨_, rfl⟩) (fun _ => ⟨_, rfl⟩) ?_ ?_ ?_
            · rw [ha, ex, lx]
            · rw [ha, ey, ly]
            · rw [ha, ex, ey]; exact hr
          cases op <;> simp only [reduceCtorEq] at h
          case eql =>
            obtain ⟨r, hr, rfl⟩ := Option.map_eq_some_iff.1 h
            refine ⟨?_, rfl⟩
            simp only [Sem.run_bind, hge, Result.andThen_ok, run_eql_struct, heq r hr]
          case neq =>
            obtain ⟨r, hr, rfl⟩ := Option.map_eq_some_iff.1 h
            refine ⟨?_, rfl⟩
            simp only [Sem.run_bind, hge, Result.andThen_ok, run_neq_struct, heq r hr]
      · cases hk
      · cases hk
      · cases hk
    · cases h
  · cases h
theorem ok_bin (h : Rel C No e tm w Fs) {t t1 t2 t3 : TypeId} {ks : Option (Bool × List K)} {op : BinOp} {x y : Operand} {qx qy : Opd} (hop : o.op = .binOp op t x y t3) (hk : eqKind C.P t = some ks) (hx : Mir.opd C.P t1 x = some qx) (hy : Mir.opd C.P t2 y = some qy)
    (hi : ioI call pm C.rt e o.dst (.bin ks op qx qy) = some e') : Done C o e' tm w := by
  simp only [ioI] at hi
  obtain ⟨v, hv, hput⟩ := Option.bind_eq_some_iff.1 hi
  obtain ⟨F, tx, _⟩ := h.opd hx
  obtain ⟨G, ty, _⟩ := h.opd hy
  obtain ⟨hr, hp⟩ := run_bin hk tx ty hv x y
  obtain ⟨Fs', h'⟩ := h.putSc hput hp
  refine done_mk (v := v) (w' := w) ?_ h'
  simp only [execOp, hop, Sem.run_bind]
  rw [← Sem.run_bind, hr]
  rfl
end
end Go.Mir
