/- Am3: the abstract machine's code and its evaluator. No condition. -/
import Derived.Test.YtbogogbogdafiaaAm2
set_option linter.unusedVariables false
namespace Go.Am
inductive MO where
 | t (n : Nat)
 | k (v : AVal)
inductive MOp where
 | mv (x : MO)
 | pick (c x y : MO)
 | alloc (zs : List ACell)
 | box (sz : Nat) (x : MO)
 | build (zs : List ACell) (parts : List (Nat × Nat × MO))
 | bslice (sz : Nat) (parts : List MO)
 | load (ag : Bool) (sz : Nat) (x : MO)
 | loadd (ag : Bool) (sz : Nat) (x : MO)
 | store (sz : Nat) (x v : MO)
 | nilchk (x : MO)
 | bin (op : BinOp) (x y : MO)
 | binb (op : BinOp) (x y : MO)
 | un (op : UnOp) (x : MO)
 | conv (k : IntKind) (x : MO)
 | mkslice (m : Mode) (sz by_ : Nat) (zs : List C) (l c : MO)
 | slice (sz : Nat) (x : MO) (lo hi : Option MO)
 | tail (sz : Nat) (x lo : MO)
 | fieldA (off : Nat) (x : MO)
 | idxA (sz : Nat) (x i : MO)
 | ext (i : Nat) (x : MO)
 | fld (ag : Bool) (off sz : Nat) (x : MO)
 | rowm (f : FuncId) (col : Bool) (x : MO)
 | len (x : MO)
 | append (fl : Bool) (sz by_ : Nat) (x y : MO)
 | copy (sz : Nat) (x y : MO)
 | clr (z : C) (x : MO)
 | mm (mx : Bool) (x y : MO)
 | call (m : Mode) (f : FuncId) (xs : List MO)
 | calld (f : FuncId) (xs : List MO)
 | mkfn (f : FuncId) (xs : List MO)
 | callv (m : Mode) (x : MO) (xs : List MO)
 | callm (m : Mode) (f : FuncId) (xs : List MO)
 | callb (f : FuncId) (xs : List MO)
 | callw (f : FuncId) (xs : List MO)
structure MOper where
 dst : Option Nat
 op : MOp
 guard : Option (Nat × Bool)
inductive MCode where
 | skip
 | reg (draw : Bool) (ops : List MOper)
 | regD (ps : List (Nat × Nat)) (ops : List MOper)
 | seq (a b : MCode)
 | cond (c : MO) (a b : MCode)
 | block (id : Nat) (c : MCode)
 | join (ke kh : List Nat) (cn : List (Bool × Nat × Nat × Nat × Mode)) (c : MCode)
 | loop (id : Nat) (ke kh : List Nat) (cn : List (Bool × Nat × Nat × Nat × Mode)) (c : MCode)
 | exit (id : Nat)
 | ret
inductive K where
 | one | agg | ptr
 deriving DecidableEq
abbrev Dv := K × List C
abbrev MSig := List (List (Option Mode))
structure Tab where
 pure : List (FuncId × (List Dv → Option (List Dv)))
 muts : List (FuncId × MSig × (List Dv → Option (List Dv × List C)))
 vs : List (FuncId × (List Dv → Option (List Dv × List C)))
 ws : List (FuncId × MSig × (List Dv → Option (Nat × Nat)))
def Tab.findM : List (FuncId × MSig × (List Dv → Option (List Dv × List C))) → FuncId → Option (MSig × (List Dv → Option (List Dv × List C)))
 | [], _ => none
 | (g, M) :: l, f => if f = g then some M else Tab.findM l f
def Tab.findW : List (FuncId × MSig × (List Dv → Option (Nat × Nat))) → FuncId → Option (MSig × (List Dv → Option (Nat × Nat)))
 | [], _ => none
 | (g, M) :: l, f => if f = g then some M else Tab.findW l f
def Tab.findV : List (FuncId × (List Dv → Option (List Dv × List C))) → FuncId → Option (List Dv → Option (List Dv × List C))
 | [], _ => none
 | (g, M) :: l, f => if f = g then some M else Tab.findV l f
def Tab.find : List (FuncId × (List Dv → Option (List Dv))) → FuncId → Option (List Dv → Option (List Dv))
 | [], _ => none
 | (g, M) :: l, f => if f = g then some M else Tab.find l f
inductive Out where
 | nrm (σ : St)
 | ext (id : Nat) (σ : St)
 | ret (σ : St)
def St.ev (σ : St) : MO → AVal
 | .t n => σ.env n
 | .k v => v
def St.put (σ : St) (d : Option Nat) (v : AVal) : St :=
 match d with
 | some n => { σ with env := upd σ.env n v }
 | none => σ
def St.ins (σ : St) (n : Nat) (b : Blk) : Option St :=
 if σ.used n = true then none else some { σ with h := upd σ.h n (some b), used := upd σ.used n true }
def St.setB (σ : St) (n : Nat) (b : Blk) : St := { σ with h := upd σ.h n (some b) }
def St.del (σ : St) (n : Nat) : St := { σ with h := upd σ.h n none }
def AVal.cells? : AVal → Option (Bool × List ACell)
 | .one .junk => none
 | .one c => some (false, [c])
 | .agg cs => some (true, cs)
 | .tup _ => none
def toA : Bool → List ACell → AVal
 | true, cs => .agg cs
 | false, [c] => .one c
 | false, _ => .one .junk
def sub {α : Type} (l : List α) (off sz : Nat) : Option (List α) := if off + sz ≤ l.length then some ((l.drop off).take sz) else none
def splice {α : Type} (l : List α) (off : Nat) (vs : List α) : List α := l.take off ++ vs ++ l.drop (off + vs.length)
def C.scal : C → Bool
 | .list .. => false
 | _ => true
def scalL (l : List C) : Bool := l.all C.scal
def scalLL (l : List (List C)) : Bool := l.all scalL
def liveCells (n k rs : Nat) : Nat → List C → List ACell
 | _, [] => []
 | off, .list sz ys :: l => .nsl n k rs off sz ys.length :: liveCells n k rs (off + 1) l
 | off, x :: l => .c x :: liveCells n k rs (off + 1) l
def loadAt (h : Nat → Option Blk) (p : ACell) (sz : Nat) : Option (List ACell) :=
 match p with
 | .ptr n k rsz off =>
  match h n with
  | some (.box cs) => if k = 0 then sub cs off sz else none
  | some (.row _ m rs xs) =>
   if rsz = rs then
    match xs[k]? with
    | some e => match sub e off sz with
     | some l => some (if m = .live then liveCells n k rs off l else l.map .c)
     | none => none
    | none => none
   else none
  | none => none
 | .dptr xs off => (sub xs off sz).map (·.map .c)
 | _ => none
def viewC (h : Nat → Option Blk) : ACell → Option C
 | .c x => some x
 | .nil sz => if 0 < sz then some (.list sz []) else none
 | .sl n sz lo len =>
  match h n with
  | some (.row _ _ rs xs) => if rs = sz ∧ lo + len ≤ xs.length then some (.list sz ((xs.drop lo).take len)) else none
  | _ => none
 | .nsl n k rsz off sz len =>
  match h n with
  | some (.row _ .live rs xs) => if rs = rsz then (xs[k]?).bind (·[off]?) else none
  | _ => none
 | _ => none
def viewL (h : Nat → Option Blk) : List ACell → Option (List C)
 | [] => some []
 | c :: cs => match viewC h c, viewL h cs with
  | some x, some xs => some (x :: xs)
  | _, _ => none
def viewA (h : Nat → Option Blk) : AVal → Option Dv
 | .one (.ptr n k sz off) =>
  match h n with
  | some (.box cs) => if k = 0 ∧ off = 0 then (viewL h cs).map fun l => (.ptr, l) else none
  | _ => none
 | .one (.dptr xs off) => if off = 0 then some (.ptr, xs) else none
 | .one c => (viewC h c).map fun x => (.one, [x])
 | .agg cs => (viewL h cs).map fun l => (.agg, l)
 | .tup _ => none
def viewAs (h : Nat → Option Blk) : List AVal → Option (List Dv)
 | [] => some []
 | c :: cs => match viewA h c, viewAs h cs with
  | some x, some xs => some (x :: xs)
  | _, _ => none
def St.takeC (σ : St) : ACell → Option (C × Bool × St)
 | .c x => some (x, x.scal, σ)
 | .nil sz => if 0 < sz then some (.list sz [], true, σ) else none
 | .sl n sz lo len =>
  match σ.h n with
  | some (.row _ m rs xs) => if rs = sz ∧ lo = 0 ∧ len ≤ xs.length then some (.list sz (xs.take len), decide (m ≠ .bor), σ.del n) else none
  | _ => none
 | _ => none
def St.takeL (σ : St) : List ACell → Option (List C × Bool × St)
 | [] => some ([], true, σ)
 | c :: cs => match σ.takeC c with
  | some (x, o, σ1) => match σ1.takeL cs with
   | some (xs, o', σ2) => some (x :: xs, o && o', σ2)
   | none => none
  | none => none
def St.frz (σ : St) : ACell → Option St
 | .ptr n _ _ _ => match σ.h n with
  | some (.box cs) => match σ.takeL cs with
   | some (xs, _, σ1) => some (σ1.setB n (.box (xs.map .c)))
   | none => none
  | _ => none
 | _ => none
def St.takeEs (sz : Nat) (σ : St) : List AVal → Option (List (List C) × Bool × St)
 | [] => some ([], true, σ)
 | v :: vs => match v.cells? with
  | some (_, cs) => if cs.length = sz then
    match σ.takeL cs with
    | some (e, o, σ1) => match σ1.takeEs sz vs with
     | some (es, o', σ2) => some (e :: es, o && o', σ2)
     | none => none
    | none => none
   else none
  | none => none
def St.imp (m : Mode) (σ : St) : Nat → List C → Option (List ACell × Nat × St)
 | nm, [] => some ([], nm, σ)
 | nm, .list sz xs :: cs => match σ.ins nm (.row true m sz xs) with
  | some σ1 => match σ1.imp m (nm + 1) cs with
   | some (l, nm', σ2) => some (.sl nm sz 0 xs.length :: l, nm', σ2)
   | none => none
  | none => none
 | nm, x :: cs => match σ.imp m nm cs with
  | some (l, nm', σ2) => some (.c x :: l, nm', σ2)
  | none => none
def St.imps (m : Mode) (σ : St) : Nat → List Dv → Option (List (Bool × List ACell) × St)
 | _, [] => some ([], σ)
 | nm, (.ptr, _) :: _ => none
 | nm, (k, cs) :: ds => match σ.imp m nm cs with
  | some (l, nm', σ1) => match σ1.imps m nm' ds with
   | some (ls, σ2) => some ((decide (k = .agg), l) :: ls, σ2)
   | none => none
  | none => none
def res1 : List (Bool × List ACell) → AVal
 | [(ag, cs)] => toA ag cs
 | l => .tup l
def nameOf (d : Option Nat) : Nat := match d with | some n => 1000 * (n + 1) | none => 999
def datsV : List Dv → Option (List (Bool × List ACell))
 | [] => some []
 | (.ptr, _) :: _ => none
 | (k, cs) :: ds => match datsV ds with
  | some ls => some ((decide (k = .agg), cs.map .c) :: ls)
  | none => none
def callDB (T : Tab) (f : FuncId) (as : List AVal) (h : Nat → Option Blk) : Option AVal :=
 match viewAs h as with
 | some ds => match Tab.find T.pure f with
  | some M => match M ds with
   | some rs => match datsV rs with
    | some ls => some (res1 ls)
    | none => none
   | none => none
  | none => none
 | none => none
def doCall (T : Tab) (m : Mode) (d : Option Nat) (f : FuncId) (as : List AVal) (σ : St) : Option St :=
 match viewAs σ.h as with
 | some ds => match Tab.find T.pure f with
  | some M => match M ds with
   | some rs => match σ.imps m (nameOf d) rs with
    | some (ls, σ1) => some (σ1.put d (res1 ls))
    | none => none
   | none => none
  | none => none
 | none => none
def immC : ACell → Option C
 | .c x => some x
 | .nil sz => if 0 < sz then some (.list sz []) else none
 | _ => none
def immL : List ACell → Option (List C)
 | [] => some []
 | c :: cs => match immC c, immL cs with
  | some x, some xs => some (x :: xs)
  | _, _ => none
def bPtr (h : Nat → Option Blk) : AVal → Option (Nat × List C)
 | .one (.ptr n k _ off) => if k = 0 ∧ off = 0 then match h n with
   | some (.box cs) => match immL cs with
    | some xs => some (n, xs)
    | none => none
   | _ => none
  else none
 | _ => none
def St.bArgs (σ : St) : List AVal → Option (List Dv × List Nat × St)
 | [] => some ([], [], σ)
 | v :: vs => match bPtr σ.h v with
  | some (n, xs) => match σ.bArgs vs with
   | some (ds, ns, σ1) => some ((.ptr, xs) :: ds, n :: ns, σ1)
   | none => none
  | none => match v.cells? with
   | some (ag, cs) => match σ.takeL cs with
    | some (xs, _, σ1) => match σ1.bArgs vs with
     | some (ds, ns, σ2) => some ((if ag = true then .agg else .one, xs) :: ds, ns, σ2)
     | none => none
    | none => none
   | none => none
def St.putB (σ : St) : List Nat → List C → Option St
 | [], [] => some σ
 | [n], out => match σ.h n with
  | some (.box cs) => if cs.length = out.length then some (σ.setB n (.box (out.map .c))) else none
  | _ => none
 | _, _ => none
def bRes (σ : St) (d : Option Nat) : List Dv → Option St
 | [(.ptr, cs)] => match d with
  | some q => match σ.ins q (.box (cs.map .c)) with
   | some σ1 => some (σ1.put d (.one (.ptr q 0 0 0)))
   | none => none
  | none => none
 | rs => match datsV rs with
  | some ls => some (σ.put d (res1 ls))
  | none => none
def doCallB (T : Tab) (d : Option Nat) (f : FuncId) (as : List AVal) (σ : St) : Option St :=
 match σ.bArgs as, Tab.findV T.vs f with
 | some (ds, ns, σ1), some M => match M ds with
  | some (rs, out) => match σ1.putB ns out with
   | some σ2 => bRes σ2 d rs
   | none => none
  | none => none
 | _, _ => none
def C.dep2 : C → Bool
 | .list _ xs => scalLL xs
 | _ => true
def C.isLB : C → Bool
 | .list .. => true
 | _ => false
def flatOk : Mode → List (List C) → Bool
 | .froz, xs => scalLL xs
 | .live, xs => xs.all fun e => e.all C.dep2
 | .bor, _ => false
inductive MIt where
 | nil (sz : Nat)
 | row (n : Nat)
 | nest (n k off : Nat)
def mitem (h : Nat → Option Blk) (md : Mode) : ACell → Option (MIt × C)
 | .nil sz => if 0 < sz ∧ md ≠ .bor then some (.nil sz, .list sz []) else none
 | .sl n sz lo len => match h n with
  | some (.row _ m rs xs) => if m ≠ .bor ∧ (md = .live → m = .live) ∧ rs = sz ∧ lo = 0 ∧ len = xs.length ∧ flatOk md xs = true then some (.row n, .list sz xs) else none
  | _ => none
 | .nsl n k rsz off sz len => match h n with
  | some (.row _ .live rs xs) => if rs = rsz ∧ md = .froz then
    match (xs[k]?).bind (·[off]?) with
    | some (.list s ys) => if scalLL ys = true then some (.nest n k off, .list s ys) else none
    | _ => none
   else none
  | _ => none
 | _ => none
def MIt.name? : MIt → Option Nat
 | .nil _ => none
 | .row n => some n
 | .nest n _ _ => some n
def ACell.name? : ACell → Option Nat
 | .sl n _ _ _ => some n
 | .nsl n _ _ _ _ _ => some n
 | _ => none
def mnames : List (Option Mode) → List ACell → List Nat
 | some _ :: fs, c :: cs => c.name?.toList ++ mnames fs cs
 | none :: fs, _ :: cs => mnames fs cs
 | _, _ => []
def mcells (h h0 : Nat → Option Blk) : List (Option Mode) → List ACell → Option (List C × List (MIt × Mode))
 | [], cs => match viewL h0 cs with
  | some xs => some (xs, [])
  | none => none
 | none :: fs, c :: cs => match viewC h0 c, mcells h h0 fs cs with
  | some x, some (xs, its) => some (x :: xs, its)
  | _, _ => none
 | some md :: fs, c :: cs => match mitem h md c, mcells h h0 fs cs with
  | some (it, x), some (xs, its) => some (x :: xs, (it, md) :: its)
  | _, _ => none
 | _ :: _, [] => none
def mnamesA : MSig → List (Bool × List ACell) → List Nat
 | s :: sig, a :: as => mnames s a.2 ++ mnamesA sig as
 | _, _ => []
def MSig.hd : MSig → List (Option Mode)
 | [] => []
 | s :: _ => s
def MSig.tl : MSig → MSig
 | [] => []
 | _ :: sig => sig
def mviews (h h0 : Nat → Option Blk) : MSig → List (Bool × List ACell) → Option (List Dv × List (MIt × Mode))
 | _, [] => some ([], [])
 | sig, (ag, cs) :: as => match mcells h h0 (MSig.hd sig) cs, mviews h h0 (MSig.tl sig) as with
  | some (xs, its), some (ds, its') => some ((if ag = true then (.agg, xs) else (.one, xs)) :: ds, its ++ its')
  | _, _ => none
def mArgs : List AVal → Option (List (Bool × List ACell))
 | [] => some []
 | v :: vs => match v.cells?, mArgs vs with
  | some x, some xs => some (x :: xs)
  | _, _ => none
def hwo (h : Nat → Option Blk) (ns : List Nat) : Nat → Option Blk := fun n => if ns.contains n = true then none else h n
def St.putOut (σ : St) : MIt → C → Option St
 | .nil _, _ => some σ
 | .row n, .list sz xs => match σ.h n with
  | some (.row gr m rs _) => if rs = sz then some (σ.setB n (.row gr m rs xs)) else none
  | _ => none
 | .nest n k off, x => match σ.h n with
  | some (.row gr m rs xs) => match xs[k]? with
   | some e => some (σ.setB n (.row gr m rs (xs.set k (e.set off x))))
   | none => none
  | _ => none
 | _, _ => none
def St.putOuts (σ : St) : List (MIt × Mode) → List C → Option St
 | [], [] => some σ
 | it :: its, x :: xs => match σ.putOut it.1 x with
  | some σ1 => σ1.putOuts its xs
  | none => none
 | _, _ => none
def doCallM (T : Tab) (m : Mode) (d : Option Nat) (f : FuncId) (as : List AVal) (σ : St) : Option St :=
 match Tab.findM T.muts f, mArgs as with
 | some (sig, M), some cas =>
  if (mnamesA sig cas).Nodup then
   match mviews σ.h (hwo σ.h (mnamesA sig cas)) sig cas with
   | some (ds, its) => match M ds with
    | some (rs, outs) => match σ.putOuts its outs with
     | some σ1 => match σ1.imps m (nameOf d) rs with
      | some (ls, σ2) => some (σ2.put d (res1 ls))
      | none => none
     | none => none
    | none => none
   | none => none
  else none
 | _, _ => none
def doCallW (T : Tab) (f : FuncId) (as : List AVal) (h : Nat → Option Blk) : Option AVal :=
 match Tab.findW T.ws f, mArgs as with
 | some (sig, M), some cas =>
  match mnamesA sig cas with
  | [n] => match mviews h (hwo h [n]) sig cas with
   | some (ds, [(.row n', _)]) => if n' = n then match h n, M ds with
    | some (.row _ _ sz _), some (lo, len) => some (.one (.sl n sz lo len))
    | _, _ => none
    else none
   | _ => none
  | _ => none
 | _, _ => none
def binI (op : BinOp) (k : IntKind) (a b : Int) : Option C :=
 match op with
 | .add => some (.int k (k.wrap (a + b)))
 | .sub => some (.int k (k.wrap (a - b)))
 | .mul => some (.int k (k.wrap (a * b)))
 | .quo => if b = 0 then none else some (.int k (k.wrap (a.tdiv b)))
 | .rem => if b = 0 then none else some (.int k (a.tmod b))
 | .and => some (.int k (bits .and k a b))
 | .or => some (.int k (bits .or k a b))
 | .xor => some (.int k (bits .xor k a b))
 | .eql => some (.bool (a == b))
 | .neq => some (.bool (a != b))
 | .lss => some (.bool (decide (a < b)))
 | .leq => some (.bool (decide (a ≤ b)))
 | .gtr => some (.bool (decide (b < a)))
 | .geq => some (.bool (decide (b ≤ a)))
 | _ => none
def shI (op : BinOp) (k : IntKind) (a b : Int) : Option C :=
 if b < 0 then none else
 match op with
 | .shl => some (.int k (k.wrap (a * 2 ^ (min b.toNat k.bits))))
 | .shr => some (.int k (a / (2 ^ (min b.toNat k.bits))))
 | _ => none
def BinOp.isSh : BinOp → Bool
 | .shl | .shr => true
 | _ => false
def binA (op : BinOp) : AVal → AVal → Option C
 | .one (.c (.int k a)), .one (.c (.int k' b)) => if BinOp.isSh op = true then shI op k a b else if k = k' then binI op k a b else none
 | _, _ => none
def binB (op : BinOp) : AVal → AVal → Option C
 | .one (.c (.bool a)), .one (.c (.bool b)) => match op with
  | .eql => some (.bool (a == b))
  | .neq => some (.bool (a != b))
  | _ => none
 | _, _ => none
def unA (op : UnOp) : AVal → Option C
 | .one (.c (.bool a)) => match op with
  | .not => some (.bool (!a))
  | _ => none
 | .one (.c (.int k a)) => match op with
  | .neg => some (.int k (k.wrap (0 - a)))
  | _ => none
 | _ => none
def AVal.int? : AVal → Option Int
 | .one (.c (.int _ n)) => some n
 | _ => none
def maxBytes : Nat := 140737488355328
def setParts (ev : MO → AVal) : List ACell → List (Nat × Nat × MO) → Option (List ACell)
 | zs, [] => some zs
 | zs, (off, sz, x) :: ps => match (ev x).cells? with
  | some (_, cs) => if cs.length = sz ∧ off + sz ≤ zs.length then setParts ev (splice zs off cs) ps else none
  | none => none
def storeRow (σ : St) (n : Nat) (gr : Bool) (m : Mode) (rs : Nat) (xs : List (List C)) (k off : Nat) (e : List C) (vs : List ACell) : Option St :=
 match sub e off vs.length with
 | none => none
 | some old => match σ.takeL vs with
  | none => none
  | some (cs, o, σ1) =>
   if m = .live then
    if scalL cs = true ∧ scalL old = true ∧ (σ1.h n).isSome = true then some (σ1.setB n (.row gr m rs (xs.set k (splice e off cs)))) else none
   else if (σ1.h n).isSome = true then
    some (σ1.setB n (.row gr (if o = true then m else .bor) rs (xs.set k (splice e off cs))))
   else none
def dataL : List ACell → Option (List C)
 | [] => some []
 | .c x :: l => if x.scal = true then (dataL l).map (x :: ·) else none
 | _ :: _ => none
def setNest (xs : List (List C)) (k off s i : Nat) (vs : List ACell) : Option (List (List C)) :=
 match (xs[k]?).bind (·[off]?) with
 | some (.list s' ys) => if s' = s ∧ vs.length = s ∧ i < ys.length ∧ scalLL ys = true then (dataL vs).map fun cs => xs.set k ((xs.getD k []).set off (.list s' (ys.set i cs))) else none
 | _ => none
def appLeft (σ : St) (sz : Nat) : AVal → Option (List (List C) × Mode × St)
 | .one (.nil _) => some ([], .froz, σ)
 | .one (.sl a s 0 len) => match σ.h a with
  | some (.row true m rs xs) => if rs = sz ∧ s = sz ∧ len = xs.length then some (xs, m, σ.del a) else none
  | _ => none
 | _ => none
def appRight (fl : Bool) (σ1 : St) (sz : Nat) (m : Mode) : AVal → Option (List (List C) × Mode × St)
  | .one (.nil _) => some ([], m, σ1)
  | .one (.c (.list s ys)) => if s = sz then (if (fl && scalLL ys) = true then some (ys, m, σ1) else if m = .live then none else some (ys, .bor, σ1)) else none
  | .one (.sl b s lo len) => match σ1.h b with
    | some (.row _ m' rs ys) => if rs = sz ∧ s = sz ∧ lo + len ≤ ys.length then
        (if (fl && scalLL ((ys.drop lo).take len)) = true then some ((ys.drop lo).take len, m, σ1)
         else if lo = 0 ∧ len = ys.length then (if m = m' then some (ys, m, σ1.del b) else if m = .live ∨ m' = .live then none else some (ys, .bor, σ1.del b)) else none)
      else none
    | _ => none
  | _ => none

def ACell.notJunk : ACell → Bool
 | .junk => false
 | _ => true
def rowC (col : Bool) (n : Int) (c : ACell) : List ACell := if col = true then [.c (.int .i64 n), .c (.int .i64 1), c] else [.c (.int .i64 1), .c (.int .i64 n), c]
def exec (T : Tab) (d : Option Nat) (op : MOp) (σ : St) : Option St :=
 match op with
 | .mv x => some (σ.put d (σ.ev x))
 | .pick c x y => match σ.ev c with
  | .one (.c (.bool b)) => if b = true then some (σ.put d (σ.ev x)) else some (σ.put d (σ.ev y))
  | _ => none
 | .alloc zs => match d with
  | some n => match σ.ins n (.box zs) with
   | some σ1 => some (σ1.put d (.one (.ptr n 0 0 0)))
   | none => none
  | none => none
 | .box sz x => match d, (σ.ev x).cells? with
  | some n, some (_, cs) => if cs.length = sz then
    match σ.ins n (.box cs) with
    | some σ1 => some (σ1.put d (.one (.ptr n 0 0 0)))
    | none => none
   else none
  | _, _ => none
 | .build zs parts => match setParts σ.ev zs parts with
  | some cs => some (σ.put d (.agg cs))
  | none => none
 | .bslice sz parts => match d, σ.takeEs sz (parts.map σ.ev) with
  | some n, some (es, o, σ1) => match σ1.ins n (.row true (if o = true then .froz else .bor) sz es) with
   | some σ2 => some (σ2.put d (.one (.sl n sz 0 es.length)))
   | none => none
  | _, _ => none
 | .load ag sz x => match σ.ev x with
  | .one p => match loadAt σ.h p sz with
   | some cs => some (σ.put d (toA ag cs))
   | none => none
  | _ => none
 | .loadd ag sz x => match σ.ev x with
  | .one p => match σ.frz p with
   | some σ1 => match loadAt σ1.h p sz with
    | some cs => some (σ1.put d (toA ag cs))
    | none => none
   | none => none
  | _ => none
 | .store sz x v => match σ.ev x, (σ.ev v).cells? with
  | .one (.ptr n k rsz off), some (_, vs) => if vs.length = sz then
    match σ.h n with
    | some (.box cs) => if k = 0 ∧ off + sz ≤ cs.length then some (σ.setB n (.box (splice cs off vs))) else none
    | some (.row gr m rs xs) => if rsz = rs then
      match xs[k]? with
      | some e => storeRow σ n gr m rs xs k off e vs
      | none => none
     else none
    | none => none
   else none
  | .one (.nptr n k rsz off s i), some (_, vs) => if vs.length = sz then
    match σ.h n with
    | some (.row gr .live rs xs) => if rsz = rs then
      match setNest xs k off s i vs with
      | some xs' => some (σ.setB n (.row gr .live rs xs'))
      | none => none
     else none
    | _ => none
   else none
  | _, _ => none
 | .nilchk x => match σ.ev x with
  | .one (.ptr n k sz off) => if (σ.h n).isSome = true then some (σ.put d (.one (.ptr n k sz off))) else none
  | .one (.dptr xs off) => some (σ.put d (.one (.dptr xs off)))
  | _ => none
 | .bin op x y => match binA op (σ.ev x) (σ.ev y) with
  | some c => some (σ.put d (.one (.c c)))
  | none => none
 | .binb op x y => match binB op (σ.ev x) (σ.ev y) with
  | some c => some (σ.put d (.one (.c c)))
  | none => none
 | .un op x => match unA op (σ.ev x) with
  | some c => some (σ.put d (.one (.c c)))
  | none => none
 | .conv k x => match σ.ev x with
  | .one (.c (.int _ n)) => some (σ.put d (.one (.c (.int k (k.wrap n)))))
  | _ => none
 | .mkslice m sz by_ zs l c => match d, (σ.ev l).int?, (σ.ev c).int? with
  | some n, some a, some b => if a ≤ b ∧ 0 ≤ a ∧ b.toNat * by_ ≤ maxBytes ∧ zs.length = sz then
    match σ.ins n (.row true m sz (List.replicate a.toNat zs)) with
    | some σ1 => some (σ1.put d (.one (.sl n sz 0 a.toNat)))
    | none => none
   else none
  | _, _, _ => none
 | .slice sz x lo hi =>
  let lo? : Option Int := match lo with | none => some 0 | some l => (σ.ev l).int?
  match σ.ev x, lo? with
  | .one (.sl n s l0 len), some l =>
   match (match hi with | none => some (len : Int) | some h => (σ.ev h).int?) with
   | some h => if s = sz ∧ 0 ≤ l ∧ l ≤ h ∧ h ≤ len ∧ (σ.h n).isSome = true then some (σ.put d (.one (.sl n s (l0 + l.toNat) (h - l).toNat))) else none
   | none => none
  | .one (.c (.list s xs)), some l =>
   match (match hi with | none => some (xs.length : Int) | some h => (σ.ev h).int?) with
   | some h => if s = sz ∧ 0 ≤ l ∧ l ≤ h ∧ h ≤ xs.length then some (σ.put d (.one (.c (.list s ((xs.drop l.toNat).take (h - l).toNat))))) else none
   | none => none
  | _, _ => none
 | .tail sz x lo => match d, σ.ev x, (σ.ev lo).int? with
  | some n, .one (.sl a s 0 len), some l => match σ.h a with
   | some (.row true m rs xs) => if rs = sz ∧ s = sz ∧ len = xs.length ∧ 0 ≤ l ∧ l ≤ len then
     match (σ.del a).ins n (.row true m sz (xs.drop l.toNat)) with
     | some σ1 => some (σ1.put d (.one (.sl n sz 0 (xs.length - l.toNat))))
     | none => none
    else none
   | _ => none
  | _, _, _ => none
 | .fieldA off x => match σ.ev x with
  | .one (.ptr n k sz o) => if (σ.h n).isSome = true then some (σ.put d (.one (.ptr n k sz (o + off)))) else none
  | .one (.dptr xs o) => some (σ.put d (.one (.dptr xs (o + off))))
  | _ => none
 | .idxA sz x i => match σ.ev x, (σ.ev i).int? with
  | .one (.sl n s lo len), some k => if s = sz ∧ 0 ≤ k ∧ k < len ∧ (σ.h n).isSome = true then some (σ.put d (.one (.ptr n (lo + k.toNat) s 0))) else none
  | .one (.c (.list s xs)), some k => if s = sz ∧ 0 ≤ k then
    match xs[k.toNat]? with
    | some e => some (σ.put d (.one (.dptr e 0)))
    | none => none
   else none
  | .one (.nsl n kk rsz off s len), some k => match viewC σ.h (.nsl n kk rsz off s len) with
   | some (.list s' ys) => if s' = sz ∧ 0 ≤ k ∧ k < ys.length then some (σ.put d (.one (.nptr n kk rsz off sz k.toNat))) else none
   | _ => none
  | _, _ => none
 | .ext i x => match σ.ev x with
  | .tup xs => match xs[i]? with
   | some (ag, cs) => some (σ.put d (toA ag cs))
   | none => none
  | _ => none
 | .fld ag off sz x => match σ.ev x with
  | .agg cs => match sub cs off sz with
   | some l => some (σ.put d (toA ag l))
   | none => none
  | _ => none
 | .rowm f col x => match σ.ev x with
  | .one (.sl n sz lo len) => if (σ.h n).isSome = true then some (σ.put d (.agg (rowC col len (.sl n sz lo len)))) else none
  | .one (.c (.list sz xs)) => some (σ.put d (.agg (rowC col xs.length (.c (.list sz xs)))))
  | .one (.nil sz) => some (σ.put d (.agg (rowC col 0 (.nil sz))))
  | _ => none
 | .len x => match σ.ev x with
  | .one (.sl n sz lo len) => if (σ.h n).isSome = true then some (σ.put d (.one (.c (.int .i64 len)))) else none
  | .one (.c (.list sz xs)) => some (σ.put d (.one (.c (.int .i64 xs.length))))
  | .one (.nil sz) => some (σ.put d (.one (.c (.int .i64 0))))
  | .one (.nsl n k rsz off sz len) => match viewC σ.h (.nsl n k rsz off sz len) with
   | some (.list s ys) => some (σ.put d (.one (.c (.int .i64 ys.length))))
   | _ => none
  | _ => none
 | .append fl sz by_ x y => match d with
  | none => none
  | some n => match appLeft σ sz (σ.ev x) with
   | none => none
   | some (xs, m, σ1) => match appRight fl σ1 sz m (σ.ev y) with
    | none => none
    | some (ys, m2, σ2) =>
     if (xs.length + ys.length) * by_ ≤ maxBytes then
      match σ2.ins n (.row true m2 sz (xs ++ ys)) with
      | some σ3 => some (σ3.put d (.one (.sl n sz 0 (xs.length + ys.length))))
      | none => none
     else none
 | .copy sz x y => match σ.ev x, σ.ev y with
  | .one (.sl n s lo len), .one c => match σ.h n, viewC σ.h c with
   | some (.row gr m rs xs), some (.list s' ys) => if sz = 1 ∧ s = 1 ∧ rs = 1 ∧ s' = 1 ∧ m ≠ .bor ∧ scalLL xs = true ∧ scalLL ys = true ∧ lo + len ≤ xs.length then
     some ((σ.setB n (.row gr m 1 (splice xs lo (ys.take len)))).put d (.one (.c (.int .i64 (Nat.min ys.length len : Nat))))) else none
   | _, _ => none
  | _, _ => none
 | .clr z x => match σ.ev x with
  | .one (.sl n s lo len) => match σ.h n with
   | some (.row gr m rs xs) => if s = 1 ∧ rs = 1 ∧ z.scal = true ∧ m ≠ .bor ∧ scalLL xs = true ∧ lo + len ≤ xs.length then
     some ((σ.setB n (.row gr m 1 (splice xs lo (List.replicate len [z])))).put d (.tup [])) else none
   | _ => none
  | _ => none
 | .mm mx x y => match σ.ev x, σ.ev y with
  | .one (.c (.int k a)), .one (.c (.int k' b)) => if mx = true then (if a < b then some (σ.put d (.one (.c (.int k b)))) else some (σ.put d (.one (.c (.int k a)))))
    else (if b < a then some (σ.put d (.one (.c (.int k b)))) else some (σ.put d (.one (.c (.int k a)))))
  | _, _ => none
 | .call m f xs => doCall T m d f (xs.map σ.ev) σ
 | .calld f xs => match callDB T f (xs.map σ.ev) σ.h with
  | some v => some (σ.put d v)
  | none => none
 | .mkfn f xs => match (xs.map σ.ev).mapM (fun v => match v with | .one c => if c.isFn = true then none else some c | _ => none) with
  | some cs => if cs.all ACell.notJunk = true then some (σ.put d (.one (.fn f cs))) else none
  | none => none
 | .callv m x xs => match σ.ev x with
  | .one (.fn f caps) => doCall T m d f (xs.map σ.ev ++ caps.map .one) σ
  | _ => none
 | .callm m f xs => doCallM T m d f (xs.map σ.ev) σ
 | .callb f xs => doCallB T d f (xs.map σ.ev) σ
 | .callw f xs => match doCallW T f (xs.map σ.ev) σ.h with
  | some v => some (σ.put d v)
  | none => none
def execO (T : Tab) (o : MOper) (σ : St) : Option St :=
 match o.guard with
 | none => exec T o.dst o.op σ
 | some (s, want) => match σ.env s with
  | .one (.c (.bool b)) => if b = want then exec T o.dst o.op σ else some (σ.put o.dst (.tup []))
  | .tup [] => some (σ.put o.dst (.tup []))
  | _ => none
def execs (T : Tab) : List MOper → St → Option St
 | [], σ => some σ
 | o :: os, σ => match execO T o σ with
  | some σ' => execs T os σ'
  | none => none
def ACell.clean0 (ok : Nat → Bool) : ACell → ACell
 | .ptr n k sz off => if ok n = true then .ptr n k sz off else .junk
 | .sl n sz lo len => if ok n = true then .sl n sz lo len else .junk
 | .nsl n k rsz off sz len => if ok n = true then .nsl n k rsz off sz len else .junk
 | .nptr n k rsz off sz i => if ok n = true then .nptr n k rsz off sz i else .junk
 | x => x
def ACell.clean (ok : Nat → Bool) : ACell → ACell
 | .fn f caps => .fn f (caps.map (·.clean0 ok))
 | x => x.clean0 ok
def AVal.clean (ok : Nat → Bool) : AVal → AVal
 | .one c => .one (c.clean ok)
 | .agg cs => .agg (cs.map (·.clean ok))
 | .tup xs => .tup (xs.map fun x => (x.1, x.2.map (·.clean ok)))
def Blk.clean (ok : Nat → Bool) : Blk → Blk
 | .box cs => .box (cs.map (·.clean ok))
 | b => b
def emptyEnv : Nat → AVal := fun _ => .one .junk
def emptyHeap : Nat → Option Blk := fun _ => none
def emptyUsed : Nat → Bool := fun _ => false
def restrE (ok : Nat → Bool) (env : Nat → AVal) : List Nat → (Nat → AVal)
 | [] => emptyEnv
 | s :: ss => upd (restrE ok env ss) s ((env s).clean ok)
def restrH (ok : Nat → Bool) (h : Nat → Option Blk) : List Nat → (Nat → Option Blk)
 | [] => emptyHeap
 | s :: ss => if ok s = true then match h s with
   | some b => upd (restrH ok h ss) s (some (b.clean ok))
   | none => restrH ok h ss
  else restrH ok h ss
def restrU (ok : Nat → Bool) : List Nat → (Nat → Bool)
 | [] => emptyUsed
 | s :: ss => if ok s = true then upd (restrU ok ss) s true else restrU ok ss
def ACell.refB0 (n : Nat) : ACell → Bool
 | .ptr m _ _ _ => m == n
 | .sl m _ _ _ => m == n
 | .nsl m _ _ _ _ _ => m == n
 | .nptr m _ _ _ _ _ => m == n
 | _ => false
def ACell.refB (n : Nat) : ACell → Bool
 | .fn _ caps => caps.any (·.refB0 n)
 | x => x.refB0 n
def AVal.refB (n : Nat) : AVal → Bool
 | .one c => c.refB n
 | .agg cs => cs.any (·.refB n)
 | .tup xs => xs.any fun x => x.2.any (·.refB n)
def St.okN (σ : St) (ke kh : List Nat) : Nat → Bool := fun n => kh.contains n && (σ.h n).isSome &&
 (Nat.ble PIN n || ke.any (fun s => (σ.env s).refB n) || kh.any fun k => match σ.h k with | some (.box cs) => cs.any (·.refB n) | _ => false)
def St.restr (σ : St) (ke kh : List Nat) : St :=
 { env := restrE (σ.okN ke kh) σ.env ke, h := restrH (σ.okN ke kh) σ.h kh, used := fun n => Nat.ble PIN n || restrU (σ.okN ke kh) kh n }
def rnm (x c n : Nat) : Nat := if n = x then c else n
def ACell.ren0 (x c : Nat) : ACell → ACell
 | .ptr n k sz off => .ptr (rnm x c n) k sz off
 | .sl n sz lo len => .sl (rnm x c n) sz lo len
 | .nsl n k rsz off sz len => .nsl (rnm x c n) k rsz off sz len
 | .nptr n k rsz off sz i => .nptr (rnm x c n) k rsz off sz i
 | y => y
def ACell.ren (x c : Nat) : ACell → ACell
 | .fn f caps => .fn f (caps.map (·.ren0 x c))
 | y => y.ren0 x c
def AVal.ren (x c : Nat) : AVal → AVal
 | .one y => .one (y.ren x c)
 | .agg ys => .agg (ys.map (·.ren x c))
 | .tup ys => .tup (ys.map fun y => (y.1, y.2.map (·.ren x c)))
def Blk.ren (x c : Nat) : Blk → Blk
 | .box cs => .box (cs.map (·.ren x c))
 | b => b
def St.ren (σ : St) (x c : Nat) : Option St :=
 if x = c then some σ else if Nat.ble PIN x = true then some σ else if σ.used c = true then none else
 some { env := fun s => (σ.env s).ren x c, h := fun n => if n = c then (σ.h x).map (·.ren x c) else if n = x then none else (σ.h n).map (·.ren x c), used := fun n => if n = c then σ.used x else if n = x then false else σ.used n }
def St.weak (σ : St) (c : Nat) : Mode → St
 | .bor => match σ.h c with
  | some (.row gr .froz rs xs) => σ.setB c (.row gr .bor rs xs)
  | _ => σ
 | _ => σ
def St.canon (σ : St) : Bool × Nat × Nat × Nat × Mode → Option St
 | (true, n, j, c, m) => match σ.h n with
  | some (.box cs) => match cs[j]? with
   | some (.sl a _ _ _) => (σ.ren a c).map fun σ1 => σ1.weak c m
   | some (.nil sz) => if 0 < sz then match σ.ins c (.row true m sz []) with
     | some σ1 => some (σ1.setB n (.box (cs.set j (.sl c sz 0 0))))
     | none => none
    else some σ
   | _ => some σ
  | _ => some σ
 | (false, n, j, c, m) => match σ.env n with
  | .one (.sl a _ _ _) => (σ.ren a c).map fun σ1 => σ1.weak c m
  | .one (.nil sz) => if 0 < sz then match σ.ins c (.row true m sz []) with
    | some σ1 => some (σ1.put (some n) (.one (.sl c sz 0 0)))
    | none => none
   else some σ
  | _ => some σ
def St.canons (σ : St) : List (Bool × Nat × Nat × Nat × Mode) → Option St
 | [] => some σ
 | x :: l => match σ.canon x with
  | some σ1 => σ1.canons l
  | none => none
def St.head (σ : St) (ke kh : List Nat) (cn : List (Bool × Nat × Nat × Nat × Mode)) : Option St :=
 match ((σ.restr ke kh).restr ke kh).canons cn with
 | some σ1 => some (σ1.restr ke kh)
 | none => none
def MOp.args : MOp → List MO
 | .mv x | .box _ x | .load _ _ x | .loadd _ _ x | .nilchk x | .un _ x | .conv _ x | .fieldA _ x | .ext _ x | .fld _ _ _ x | .rowm _ _ x | .len x | .clr _ x => [x]
 | .pick c x y => [c, x, y]
 | .alloc _ => []
 | .build _ ps => ps.map (·.2.2)
 | .bslice _ ps => ps
 | .store _ x v => [x, v]
 | .bin _ x y | .binb _ x y | .mm _ x y | .append _ _ _ x y | .copy _ x y | .idxA _ x y | .tail _ x y => [x, y]
 | .mkslice _ _ _ _ l c => [l, c]
 | .slice _ x lo hi => x :: (lo.toList ++ hi.toList)
 | .call _ _ xs | .mkfn _ xs | .callm _ _ xs | .calld _ xs | .callb _ xs | .callw _ xs => xs
 | .callv _ x xs => x :: xs
def MOp.isCall : MOp → Bool
 | .call .. | .callv .. | .calld .. => true
 | _ => false
def ACell.nm0 : ACell → List Nat
 | .ptr n _ _ _ => [n]
 | .sl n _ _ _ => [n]
 | .nsl n _ _ _ _ _ => [n]
 | .nptr n _ _ _ _ _ => [n]
 | _ => []
def ACell.nm : ACell → List Nat
 | .fn _ caps => caps.flatMap ACell.nm0
 | x => x.nm0
def AVal.nms : AVal → List Nat
 | .one c => c.nm
 | .agg cs => cs.flatMap ACell.nm
 | .tup xs => xs.flatMap fun x => x.2.flatMap ACell.nm
def boxNms (h : Nat → Option Blk) (l : List Nat) : List Nat := l.flatMap fun n => match h n with
 | some (.box cs) => cs.flatMap ACell.nm
 | _ => []
def MOp.nmA (op : MOp) (ev : MO → AVal) : List Nat := op.args.flatMap fun x => (ev x).nms
def MOp.rdN (op : MOp) (ev : MO → AVal) (h : Nat → Option Blk) : List Nat := cond op.isCall (op.nmA ev ++ boxNms h (op.nmA ev)) (op.nmA ev)
def MOp.wrN (op : MOp) (ev : MO → AVal) (h : Nat → Option Blk) : Option (List Nat) :=
 match op with
 | .store _ x v => match ev x with
  | .one (.ptr n _ _ _) => match h n with
   | some (.box _) => some [n]
   | some (.row ..) => some (n :: (ev v).nms)
   | none => none
  | .one (.nptr n _ _ _ _ _) => some [n]
  | _ => none
 | .bslice _ ps => some (ps.flatMap fun p => (ev p).nms)
 | .callb _ xs => some (xs.flatMap fun p => (ev p).nms)
 | .append _ _ _ x y => some ((ev x).nms ++ (ev y).nms)
 | .copy _ x _ | .clr _ x => match ev x with
  | .one (.sl n _ _ _) => some [n]
  | _ => none
 | .callm .. | .tail .. | .loadd .. => none
 | _ => some []
abbrev FP := List Nat × List Nat
def MOp.fp (op : MOp) (σ : St) : Option FP := (op.wrN σ.ev σ.h).map fun w => (op.rdN σ.ev σ.h, w)
def disj (f g : FP) : Bool := f.2.all (fun n => !(g.1.contains n)) && g.2.all (fun n => !(f.1.contains n))
def disjO : Option FP → Option FP → Bool
 | some f, some g => disj f g
 | _, _ => false
def effOp (o : MOper) (e : Nat → AVal) : Option MOp :=
 match o.guard with
 | none => some o.op
 | some (s, want) => match e s with
  | .one (.c (.bool b)) => if b = want then some o.op else some (.mv (.k (.tup [])))
  | .tup [] => some (.mv (.k (.tup [])))
  | _ => none
def MOper.fp (o : MOper) (σ : St) : Option FP :=
 match effOp o σ.env with
 | some op => op.fp σ
 | none => none
def pairsOk (ps : List (Nat × Nat)) (fs : List (Option FP)) : Bool := ps.all fun p => disjO (fs.getD p.1 none) (fs.getD p.2 none)
def execsD (T : Tab) : List MOper → List (Option FP) → St → Option (List (Option FP) × St)
 | [], acc, σ => some (acc, σ)
 | o :: os, acc, σ => match execO T o σ with
  | some σ1 => execsD T os (acc ++ [o.fp σ]) σ1
  | none => none
def FUEL : Nat := 2 ^ 64
def loopF : Nat → (St → Option Out) → St → Option Out
 | 0, _, _ => none
 | n + 1, f, σ => match f σ with
  | some (.nrm σ') => loopF n f σ'
  | o => o
def den (T : Tab) : MCode → St → Option Out
 | .skip, σ => some (.nrm σ)
 | .reg _ ops, σ => match execs T ops σ with
  | some σ' => some (.nrm σ')
  | none => none
 | .regD ps ops, σ => match execsD T ops [] σ with
  | some (fs, σ') => cond (pairsOk ps fs) (some (.nrm σ')) none
  | none => none
 | .seq a b, σ => match den T a σ with
  | some (.nrm σ') => den T b σ'
  | o => o
 | .cond c a b, σ => match σ.ev c with
  | .one (.c (.bool t)) => if t = true then den T a σ else den T b σ
  | _ => none
 | .block id c, σ => match den T c σ with
  | some (.ext i σ') => if i = id then some (.nrm σ') else some (.ext i σ')
  | o => o
 | .join ke kh cn c, σ => match den T c σ with
  | some (.nrm σ') => match σ'.head ke kh cn with
   | some σ1 => some (.nrm σ1)
   | none => none
  | o => o
 | .loop id ke kh cn c, σ => loopF FUEL (fun σ => match σ.head ke kh cn with | some σ1 => den T c σ1 | none => none) σ
 | .exit id, σ => some (.ext id σ)
 | .ret, σ => some (.ret σ)
end Go.Am