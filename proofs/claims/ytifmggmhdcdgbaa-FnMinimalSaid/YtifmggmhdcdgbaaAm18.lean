/- Am18: operations that may change places. No condition. -/
import Derived.Test.YtifmggmhdcdgbaaAm17
set_option linter.unusedVariables false
namespace Go.Am
def aC.dE:aC->Nat
 |.mv _|.pick ..|.build ..|.bin ..|.nV ..|.un ..|.conv ..|.ext ..|.kj ..|.mm ..|.oA ..=>0
 |.alloc _|.box ..|.load ..|.ga _|.mb ..|.slice ..|.aB ..|.dZ ..|.len _|.kE ..|.call ..|.lH ..|.lG ..=>1
 |_=>2
def St.cF (σ:St):List (Nat×aq)->Option St
 |[]=>some σ
 |(n,b)::l=>match σ.ins n b with
  |some σ1=>σ1.cF l
  |none=>none
def gI (m:Mode):Nat->List C->List ai×Nat×List (Nat×aq)
 |nm,[]=>([],nm,[])
 |nm,.list sz xs::cs=>(.sl nm sz 0 xs.length::(gI m (nm+1) cs).1,(gI m (nm+1) cs).2.1,(nm,.row true m sz xs)::(gI m (nm+1) cs).2.2)
 |nm,x::cs=>(.c x::(gI m nm cs).1,(gI m nm cs).2.1,(gI m nm cs).2.2)
def vq (m:Mode):Nat->List Dv->Option (List (Bool×List ai)×List (Nat×aq))
 |_,[]=>some ([],[])
 |nm,(.ptr,_)::_=>none
 |nm,(k,cs)::ds=>match vq m (gI m nm cs).2.1 ds with
  |some (ls,bs)=>some ((decide (k=.agg),(gI m nm cs).1)::ls,(gI m nm cs).2.2++bs)
  |none=>none
theorem WI (σ:St) (l l':List (Nat×aq)):σ.cF (l++l')=(σ.cF l).bind fun σ1=>σ1.cF l':=by
 induction l generalizing σ with
 |nil=>rfl
 |cons x l ih=>
  obtain⟨n,b⟩:=x
  simp only[List.cons_append,St.cF]
  cases σ.ins n b with
  |none=>rfl
  |some σ1=>exact ih σ1
theorem Hv (m:Mode):∀(cs:List C) (σ:St) (nm:Nat),σ.imp m nm cs=(σ.cF (gI m nm cs).2.2).map fun σ1=>((gI m nm cs).1,(gI m nm cs).2.1,σ1)
 |[],σ,nm=>rfl
 |.list sz xs::cs,σ,nm=>by
  simp only[St.imp,gI,St.cF]
  cases σ.ins nm (.row true m sz xs) with
  |none=>rfl
  |some σ1=>
   simp only[Hv m cs]
   cases σ1.cF (gI m (nm+1) cs).2.2<;>rfl
 |.int k n::cs,σ,nm=>by
  simp only[St.imp,gI,Hv m cs]
  cases σ.cF (gI m nm cs).2.2<;>rfl
 |.bool b::cs,σ,nm=>by
  simp only[St.imp,gI,Hv m cs]
  cases σ.cF (gI m nm cs).2.2<;>rfl
theorem M6 (m:Mode):∀(ds:List Dv) (σ:St) (nm:Nat),σ.iT m nm ds=(vq m nm ds).bind fun x=>(σ.cF x.2).map fun σ1=>(x.1,σ1)
 |[],σ,nm=>rfl
 |(k,cs)::ds,σ,nm=>by
  have cu:(match σ.imp m nm cs with
    |some (l,eQ,σ1)=>match σ1.iT m eQ ds with
     |some (ls,σ2)=>some ((decide (k=K.agg),l)::ls,σ2)
     |none=>none
    |none=>none)=(match vq m (gI m nm cs).2.1 ds with
    |some (ls,bs)=>some ((decide (k=K.agg),(gI m nm cs).1)::ls,(gI m nm cs).2.2++bs)
    |none=>none).bind fun x=>(σ.cF x.2).map fun σ1=>(x.1,σ1):=by
   rw[Hv]
   have ih:=fun(σ1:St)=>M6 m ds σ1 (gI m nm cs).2.1
   cases h1:σ.cF (gI m nm cs).2.2 with
   |none=>
    cases h2:vq m (gI m nm cs).2.1 ds with
    |none=>rfl
    |some x=>simp[WI,h1]
   |some σ1=>
    simp only[Option.map_some,ih]
    cases h2:vq m (gI m nm cs).2.1 ds with
    |none=>rfl
    |some x=>
     simp[WI,h1]
     cases σ1.cF x.2<;>rfl
  cases k with
  |ptr=>rfl
  |one=>exact cu
  |agg=>exact cu
def zi (T:bg) (m:Mode) (d:Option Nat) (f:FuncId) (as:List ak) (h:Nat->Option aq):Option (ak×List (Nat×aq)):=
 match j9 h as with
 |some ds=>match bg.find T.pure f with
  |some M=>match M ds with
   |some rs=>match vq m (yj d) rs with
    |some (ls,bs)=>some (lC ls,bs)
    |none=>none
   |none=>none
  |none=>none
 |none=>none
def XN (vs:List ak) (f:FuncId):Option ak:=
 match vs.mapM (fun v=>match v with|.one c=>if c.kx=true then none else some c|_=>none) with
 |some cs=>if cs.all ai.DC=true then some (.one (.fn f cs)) else none
 |none=>none
def rd (T:bg) (d:Option Nat) (op:aC) (ev:MO->ak) (h:Nat->Option aq):Option (ak×List (Nat×aq)):=
 match op with
 |.mv x=>some (ev x,[])
 |.pick c x y=>match ev c with
  |.one (.c (.bool b))=>if b=true then some (ev x,[]) else some (ev y,[])
  |_=>none
 |.build zs parts=>match oL ev zs parts with
  |some cs=>some (.agg cs,[])
  |none=>none
 |.bin op x y=>match uK op (ev x) (ev y) with
  |some c=>some (.one (.c c),[])
  |none=>none
 |.nV op x y=>match ze op (ev x) (ev y) with
  |some c=>some (.one (.c c),[])
  |none=>none
 |.un op x=>match Bz op (ev x) with
  |some c=>some (.one (.c c),[])
  |none=>none
 |.conv k x=>match ev x with
  |.one (.c (.int _ n))=>some (.one (.c (.int k (k.wrap n))),[])
  |_=>none
 |.ext i x=>match ev x with
  |.bn xs=>match xs[i]? with
   |some (ag,cs)=>some (kI ag cs,[])
   |none=>none
  |_=>none
 |.kj ag off sz x=>match ev x with
  |.agg cs=>match sub cs off sz with
   |some l=>some (kI ag l,[])
   |none=>none
  |_=>none
 |.kE f bD x=>match ev x with
  |.one (.sl n sz lo len)=>if(h n).isSome=true then some (.agg (kD bD len (.sl n sz lo len)),[]) else none
  |.one (.c (.list sz xs))=>some (.agg (kD bD xs.length (.c (.list sz xs))),[])
  |.one (.nil sz)=>some (.agg (kD bD 0 (.nil sz)),[])
  |_=>none
 |.mm mx x y=>match ev x,ev y with
  |.one (.c (.int k a)),.one (.c (.int k' b))=>if mx=true then(if a<b then some (.one (.c (.int k b)),[]) else some (.one (.c (.int k a)),[]))
   else(if b<a then some (.one (.c (.int k b)),[]) else some (.one (.c (.int k a)),[]))
  |_,_=>none
 |.oA f xs=>match XN (xs.map ev) f with
  |some v=>some (v,[])
  |none=>none
 |.alloc zs=>match d with
  |some n=>some (.one (.ptr n 0 0 0),[(n,.box zs)])
  |none=>none
 |.box sz x=>match d,(ev x).cells? with
  |some n,some (_,cs)=>if cs.length=sz then some (.one (.ptr n 0 0 0),[(n,.box cs)]) else none
  |_,_=>none
 |.load ag sz x=>match ev x with
  |.one p=>match loadAt h p sz with
   |some cs=>some (kI ag cs,[])
   |none=>none
  |_=>none
 |.ga x=>match ev x with
  |.one (.ptr n k sz off)=>if(h n).isSome=true then some (.one (.ptr n k sz off),[]) else none
  |.one (.cd xs off)=>some (.one (.cd xs off),[])
  |_=>none
 |.mb m sz by_ zs l c=>match d,(ev l).cX,(ev c).cX with
  |some n,some a,some b=>if a<=b/\0<=a/\b.toNat*by_<=eK/\zs.length=sz then
   some (.one (.sl n sz 0 a.toNat),[(n,.row true m sz (List.replicate a.toNat zs))])
   else none
  |_,_,_=>none
 |.slice sz x lo hi=>
  let Oj:Option Int:=match lo with|none=>some 0|some l=>(ev l).cX
  match ev x,Oj with
  |.one (.sl n s l0 len),some l=>
   match(match hi with|none=>some (len:Int)|some h=>(ev h).cX) with
   |some hh=>if s=sz/\0<=l/\l<=hh/\hh<=len/\(h n).isSome=true then some (.one (.sl n s (l0+l.toNat) (hh - l).toNat),[]) else none
   |none=>none
  |.one (.c (.list s xs)),some l=>
   match(match hi with|none=>some (xs.length:Int)|some h=>(ev h).cX) with
   |some hh=>if s=sz/\0<=l/\l<=hh/\hh<=xs.length then some (.one (.c (.list s ((xs.drop l.toNat).take (hh - l).toNat))),[]) else none
   |none=>none
  |_,_=>none
 |.aB off x=>match ev x with
  |.one (.ptr n k sz o)=>if(h n).isSome=true then some (.one (.ptr n k sz (o+off)),[]) else none
  |.one (.cd xs o)=>some (.one (.cd xs (o+off)),[])
  |_=>none
 |.dZ sz x i=>match ev x,(ev i).cX with
  |.one (.sl n s lo len),some k=>if s=sz/\0<=k/\k<len/\(h n).isSome=true then some (.one (.ptr n (lo+k.toNat) s 0),[]) else none
  |.one (.c (.list s xs)),some k=>if s=sz/\0<=k then
   match xs[k.toNat]? with
   |some e=>some (.one (.cd e 0),[])
   |none=>none
   else none
  |.one (.bx n kk ax off s len),some k=>match bU h (.bx n kk ax off s len) with
   |some (.list s' ys)=>if s'=sz/\0<=k/\k<ys.length then some (.one (.cD n kk ax off sz k.toNat),[]) else none
   |_=>none
  |_,_=>none
 |.len x=>match ev x with
  |.one (.sl n sz lo len)=>if(h n).isSome=true then some (.one (.c (.int .i64 len)),[]) else none
  |.one (.c (.list sz xs))=>some (.one (.c (.int .i64 xs.length)),[])
  |.one (.nil sz)=>some (.one (.c (.int .i64 0)),[])
  |.one (.bx n k ax off sz len)=>match bU h (.bx n k ax off sz len) with
   |some (.list s ys)=>some (.one (.c (.int .i64 ys.length)),[])
   |_=>none
  |_=>none
 |.call m f xs=>zi T m d f (xs.map ev) h
 |.lG f xs=>(s6 T f (xs.map ev) h).map fun v=>(v,[])
 |.lH m x xs=>match ev x with
  |.one (.fn f bY)=>zi T m d f (xs.map ev++bY.map .one) h
  |_=>none
 |_=>none
def fin (d:Option Nat) (σ:St) (x:ak×List (Nat×aq)):Option St:=(σ.cF x.2).map (·.put d x.1)
theorem T3 (T:bg) (m:Mode) (d:Option Nat) (f:FuncId) (as:List ak) (σ:St):qm T m d f as σ=(zi T m d f as σ.h).bind (fin d σ):=by
 unfold qm zi
 cases j9 σ.h as with
 |none=>rfl
 |some ds=>
  simp only
  cases bg.find T.pure f with
  |none=>rfl
  |some M=>
   simp only
   cases M ds with
   |none=>rfl
   |some rs=>
    simp only[M6]
    cases vq m (yj d) rs with
    |none=>rfl
    |some x=>
     simp only[Option.bind_some,fin]
     cases σ.cF x.2<;>rfl
theorem o9 (T:bg) (d:Option Nat) (op:aC) (σ:St) (hc:op.dE<=1):aE T d op σ=(rd T d op σ.ev σ.h).bind (fin d σ):=by
 cases op<;>simp only[aC.dE] at hc<;>first|omega|skip
 case call m f xs=>exact T3 _ _ _ _ _ _
 case lG f xs=>
  simp only[aE,rd]
  cases s6 T f (xs.map σ.ev) σ.h with
  |none=>rfl
  |some v=>rfl
 case lH m x xs=>
  simp only[aE,rd]
  split
  ·rename_i f bY h1
   simp only[h1]
   exact T3 _ _ _ _ _ _
  ·rename_i cf
   split
   ·rename_i f bY h1;exact absurd h1 (cf f bY)
   ·rfl
 case alloc zs=>
  simp only[aE,rd]
  split
  ·rename_i n
   simp only[Option.bind_some,fin,St.cF]
   cases σ.ins n (.box zs)<;>rfl
  ·rfl
 case box sz x=>
  simp only[aE,rd]
  split
  ·rename_i n ag cs h1
   simp only[h1]
   split
   ·simp only[Option.bind_some,fin,St.cF]
    cases σ.ins n (.box cs)<;>rfl
   ·rfl
  ·rename_i cf
   split
   ·rename_i n ag cs h1;exact absurd h1 (cf n ag cs rfl)
   ·rfl
 case mb m sz by_ zs l c=>
  simp only[aE,rd]
  split
  ·rename_i n a b h1 h2
   simp only[h1,h2]
   split
   ·simp only[Option.bind_some,fin,St.cF]
    cases σ.ins n (.row true m sz (List.replicate a.toNat zs))<;>rfl
   ·rfl
  ·rename_i cf
   split
   ·rename_i n a b h1 h2;exact absurd h2 (cf n a b rfl h1)
   ·rfl
 case oA f xs=>
  simp only[aE,rd,XN]
  cases (xs.map σ.ev).mapM (fun v=>match v with|.one c=>if c.kx=true then none else some c|_=>none) with
  |none=>rfl
  |some cs=>
   simp only
   split<;>rfl
 case mv x=>rfl
 case pick c x y=>
  simp only[aE,rd]
  generalize σ.ev c=v
  cases v with
  |one v=>cases v with
   |c v=>cases v with
    |bool b=>cases b<;>rfl
    |_=>rfl
   |_=>rfl
  |_=>rfl
 case build zs ps=>simp only[aE,rd];cases oL σ.ev zs ps<;>rfl
 case bin op x y=>simp only[aE,rd];cases uK op (σ.ev x) (σ.ev y)<;>rfl
 case nV op x y=>simp only[aE,rd];cases ze op (σ.ev x) (σ.ev y)<;>rfl
 case un op x=>simp only[aE,rd];cases Bz op (σ.ev x)<;>rfl
 case conv k x=>
  simp only[aE,rd]
  generalize σ.ev x=v
  cases v with
  |one v=>cases v with
   |c v=>cases v<;>rfl
   |_=>rfl
  |_=>rfl
 case ext i x=>
  simp only[aE,rd]
  generalize σ.ev x=v
  cases v with
  |bn xs=>
   simp only
   cases xs[i]? <;>rfl
  |_=>rfl
 case kj ag off sz x=>
  simp only[aE,rd]
  generalize σ.ev x=v
  cases v with
  |agg cs=>
   simp only
   cases sub cs off sz<;>rfl
  |_=>rfl
 case kE f bD x=>
  simp only[aE,rd]
  generalize σ.ev x=v
  cases v with
  |one v=>cases v with
   |sl n sz lo len=>simp only;split<;>rfl
   |c v=>cases v<;>rfl
   |_=>rfl
  |_=>rfl
 case mm b x y=>
  simp only[aE,rd]
  generalize σ.ev x=v
  generalize σ.ev y=u
  cases v with
  |one v=>cases v with
   |c v=>cases v with
    |int k a=>cases u with
     |one u=>cases u with
      |c u=>cases u with
       |int k' a'=>
        simp only
        cases b
        ·simp only[Bool.false_eq_true,if_false];split<;>rfl
        ·simp only[if_true];split<;>rfl
       |_=>rfl
      |_=>rfl
     |_=>rfl
    |_=>rfl
   |_=>rfl
  |_=>rfl
 case load ag sz x=>
  simp only[aE,rd]
  generalize σ.ev x=v
  cases v with
  |one v=>
   simp only
   cases loadAt σ.h v sz<;>rfl
  |_=>rfl
 case ga x=>
  simp only[aE,rd]
  generalize σ.ev x=v
  cases v with
  |one v=>cases v with
   |ptr n k sz off=>simp only;split<;>rfl
   |_=>rfl
  |_=>rfl
 case aB off x=>
  simp only[aE,rd]
  generalize σ.ev x=v
  cases v with
  |one v=>cases v with
   |ptr n k sz off=>simp only;split<;>rfl
   |_=>rfl
  |_=>rfl
 case len x=>
  simp only[aE,rd]
  generalize σ.ev x=v
  cases v with
  |one v=>cases v with
   |sl n sz lo len=>simp only;split<;>rfl
   |c v=>cases v<;>rfl
   |bx n k ax off sz len=>
    simp only
    cases bU σ.h (.bx n k ax off sz len) with
    |none=>rfl
    |some y=>cases y<;>rfl
   |_=>rfl
  |_=>rfl
 case dZ sz x i=>
  simp only[aE,rd]
  generalize σ.ev x=v
  generalize (σ.ev i).cX=u
  cases v with
  |one v=>cases v with
   |sl n s lo len=>cases u with
    |none=>rfl
    |some k=>simp only;split<;>rfl
   |c v=>cases v with
    |list s xs=>cases u with
     |none=>rfl
     |some k=>
      simp only
      split
      ·cases xs[k.toNat]? <;>rfl
      ·rfl
    |_=>rfl
   |bx n k ax off s len=>
    cases u with
    |none=>rfl
    |some q=>
     simp only
     cases bU σ.h (.bx n k ax off s len) with
     |none=>rfl
     |some y=>cases y with
      |list s' ys=>simp only;split<;>rfl
      |_=>rfl
   |_=>rfl
  |_=>rfl
 case slice sz x lo hi=>
  cases lo with
  |none=>
   cases hi with
   |none=>
    simp only[aE,rd]
    generalize σ.ev x=v
    cases v with
    |one v=>cases v with
     |sl n s l0 len=>simp only;split<;>rfl
     |c v=>cases v with
      |list s xs=>simp only;split<;>rfl
      |_=>rfl
     |_=>rfl
    |_=>rfl
   |some hi=>
    simp only[aE,rd]
    generalize σ.ev x=v
    generalize (σ.ev hi).cX=q
    cases q with
    |none=>
     cases v with
     |one v=>cases v with
      |c v=>cases v<;>rfl
      |_=>rfl
     |_=>rfl
    |some q=>
     cases v with
     |one v=>cases v with
      |sl n s l0 len=>simp only;split<;>rfl
      |c v=>cases v with
       |list s xs=>simp only;split<;>rfl
       |_=>rfl
      |_=>rfl
     |_=>rfl
  |some lo=>
   cases hi with
   |none=>
    simp only[aE,rd]
    generalize σ.ev x=v
    generalize (σ.ev lo).cX=u
    cases u with
    |none=>
     cases v with
     |one v=>cases v with
      |c v=>cases v<;>rfl
      |_=>rfl
     |_=>rfl
    |some u=>
     cases v with
     |one v=>cases v with
      |sl n s l0 len=>simp only;split<;>rfl
      |c v=>cases v with
       |list s xs=>simp only;split<;>rfl
       |_=>rfl
      |_=>rfl
     |_=>rfl
   |some hi=>
    simp only[aE,rd]
    generalize σ.ev x=v
    generalize (σ.ev lo).cX=u
    generalize (σ.ev hi).cX=q
    cases u with
    |none=>
     cases v with
     |one v=>cases v with
      |c v=>cases v<;>rfl
      |_=>rfl
     |_=>rfl
    |some u=>
     cases q with
     |none=>
      cases v with
      |one v=>cases v with
       |c v=>cases v<;>rfl
       |_=>rfl
      |_=>rfl
     |some q=>
      cases v with
      |one v=>cases v with
       |sl n s l0 len=>simp only;split<;>rfl
       |c v=>cases v with
        |list s xs=>simp only;split<;>rfl
        |_=>rfl
       |_=>rfl
      |_=>rfl
end Go.Am
