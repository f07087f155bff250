/- Am18: operations that may change places. No condition. -/
import Derived.Test.YtfkfmbhknekkdaaAm17
set_option linter.unusedVariables false
namespace Go.Am
def aw.dq:aw->Nat
 |.mv _|.pick ..|.build ..|.bin ..|.kv ..|.un ..|.conv ..|.ext ..|.m7 ..|.mm ..|.mF ..=>0
 |.alloc _|.box ..|.load ..|.mG _|.kg ..|.slice ..|.aB ..|.cR ..|.len _|.mK ..|.call ..|.ky ..|.kw ..|.kA ..|.kx ..=>1
 |_=>2
def St.cu (σ:St):List (Nat×ak)->Option St
 |[]=>some σ
 |(n,b)::l=>match σ.ins n b with
  |some σ1=>σ1.cu l
  |none=>none
def gn (m:Mode):Nat->List C->List ae×Nat×List (Nat×ak)
 |nm,[]=>([],nm,[])
 |nm,.list sz xs::cs=>(.sl nm sz 0 xs.length::(gn m (nm+1) cs).1,(gn m (nm+1) cs).2.1,(nm,.row true m sz xs)::(gn m (nm+1) cs).2.2)
 |nm,x::cs=>(.c x::(gn m nm cs).1,(gn m nm cs).2.1,(gn m nm cs).2.2)
def ul (m:Mode):Nat->List Dv->Option (List (Bool×List ae)×List (Nat×ak))
 |_,[]=>some ([],[])
 |nm,(.ptr,_)::_=>none
 |nm,(k,cs)::ds=>match ul m (gn m nm cs).2.1 ds with
  |some (ls,bs)=>some ((decide (k=.agg),(gn m nm cs).1)::ls,(gn m nm cs).2.2++bs)
  |none=>none
theorem VZ (σ:St) (l l':List (Nat×ak)):σ.cu (l++l')=(σ.cu l).bind fun σ1=>σ1.cu l':=by
 induction l generalizing σ with
 |nil=>rfl
 |cons x l ih=>
  obtain⟨n,b⟩:=x
  simp only[List.cons_append,St.cu]
  cases σ.ins n b with
  |none=>rfl
  |some σ1=>exact ih σ1
theorem FX (m:Mode):∀(cs:List C) (σ:St) (nm:Nat),σ.imp m nm cs=(σ.cu (gn m nm cs).2.2).map fun σ1=>((gn m nm cs).1,(gn m nm cs).2.1,σ1)
 |[],σ,nm=>rfl
 |.list sz xs::cs,σ,nm=>by
  simp only[St.imp,gn,St.cu]
  cases σ.ins nm (.row true m sz xs) with
  |none=>rfl
  |some σ1=>
   simp only[FX m cs]
   cases σ1.cu (gn m (nm+1) cs).2.2<;>rfl
 |.int k n::cs,σ,nm=>by
  simp only[St.imp,gn,FX m cs]
  cases σ.cu (gn m nm cs).2.2<;>rfl
 |.bool b::cs,σ,nm=>by
  simp only[St.imp,gn,FX m cs]
  cases σ.cu (gn m nm cs).2.2<;>rfl
theorem LF (m:Mode):∀(ds:List Dv) (σ:St) (nm:Nat),σ.gH m nm ds=(ul m nm ds).bind fun x=>(σ.cu x.2).map fun σ1=>(x.1,σ1)
 |[],σ,nm=>rfl
 |(k,cs)::ds,σ,nm=>by
  have bU:(match σ.imp m nm cs with
    |some (l,eP,σ1)=>match σ1.gH m eP ds with
     |some (ls,σ2)=>some ((decide (k=K.agg),l)::ls,σ2)
     |none=>none
    |none=>none)=(match ul m (gn m nm cs).2.1 ds with
    |some (ls,bs)=>some ((decide (k=K.agg),(gn m nm cs).1)::ls,(gn m nm cs).2.2++bs)
    |none=>none).bind fun x=>(σ.cu x.2).map fun σ1=>(x.1,σ1):=by
   rw[FX]
   have ih:=fun(σ1:St)=>LF m ds σ1 (gn m nm cs).2.1
   cases h1:σ.cu (gn m nm cs).2.2 with
   |none=>
    cases h2:ul m (gn m nm cs).2.1 ds with
    |none=>rfl
    |some x=>simp[VZ,h1]
   |some σ1=>
    simp only[Option.map_some,ih]
    cases h2:ul m (gn m nm cs).2.1 ds with
    |none=>rfl
    |some x=>
     simp[VZ,h1]
     cases σ1.cu x.2<;>rfl
  cases k with
  |ptr=>rfl
  |one=>exact bU
  |agg=>exact bU
def x8 (T:aA) (m:Mode) (d:Option Nat) (f:FuncId) (as:List ai) (h:Nat->Option ak):Option (ai×List (Nat×ak)):=
 match jr h as with
 |some ds=>match aA.find T.pure f with
  |some M=>match M ds with
   |some rs=>match ul m (oz d) rs with
    |some (ls,bs)=>some (iR ls,bs)
    |none=>none
   |none=>none
  |none=>none
 |none=>none
def W8 (vs:List ai) (f:FuncId):Option ai:=
 match vs.mapM (fun v=>match v with|.one c=>if c.iO=true then none else some c|_=>none) with
 |some cs=>if cs.all ae.CB=true then some (.one (.fn f cs)) else none
 |none=>none
def rd (T:aA) (d:Option Nat) (op:aw) (ev:MO->ai) (h:Nat->Option ak):Option (ai×List (Nat×ak)):=
 match op with
 |.mv x=>some (ev x,[])
 |.pick c x y=>match ev c with
  |.one (.c (.bool b))=>if b=true then some (ev x,[]) else some (ev y,[])
  |_=>none
 |.build zs parts=>match nF ev zs parts with
  |some cs=>some (.agg cs,[])
  |none=>none
 |.bin op x y=>match tE op (ev x) (ev y) with
  |some c=>some (.one (.c c),[])
  |none=>none
 |.kv op x y=>match x4 op (ev x) (ev y) with
  |some c=>some (.one (.c c),[])
  |none=>none
 |.un op x=>match Ak op (ev x) with
  |some c=>some (.one (.c c),[])
  |none=>none
 |.conv k x=>match ev x with
  |.one (.c (.int _ n))=>some (.one (.c (.int k (k.wrap n))),[])
  |_=>none
 |.ext i x=>match ev x with
  |.aY xs=>match xs[i]? with
   |some (ag,cs)=>some (jL ag cs,[])
   |none=>none
  |_=>none
 |.m7 ag off sz x=>match ev x with
  |.agg cs=>match sub cs off sz with
   |some l=>some (jL ag l,[])
   |none=>none
  |_=>none
 |.mK f bw x=>match ev x with
  |.one (.sl n sz lo len)=>if(h n).isSome=true then some (.agg (jJ bw len (.sl n sz lo len)),[]) else none
  |.one (.c (.list sz xs))=>some (.agg (jJ bw xs.length (.c (.list sz xs))),[])
  |.one (.nil sz)=>some (.agg (jJ bw 0 (.nil sz)),[])
  |_=>none
 |.mm mx x y=>match ev x,ev y with
  |.one (.c (.int k a)),.one (.c (.int k' b))=>if mx=true then(if a<b then some (.one (.c (.int k b)),[]) else some (.one (.c (.int k a)),[]))
   else(if b<a then some (.one (.c (.int k b)),[]) else some (.one (.c (.int k a)),[]))
  |_,_=>none
 |.mF f xs=>match W8 (xs.map ev) f with
  |some v=>some (v,[])
  |none=>none
 |.alloc zs=>match d with
  |some n=>some (.one (.ptr n 0 0 0),[(n,.box zs)])
  |none=>none
 |.box sz x=>match d,(ev x).cells? with
  |some n,some (_,cs)=>if cs.length=sz then some (.one (.ptr n 0 0 0),[(n,.box cs)]) else none
  |_,_=>none
 |.load ag sz x=>match ev x with
  |.one p=>match loadAt h p sz with
   |some cs=>some (jL ag cs,[])
   |none=>none
  |_=>none
 |.mG x=>match ev x with
  |.one (.ptr n k sz off)=>if(h n).isSome=true then some (.one (.ptr n k sz off),[]) else none
  |.one (.bV xs off)=>some (.one (.bV xs off),[])
  |.one (.bD xs off j n s len)=>some (.one (.bD xs off j n s len),[])
  |_=>none
 |.kg m sz by_ zs l c=>match d,(ev l).cZ,(ev c).cZ with
  |some n,some a,some b=>if a<=b/\0<=a/\b.toNat*by_<=fL/\zs.length=sz then
   some (.one (.sl n sz 0 a.toNat),[(n,.row true m sz (List.replicate a.toNat zs))])
   else none
  |_,_,_=>none
 |.slice sz x lo hi=>
  let Mv:Option Int:=match lo with|none=>some 0|some l=>(ev l).cZ
  match ev x,Mv with
  |.one (.sl n s l0 len),some l=>
   match(match hi with|none=>some (len:Int)|some h=>(ev h).cZ) with
   |some hh=>if s=sz/\0<=l/\l<=hh/\hh<=len/\(h n).isSome=true then some (.one (.sl n s (l0+l.toNat) (hh - l).toNat),[]) else none
   |none=>none
  |.one (.c (.list s xs)),some l=>
   match(match hi with|none=>some (xs.length:Int)|some h=>(ev h).cZ) with
   |some hh=>if s=sz/\0<=l/\l<=hh/\hh<=xs.length then some (.one (.c (.list s ((xs.drop l.toNat).take (hh - l).toNat))),[]) else none
   |none=>none
  |_,_=>none
 |.aB off x=>match ev x with
  |.one (.ptr n k sz o)=>if(h n).isSome=true then some (.one (.ptr n k sz (o+off)),[]) else none
  |.one (.bV xs o)=>some (.one (.bV xs (o+off)),[])
  |.one (.bD xs o j n s len)=>some (.one (.bD xs (o+off) j n s len),[])
  |_=>none
 |.cR sz x i=>match ev x,(ev i).cZ with
  |.one (.sl n s lo len),some k=>if s=sz/\0<=k/\k<len/\(h n).isSome=true then some (.one (.ptr n (lo+k.toNat) s 0),[]) else none
  |.one (.c (.list s xs)),some k=>if s=sz/\0<=k then
   match xs[k.toNat]? with
   |some e=>some (.one (.bV e 0),[])
   |none=>none
   else none
  |.one (.bj n kk au off s len),some k=>match bS h (.bj n kk au off s len) with
   |some (.list s' ys)=>if s'=sz/\0<=k/\k<ys.length then some (.one (.cH n kk au off sz k.toNat),[]) else none
   |_=>none
  |_,_=>none
 |.len x=>match ev x with
  |.one (.sl n sz lo len)=>if(h n).isSome=true then some (.one (.c (.int .i64 len)),[]) else none
  |.one (.c (.list sz xs))=>some (.one (.c (.int .i64 xs.length)),[])
  |.one (.nil sz)=>some (.one (.c (.int .i64 0)),[])
  |.one (.bj n k au off sz len)=>match bS h (.bj n k au off sz len) with
   |some (.list s ys)=>some (.one (.c (.int .i64 ys.length)),[])
   |_=>none
  |_=>none
 |.call m f xs=>x8 T m d f (xs.map ev) h
 |.kw f xs=>(rY T f (xs.map ev) h).map fun v=>(v,[])
 |.kA f xs=>(mX T f (xs.map ev) h).map fun v=>(v,[])
 |.kx f xs=>(vR T f (xs.map ev)).map fun v=>(v,[])
 |.ky m x xs=>match ev x with
  |.one (.fn f bM)=>x8 T m d f (xs.map ev++bM.map .one) h
  |_=>none
 |_=>none
def fin (d:Option Nat) (σ:St) (x:ai×List (Nat×ak)):Option St:=(σ.cu x.2).map (·.put d x.1)
theorem Sm (T:aA) (m:Mode) (d:Option Nat) (f:FuncId) (as:List ai) (σ:St):ph T m d f as σ=(x8 T m d f as σ.h).bind (fin d σ):=by
 unfold ph x8
 cases jr σ.h as with
 |none=>rfl
 |some ds=>
  simp only
  cases aA.find T.pure f with
  |none=>rfl
  |some M=>
   simp only
   cases M ds with
   |none=>rfl
   |some rs=>
    simp only[LF]
    cases ul m (oz d) rs with
    |none=>rfl
    |some x=>
     simp only[Option.bind_some,fin]
     cases σ.cu x.2<;>rfl
theorem mZ (T:aA) (d:Option Nat) (op:aw) (σ:St) (hc:op.dq<=1):exec T d op σ=(rd T d op σ.ev σ.h).bind (fin d σ):=by
 cases op<;>simp only[aw.dq] at hc<;>first|omega|skip
 case call m f xs=>exact Sm _ _ _ _ _ _
 case kw f xs=>
  simp only[exec,rd]
  cases rY T f (xs.map σ.ev) σ.h with
  |none=>rfl
  |some v=>rfl
 case kA f xs=>
  simp only[exec,rd]
  cases mX T f (xs.map σ.ev) σ.h with
  |none=>rfl
  |some v=>rfl
 case kx f xs=>
  simp only[exec,rd]
  cases vR T f (xs.map σ.ev) with
  |none=>rfl
  |some v=>rfl
 case ky m x xs=>
  simp only[exec,rd]
  split
  ·rename_i f bM h1
   simp only[h1]
   exact Sm _ _ _ _ _ _
  ·rename_i cq
   split
   ·rename_i f bM h1;exact absurd h1 (cq f bM)
   ·rfl
 case alloc zs=>
  simp only[exec,rd]
  split
  ·rename_i n
   simp only[Option.bind_some,fin,St.cu]
   cases σ.ins n (.box zs)<;>rfl
  ·rfl
 case box sz x=>
  simp only[exec,rd]
  split
  ·rename_i n ag cs h1
   simp only[h1]
   split
   ·simp only[Option.bind_some,fin,St.cu]
    cases σ.ins n (.box cs)<;>rfl
   ·rfl
  ·rename_i cq
   split
   ·rename_i n ag cs h1;exact absurd h1 (cq n ag cs rfl)
   ·rfl
 case kg m sz by_ zs l c=>
  simp only[exec,rd]
  split
  ·rename_i n a b h1 h2
   simp only[h1,h2]
   split
   ·simp only[Option.bind_some,fin,St.cu]
    cases σ.ins n (.row true m sz (List.replicate a.toNat zs))<;>rfl
   ·rfl
  ·rename_i cq
   split
   ·rename_i n a b h1 h2;exact absurd h2 (cq n a b rfl h1)
   ·rfl
 case mF f xs=>
  simp only[exec,rd,W8]
  cases (xs.map σ.ev).mapM (fun v=>match v with|.one c=>if c.iO=true then none else some c|_=>none) with
  |none=>rfl
  |some cs=>
   simp only
   split<;>rfl
 case mv x=>rfl
 case pick c x y=>
  simp only[exec,rd]
  generalize σ.ev c=v
  cases v with
  |one v=>cases v with
   |c v=>cases v with
    |bool b=>cases b<;>rfl
    |_=>rfl
   |_=>rfl
  |_=>rfl
 case build zs ps=>simp only[exec,rd];cases nF σ.ev zs ps<;>rfl
 case bin op x y=>simp only[exec,rd];cases tE op (σ.ev x) (σ.ev y)<;>rfl
 case kv op x y=>simp only[exec,rd];cases x4 op (σ.ev x) (σ.ev y)<;>rfl
 case un op x=>simp only[exec,rd];cases Ak op (σ.ev x)<;>rfl
 case conv k x=>
  simp only[exec,rd]
  generalize σ.ev x=v
  cases v with
  |one v=>cases v with
   |c v=>cases v<;>rfl
   |_=>rfl
  |_=>rfl
 case ext i x=>
  simp only[exec,rd]
  generalize σ.ev x=v
  cases v with
  |aY xs=>
   simp only
   cases xs[i]? <;>rfl
  |_=>rfl
 case m7 ag off sz x=>
  simp only[exec,rd]
  generalize σ.ev x=v
  cases v with
  |agg cs=>
   simp only
   cases sub cs off sz<;>rfl
  |_=>rfl
 case mK f bw x=>
  simp only[exec,rd]
  generalize σ.ev x=v
  cases v with
  |one v=>cases v with
   |sl n sz lo len=>simp only;split<;>rfl
   |c v=>cases v<;>rfl
   |_=>rfl
  |_=>rfl
 case mm b x y=>
  simp only[exec,rd]
  generalize σ.ev x=v
  generalize σ.ev y=u
  cases v with
  |one v=>cases v with
   |c v=>cases v with
    |int k a=>cases u with
     |one u=>cases u with
      |c u=>cases u with
       |int k' a'=>
        simp only
        cases b
        ·simp only[Bool.false_eq_true,if_false];split<;>rfl
        ·simp only[if_true];split<;>rfl
       |_=>rfl
      |_=>rfl
     |_=>rfl
    |_=>rfl
   |_=>rfl
  |_=>rfl
 case load ag sz x=>
  simp only[exec,rd]
  generalize σ.ev x=v
  cases v with
  |one v=>
   simp only
   cases loadAt σ.h v sz<;>rfl
  |_=>rfl
 case mG x=>
  simp only[exec,rd]
  generalize σ.ev x=v
  cases v with
  |one v=>cases v with
   |ptr n k sz off=>simp only;split<;>rfl
   |_=>rfl
  |_=>rfl
 case aB off x=>
  simp only[exec,rd]
  generalize σ.ev x=v
  cases v with
  |one v=>cases v with
   |ptr n k sz off=>simp only;split<;>rfl
   |_=>rfl
  |_=>rfl
 case len x=>
  simp only[exec,rd]
  generalize σ.ev x=v
  cases v with
  |one v=>cases v with
   |sl n sz lo len=>simp only;split<;>rfl
   |c v=>cases v<;>rfl
   |bj n k au off sz len=>
    simp only
    cases bS σ.h (.bj n k au off sz len) with
    |none=>rfl
    |some y=>cases y<;>rfl
   |_=>rfl
  |_=>rfl
 case cR sz x i=>
  simp only[exec,rd]
  generalize σ.ev x=v
  generalize (σ.ev i).cZ=u
  cases v with
  |one v=>cases v with
   |sl n s lo len=>cases u with
    |none=>rfl
    |some k=>simp only;split<;>rfl
   |c v=>cases v with
    |list s xs=>cases u with
     |none=>rfl
     |some k=>
      simp only
      split
      ·cases xs[k.toNat]? <;>rfl
      ·rfl
    |_=>rfl
   |bj n k au off s len=>
    cases u with
    |none=>rfl
    |some q=>
     simp only
     cases bS σ.h (.bj n k au off s len) with
     |none=>rfl
     |some y=>cases y with
      |list s' ys=>simp only;split<;>rfl
      |_=>rfl
   |_=>rfl
  |_=>rfl
 case slice sz x lo hi=>
  cases lo with
  |none=>
   cases hi with
   |none=>
    simp only[exec,rd]
    generalize σ.ev x=v
    cases v with
    |one v=>cases v with
     |sl n s l0 len=>simp only;split<;>rfl
     |c v=>cases v with
      |list s xs=>simp only;split<;>rfl
      |_=>rfl
     |_=>rfl
    |_=>rfl
   |some hi=>
    simp only[exec,rd]
    generalize σ.ev x=v
    generalize (σ.ev hi).cZ=q
    cases q with
    |none=>
     cases v with
     |one v=>cases v with
      |c v=>cases v<;>rfl
      |_=>rfl
     |_=>rfl
    |some q=>
     cases v with
     |one v=>cases v with
      |sl n s l0 len=>simp only;split<;>rfl
      |c v=>cases v with
       |list s xs=>simp only;split<;>rfl
       |_=>rfl
      |_=>rfl
     |_=>rfl
  |some lo=>
   cases hi with
   |none=>
    simp only[exec,rd]
    generalize σ.ev x=v
    generalize (σ.ev lo).cZ=u
    cases u with
    |none=>
     cases v with
     |one v=>cases v with
      |c v=>cases v<;>rfl
      |_=>rfl
     |_=>rfl
    |some u=>
     cases v with
     |one v=>cases v with
      |sl n s l0 len=>simp only;split<;>rfl
      |c v=>cases v with
       |list s xs=>simp only;split<;>rfl
       |_=>rfl
      |_=>rfl
     |_=>rfl
   |some hi=>
    simp only[exec,rd]
    generalize σ.ev x=v
    generalize (σ.ev lo).cZ=u
    generalize (σ.ev hi).cZ=q
    cases u with
    |none=>
     cases v with
     |one v=>cases v with
      |c v=>cases v<;>rfl
      |_=>rfl
     |_=>rfl
    |some u=>
     cases q with
     |none=>
      cases v with
      |one v=>cases v with
       |c v=>cases v<;>rfl
       |_=>rfl
      |_=>rfl
     |some q=>
      cases v with
      |one v=>cases v with
       |sl n s l0 len=>simp only;split<;>rfl
       |c v=>cases v with
        |list s xs=>simp only;split<;>rfl
        |_=>rfl
       |_=>rfl
      |_=>rfl
end Go.Am
