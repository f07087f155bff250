/- Am18: operations that may change places. No condition. -/
import Derived.Test.YtifmggmhdcdgbaaAm17
set_option linter.unusedVariables false
namespace Go.Am
def aD.dJ:aD->Nat
 |.mv _|.pick ..|.build ..|.bin ..|.oO ..|.un ..|.conv ..|.ext ..|.nf ..|.mm ..|.pt ..=>0
 |.alloc _|.box ..|.load ..|.oy _|.kB ..|.slice ..|.ak ..|.bT ..|.len _|.mU ..|.call ..|.mw ..|.mr ..=>1
 |_=>2
def St.cF (σ:St):List (Nat×aq)->Option St
 |[]=>some σ
 |(n,b)::l=>match σ.ins n b with
  |some σ1=>σ1.cF l
  |none=>none
def ia (m:Mode):Nat->List C->List ah×Nat×List (Nat×aq)
 |nm,[]=>([],nm,[])
 |nm,.list sz xs::cs=>(.sl nm sz 0 xs.length::(ia m (nm+1) cs).1,(ia m (nm+1) cs).2.1,(nm,.row true m sz xs)::(ia m (nm+1) cs).2.2)
 |nm,x::cs=>(.c x::(ia m nm cs).1,(ia m nm cs).2.1,(ia m nm cs).2.2)
def vT (m:Mode):Nat->List Dv->Option (List (Bool×List ah)×List (Nat×aq))
 |_,[]=>some ([],[])
 |nm,(.ptr,_)::_=>none
 |nm,(k,cs)::ds=>match vT m (ia m nm cs).2.1 ds with
  |some (ls,bs)=>some ((decide (k=.agg),(ia m nm cs).1)::ls,(ia m nm cs).2.2++bs)
  |none=>none
theorem W0 (σ:St) (l l':List (Nat×aq)):σ.cF (l++l')=(σ.cF l).bind fun σ1=>σ1.cF l':=by
 induction l generalizing σ with
 |nil=>rfl
 |cons x l ih=>
  obtain⟨n,b⟩:=x
  simp only[List.cons_append,St.cF]
  cases σ.ins n b with
  |none=>rfl
  |some σ1=>exact ih σ1
theorem HL (m:Mode):∀(cs:List C) (σ:St) (nm:Nat),σ.imp m nm cs=(σ.cF (ia m nm cs).2.2).map fun σ1=>((ia m nm cs).1,(ia m nm cs).2.1,σ1)
 |[],σ,nm=>rfl
 |.list sz xs::cs,σ,nm=>by
  simp only[St.imp,ia,St.cF]
  cases σ.ins nm (.row true m sz xs) with
  |none=>rfl
  |some σ1=>
   simp only[HL m cs]
   cases σ1.cF (ia m (nm+1) cs).2.2<;>rfl
 |.int k n::cs,σ,nm=>by
  simp only[St.imp,ia,HL m cs]
  cases σ.cF (ia m nm cs).2.2<;>rfl
 |.bool b::cs,σ,nm=>by
  simp only[St.imp,ia,HL m cs]
  cases σ.cF (ia m nm cs).2.2<;>rfl
theorem Nw (m:Mode):∀(ds:List Dv) (σ:St) (nm:Nat),σ.jK m nm ds=(vT m nm ds).bind fun x=>(σ.cF x.2).map fun σ1=>(x.1,σ1)
 |[],σ,nm=>rfl
 |(k,cs)::ds,σ,nm=>by
  have cP:(match σ.imp m nm cs with
    |some (l,e7,σ1)=>match σ1.jK m e7 ds with
     |some (ls,σ2)=>some ((decide (k=K.agg),l)::ls,σ2)
     |none=>none
    |none=>none)=(match vT m (ia m nm cs).2.1 ds with
    |some (ls,bs)=>some ((decide (k=K.agg),(ia m nm cs).1)::ls,(ia m nm cs).2.2++bs)
    |none=>none).bind fun x=>(σ.cF x.2).map fun σ1=>(x.1,σ1):=by
   rw[HL]
   have ih:=fun(σ1:St)=>Nw m ds σ1 (ia m nm cs).2.1
   cases h1:σ.cF (ia m nm cs).2.2 with
   |none=>
    cases h2:vT m (ia m nm cs).2.1 ds with
    |none=>rfl
    |some x=>simp[W0,h1]
   |some σ1=>
    simp only[Option.map_some,ih]
    cases h2:vT m (ia m nm cs).2.1 ds with
    |none=>rfl
    |some x=>
     simp[W0,h1]
     cases σ1.cF x.2<;>rfl
  cases k with
  |ptr=>rfl
  |one=>exact cP
  |agg=>exact cP
def zo (T:bh) (m:Mode) (d:Option Nat) (f:FuncId) (as:List aj) (h:Nat->Option aq):Option (aj×List (Nat×aq)):=
 match kJ h as with
 |some ds=>match bh.find T.pure f with
  |some M=>match M ds with
   |some rs=>match vT m (yq d) rs with
    |some (ls,bs)=>some (me ls,bs)
    |none=>none
   |none=>none
  |none=>none
 |none=>none
def XR (vs:List aj) (f:FuncId):Option aj:=
 match vs.mapM (fun v=>match v with|.one c=>if c.kY=true then none else some c|_=>none) with
 |some cs=>if cs.all ah.DF=true then some (.one (.fn f cs)) else none
 |none=>none
def rd (T:bh) (d:Option Nat) (op:aD) (ev:MO->aj) (h:Nat->Option aq):Option (aj×List (Nat×aq)):=
 match op with
 |.mv x=>some (ev x,[])
 |.pick c x y=>match ev c with
  |.one (.c (.bool b))=>if b=true then some (ev x,[]) else some (ev y,[])
  |_=>none
 |.build zs parts=>match pF ev zs parts with
  |some cs=>some (.agg cs,[])
  |none=>none
 |.bin op x y=>match vg op (ev x) (ev y) with
  |some c=>some (.one (.c c),[])
  |none=>none
 |.oO op x y=>match zk op (ev x) (ev y) with
  |some c=>some (.one (.c c),[])
  |none=>none
 |.un op x=>match BE op (ev x) with
  |some c=>some (.one (.c c),[])
  |none=>none
 |.conv k x=>match ev x with
  |.one (.c (.int _ n))=>some (.one (.c (.int k (k.wrap n))),[])
  |_=>none
 |.ext i x=>match ev x with
  |.bk xs=>match xs[i]? with
   |some (ag,cs)=>some (mW ag cs,[])
   |none=>none
  |_=>none
 |.nf ag off sz x=>match ev x with
  |.agg cs=>match sub cs off sz with
   |some l=>some (mW ag l,[])
   |none=>none
  |_=>none
 |.mU f bM x=>match ev x with
  |.one (.sl n sz lo len)=>if(h n).isSome=true then some (.agg (lf bM len (.sl n sz lo len)),[]) else none
  |.one (.c (.list sz xs))=>some (.agg (lf bM xs.length (.c (.list sz xs))),[])
  |.one (.nil sz)=>some (.agg (lf bM 0 (.nil sz)),[])
  |_=>none
 |.mm mx x y=>match ev x,ev y with
  |.one (.c (.int k a)),.one (.c (.int k' b))=>if mx=true then(if a<b then some (.one (.c (.int k b)),[]) else some (.one (.c (.int k a)),[]))
   else(if b<a then some (.one (.c (.int k b)),[]) else some (.one (.c (.int k a)),[]))
  |_,_=>none
 |.pt f xs=>match XR (xs.map ev) f with
  |some v=>some (v,[])
  |none=>none
 |.alloc zs=>match d with
  |some n=>some (.one (.ptr n 0 0 0),[(n,.box zs)])
  |none=>none
 |.box sz x=>match d,(ev x).cells? with
  |some n,some (_,cs)=>if cs.length=sz then some (.one (.ptr n 0 0 0),[(n,.box cs)]) else none
  |_,_=>none
 |.load ag sz x=>match ev x with
  |.one p=>match loadAt h p sz with
   |some cs=>some (mW ag cs,[])
   |none=>none
  |_=>none
 |.oy x=>match ev x with
  |.one (.ptr n k sz off)=>if(h n).isSome=true then some (.one (.ptr n k sz off),[]) else none
  |.one (.cf xs off)=>some (.one (.cf xs off),[])
  |_=>none
 |.kB m sz by_ zs l c=>match d,(ev l).dc,(ev c).dc with
  |some n,some a,some b=>if a<=b/\0<=a/\b.toNat*by_<=eZ/\zs.length=sz then
   some (.one (.sl n sz 0 a.toNat),[(n,.row true m sz (List.replicate a.toNat zs))])
   else none
  |_,_,_=>none
 |.slice sz x lo hi=>
  let Oc:Option Int:=match lo with|none=>some 0|some l=>(ev l).dc
  match ev x,Oc with
  |.one (.sl n s l0 len),some l=>
   match(match hi with|none=>some (len:Int)|some h=>(ev h).dc) with
   |some hh=>if s=sz/\0<=l/\l<=hh/\hh<=len/\(h n).isSome=true then some (.one (.sl n s (l0+l.toNat) (hh - l).toNat),[]) else none
   |none=>none
  |.one (.c (.list s xs)),some l=>
   match(match hi with|none=>some (xs.length:Int)|some h=>(ev h).dc) with
   |some hh=>if s=sz/\0<=l/\l<=hh/\hh<=xs.length then some (.one (.c (.list s ((xs.drop l.toNat).take (hh - l).toNat))),[]) else none
   |none=>none
  |_,_=>none
 |.ak off x=>match ev x with
  |.one (.ptr n k sz o)=>if(h n).isSome=true then some (.one (.ptr n k sz (o+off)),[]) else none
  |.one (.cf xs o)=>some (.one (.cf xs (o+off)),[])
  |_=>none
 |.bT sz x i=>match ev x,(ev i).dc with
  |.one (.sl n s lo len),some k=>if s=sz/\0<=k/\k<len/\(h n).isSome=true then some (.one (.ptr n (lo+k.toNat) s 0),[]) else none
  |.one (.c (.list s xs)),some k=>if s=sz/\0<=k then
   match xs[k.toNat]? with
   |some e=>some (.one (.cf e 0),[])
   |none=>none
   else none
  |.one (.bt n kk ax off s len),some k=>match bU h (.bt n kk ax off s len) with
   |some (.list s' ys)=>if s'=sz/\0<=k/\k<ys.length then some (.one (.cB n kk ax off sz k.toNat),[]) else none
   |_=>none
  |_,_=>none
 |.len x=>match ev x with
  |.one (.sl n sz lo len)=>if(h n).isSome=true then some (.one (.c (.int .i64 len)),[]) else none
  |.one (.c (.list sz xs))=>some (.one (.c (.int .i64 xs.length)),[])
  |.one (.nil sz)=>some (.one (.c (.int .i64 0)),[])
  |.one (.bt n k ax off sz len)=>match bU h (.bt n k ax off sz len) with
   |some (.list s ys)=>some (.one (.c (.int .i64 ys.length)),[])
   |_=>none
  |_=>none
 |.call m f xs=>zo T m d f (xs.map ev) h
 |.mr f xs=>(tv T f (xs.map ev) h).map fun v=>(v,[])
 |.mw m x xs=>match ev x with
  |.one (.fn f ca)=>zo T m d f (xs.map ev++ca.map .one) h
  |_=>none
 |_=>none
def gI (d:Option Nat) (σ:St) (x:aj×List (Nat×aq)):Option St:=(σ.cF x.2).map (·.put d x.1)
theorem UK (T:bh) (m:Mode) (d:Option Nat) (f:FuncId) (as:List aj) (σ:St):qQ T m d f as σ=(zo T m d f as σ.h).bind (gI d σ):=by
 unfold qQ zo
 cases kJ σ.h as with
 |none=>rfl
 |some ds=>
  simp only
  cases bh.find T.pure f with
  |none=>rfl
  |some M=>
   simp only
   cases M ds with
   |none=>rfl
   |some rs=>
    simp only[Nw]
    cases vT m (yq d) rs with
    |none=>rfl
    |some x=>
     simp only[Option.bind_some,gI]
     cases σ.cF x.2<;>rfl
theorem pQ (T:bh) (d:Option Nat) (op:aD) (σ:St) (hc:op.dJ<=1):aJ T d op σ=(rd T d op σ.ev σ.h).bind (gI d σ):=by
 cases op<;>simp only[aD.dJ] at hc<;>first|omega|skip
 case call m f xs=>exact UK _ _ _ _ _ _
 case mr f xs=>
  simp only[aJ,rd]
  cases tv T f (xs.map σ.ev) σ.h with
  |none=>rfl
  |some v=>rfl
 case mw m x xs=>
  simp only[aJ,rd]
  split
  ·rename_i f ca h1
   simp only[h1]
   exact UK _ _ _ _ _ _
  ·rename_i ct
   split
   ·rename_i f ca h1;exact absurd h1 (ct f ca)
   ·rfl
 case alloc zs=>
  simp only[aJ,rd]
  split
  ·rename_i n
   simp only[Option.bind_some,gI,St.cF]
   cases σ.ins n (.box zs)<;>rfl
  ·rfl
 case box sz x=>
  simp only[aJ,rd]
  split
  ·rename_i n ag cs h1
   simp only[h1]
   split
   ·simp only[Option.bind_some,gI,St.cF]
    cases σ.ins n (.box cs)<;>rfl
   ·rfl
  ·rename_i ct
   split
   ·rename_i n ag cs h1;exact absurd h1 (ct n ag cs rfl)
   ·rfl
 case kB m sz by_ zs l c=>
  simp only[aJ,rd]
  split
  ·rename_i n a b h1 h2
   simp only[h1,h2]
   split
   ·simp only[Option.bind_some,gI,St.cF]
    cases σ.ins n (.row true m sz (List.replicate a.toNat zs))<;>rfl
   ·rfl
  ·rename_i ct
   split
   ·rename_i n a b h1 h2;exact absurd h2 (ct n a b rfl h1)
   ·rfl
 case pt f xs=>
  simp only[aJ,rd,XR]
  cases (xs.map σ.ev).mapM (fun v=>match v with|.one c=>if c.kY=true then none else some c|_=>none) with
  |none=>rfl
  |some cs=>
   simp only
   split<;>rfl
 case mv x=>rfl
 case pick c x y=>
  simp only[aJ,rd]
  generalize σ.ev c=v
  cases v with
  |one v=>cases v with
   |c v=>cases v with
    |bool b=>cases b<;>rfl
    |_=>rfl
   |_=>rfl
  |_=>rfl
 case build zs ps=>simp only[aJ,rd];cases pF σ.ev zs ps<;>rfl
 case bin op x y=>simp only[aJ,rd];cases vg op (σ.ev x) (σ.ev y)<;>rfl
 case oO op x y=>simp only[aJ,rd];cases zk op (σ.ev x) (σ.ev y)<;>rfl
 case un op x=>simp only[aJ,rd];cases BE op (σ.ev x)<;>rfl
 case conv k x=>
  simp only[aJ,rd]
  generalize σ.ev x=v
  cases v with
  |one v=>cases v with
   |c v=>cases v<;>rfl
   |_=>rfl
  |_=>rfl
 case ext i x=>
  simp only[aJ,rd]
  generalize σ.ev x=v
  cases v with
  |bk xs=>
   simp only
   cases xs[i]? <;>rfl
  |_=>rfl
 case nf ag off sz x=>
  simp only[aJ,rd]
  generalize σ.ev x=v
  cases v with
  |agg cs=>
   simp only
   cases sub cs off sz<;>rfl
  |_=>rfl
 case mU f bM x=>
  simp only[aJ,rd]
  generalize σ.ev x=v
  cases v with
  |one v=>cases v with
   |sl n sz lo len=>simp only;split<;>rfl
   |c v=>cases v<;>rfl
   |_=>rfl
  |_=>rfl
 case mm b x y=>
  simp only[aJ,rd]
  generalize σ.ev x=v
  generalize σ.ev y=u
  cases v with
  |one v=>cases v with
   |c v=>cases v with
    |int k a=>cases u with
     |one u=>cases u with
      |c u=>cases u with
       |int k' a'=>
        simp only
        cases b
        ·simp only[Bool.false_eq_true,if_false];split<;>rfl
        ·simp only[if_true];split<;>rfl
       |_=>rfl
      |_=>rfl
     |_=>rfl
    |_=>rfl
   |_=>rfl
  |_=>rfl
 case load ag sz x=>
  simp only[aJ,rd]
  generalize σ.ev x=v
  cases v with
  |one v=>
   simp only
   cases loadAt σ.h v sz<;>rfl
  |_=>rfl
 case oy x=>
  simp only[aJ,rd]
  generalize σ.ev x=v
  cases v with
  |one v=>cases v with
   |ptr n k sz off=>simp only;split<;>rfl
   |_=>rfl
  |_=>rfl
 case ak off x=>
  simp only[aJ,rd]
  generalize σ.ev x=v
  cases v with
  |one v=>cases v with
   |ptr n k sz off=>simp only;split<;>rfl
   |_=>rfl
  |_=>rfl
 case len x=>
  simp only[aJ,rd]
  generalize σ.ev x=v
  cases v with
  |one v=>cases v with
   |sl n sz lo len=>simp only;split<;>rfl
   |c v=>cases v<;>rfl
   |bt n k ax off sz len=>
    simp only
    cases bU σ.h (.bt n k ax off sz len) with
    |none=>rfl
    |some y=>cases y<;>rfl
   |_=>rfl
  |_=>rfl
 case bT sz x i=>
  simp only[aJ,rd]
  generalize σ.ev x=v
  generalize (σ.ev i).dc=u
  cases v with
  |one v=>cases v with
   |sl n s lo len=>cases u with
    |none=>rfl
    |some k=>simp only;split<;>rfl
   |c v=>cases v with
    |list s xs=>cases u with
     |none=>rfl
     |some k=>
      simp only
      split
      ·cases xs[k.toNat]? <;>rfl
      ·rfl
    |_=>rfl
   |bt n k ax off s len=>
    cases u with
    |none=>rfl
    |some q=>
     simp only
     cases bU σ.h (.bt n k ax off s len) with
     |none=>rfl
     |some y=>cases y with
      |list s' ys=>simp only;split<;>rfl
      |_=>rfl
   |_=>rfl
  |_=>rfl
 case slice sz x lo hi=>
  cases lo with
  |none=>
   cases hi with
   |none=>
    simp only[aJ,rd]
    generalize σ.ev x=v
    cases v with
    |one v=>cases v with
     |sl n s l0 len=>simp only;split<;>rfl
     |c v=>cases v with
      |list s xs=>simp only;split<;>rfl
      |_=>rfl
     |_=>rfl
    |_=>rfl
   |some hi=>
    simp only[aJ,rd]
    generalize σ.ev x=v
    generalize (σ.ev hi).dc=q
    cases q with
    |none=>
     cases v with
     |one v=>cases v with
      |c v=>cases v<;>rfl
      |_=>rfl
     |_=>rfl
    |some q=>
     cases v with
     |one v=>cases v with
      |sl n s l0 len=>simp only;split<;>rfl
      |c v=>cases v with
       |list s xs=>simp only;split<;>rfl
       |_=>rfl
      |_=>rfl
     |_=>rfl
  |some lo=>
   cases hi with
   |none=>
    simp only[aJ,rd]
    generalize σ.ev x=v
    generalize (σ.ev lo).dc=u
    cases u with
    |none=>
     cases v with
     |one v=>cases v with
      |c v=>cases v<;>rfl
      |_=>rfl
     |_=>rfl
    |some u=>
     cases v with
     |one v=>cases v with
      |sl n s l0 len=>simp only;split<;>rfl
      |c v=>cases v with
       |list s xs=>simp only;split<;>rfl
       |_=>rfl
      |_=>rfl
     |_=>rfl
   |some hi=>
    simp only[aJ,rd]
    generalize σ.ev x=v
    generalize (σ.ev lo).dc=u
    generalize (σ.ev hi).dc=q
    cases u with
    |none=>
     cases v with
     |one v=>cases v with
      |c v=>cases v<;>rfl
      |_=>rfl
     |_=>rfl
    |some u=>
     cases q with
     |none=>
      cases v with
      |one v=>cases v with
       |c v=>cases v<;>rfl
       |_=>rfl
      |_=>rfl
     |some q=>
      cases v with
      |one v=>cases v with
       |sl n s l0 len=>simp only;split<;>rfl
       |c v=>cases v with
        |list s xs=>simp only;split<;>rfl
        |_=>rfl
       |_=>rfl
      |_=>rfl
end Go.Am
