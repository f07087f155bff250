/- Am18: operations that may change places. No condition. -/
import Derived.Test.YtifmggmhdcdgbaaAm17
set_option linter.unusedVariables false
namespace Go.Am
def aC.dv:aC->Nat
 |.mv _|.pick ..|.build ..|.bin ..|.lz ..|.un ..|.conv ..|.ext ..|.mA ..|.mm ..|.oN ..=>0
 |.alloc _|.box ..|.load ..|.nM _|.ld ..|.slice ..|.ak ..|.bO ..|.len _|.lr ..|.call ..|.lB ..|.lA ..=>1
 |_=>2
def St.cu (σ:St):List (Nat×ar)->Option St
 |[]=>some σ
 |(n,b)::l=>match σ.ins n b with
  |some σ1=>σ1.cu l
  |none=>none
def gB (m:Mode):Nat->List C->List ah×Nat×List (Nat×ar)
 |nm,[]=>([],nm,[])
 |nm,.list sz xs::cs=>(.sl nm sz 0 xs.length::(gB m (nm+1) cs).1,(gB m (nm+1) cs).2.1,(nm,.row true m sz xs)::(gB m (nm+1) cs).2.2)
 |nm,x::cs=>(.c x::(gB m nm cs).1,(gB m nm cs).2.1,(gB m nm cs).2.2)
def vW (m:Mode):Nat->List Dv->Option (List (Bool×List ah)×List (Nat×ar))
 |_,[]=>some ([],[])
 |nm,(.ptr,_)::_=>none
 |nm,(k,cs)::ds=>match vW m (gB m nm cs).2.1 ds with
  |some (ls,bs)=>some ((decide (k=.agg),(gB m nm cs).1)::ls,(gB m nm cs).2.2++bs)
  |none=>none
theorem Yv (σ:St) (l l':List (Nat×ar)):σ.cu (l++l')=(σ.cu l).bind fun σ1=>σ1.cu l':=by
 induction l generalizing σ with
 |nil=>rfl
 |cons x l ih=>
  obtain⟨n,b⟩:=x
  simp only[List.cons_append,St.cu]
  cases σ.ins n b with
  |none=>rfl
  |some σ1=>exact ih σ1
theorem I8 (m:Mode):∀(cs:List C) (σ:St) (nm:Nat),σ.imp m nm cs=(σ.cu (gB m nm cs).2.2).map fun σ1=>((gB m nm cs).1,(gB m nm cs).2.1,σ1)
 |[],σ,nm=>rfl
 |.list sz xs::cs,σ,nm=>by
  simp only[St.imp,gB,St.cu]
  cases σ.ins nm (.row true m sz xs) with
  |none=>rfl
  |some σ1=>
   simp only[I8 m cs]
   cases σ1.cu (gB m (nm+1) cs).2.2<;>rfl
 |.int k n::cs,σ,nm=>by
  simp only[St.imp,gB,I8 m cs]
  cases σ.cu (gB m nm cs).2.2<;>rfl
 |.bool b::cs,σ,nm=>by
  simp only[St.imp,gB,I8 m cs]
  cases σ.cu (gB m nm cs).2.2<;>rfl
theorem OG (m:Mode):∀(ds:List Dv) (σ:St) (nm:Nat),σ.iT m nm ds=(vW m nm ds).bind fun x=>(σ.cu x.2).map fun σ1=>(x.1,σ1)
 |[],σ,nm=>rfl
 |(k,cs)::ds,σ,nm=>by
  have cq:(match σ.imp m nm cs with
    |some (l,eG,σ1)=>match σ1.iT m eG ds with
     |some (ls,σ2)=>some ((decide (k=K.agg),l)::ls,σ2)
     |none=>none
    |none=>none)=(match vW m (gB m nm cs).2.1 ds with
    |some (ls,bs)=>some ((decide (k=K.agg),(gB m nm cs).1)::ls,(gB m nm cs).2.2++bs)
    |none=>none).bind fun x=>(σ.cu x.2).map fun σ1=>(x.1,σ1):=by
   rw[I8]
   have ih:=fun(σ1:St)=>OG m ds σ1 (gB m nm cs).2.1
   cases h1:σ.cu (gB m nm cs).2.2 with
   |none=>
    cases h2:vW m (gB m nm cs).2.1 ds with
    |none=>rfl
    |some x=>simp[Yv,h1]
   |some σ1=>
    simp only[Option.map_some,ih]
    cases h2:vW m (gB m nm cs).2.1 ds with
    |none=>rfl
    |some x=>
     simp[Yv,h1]
     cases σ1.cu x.2<;>rfl
  cases k with
  |ptr=>rfl
  |one=>exact cq
  |agg=>exact cq
def zG (T:be) (m:Mode) (d:Option Nat) (f:FuncId) (as:List ai) (h:Nat->Option ar):Option (ai×List (Nat×ar)):=
 match jV h as with
 |some ds=>match be.find T.pure f with
  |some M=>match M ds with
   |some rs=>match vW m (yI d) rs with
    |some (ls,bs)=>some (lp ls,bs)
    |none=>none
   |none=>none
  |none=>none
 |none=>none
def ZC (vs:List ai) (f:FuncId):Option ai:=
 match vs.mapM (fun v=>match v with|.one c=>if c.kl=true then none else some c|_=>none) with
 |some cs=>if cs.all ah.Em=true then some (.one (.fn f cs)) else none
 |none=>none
def rd (T:be) (d:Option Nat) (op:aC) (ev:MO->ai) (h:Nat->Option ar):Option (ai×List (Nat×ar)):=
 match op with
 |.mv x=>some (ev x,[])
 |.pick c x y=>match ev c with
  |.one (.c (.bool b))=>if b=true then some (ev x,[]) else some (ev y,[])
  |_=>none
 |.build zs parts=>match oW ev zs parts with
  |some cs=>some (.agg cs,[])
  |none=>none
 |.bin op x y=>match vh op (ev x) (ev y) with
  |some c=>some (.one (.c c),[])
  |none=>none
 |.lz op x y=>match zC op (ev x) (ev y) with
  |some c=>some (.one (.c c),[])
  |none=>none
 |.un op x=>match B3 op (ev x) with
  |some c=>some (.one (.c c),[])
  |none=>none
 |.conv k x=>match ev x with
  |.one (.c (.int _ n))=>some (.one (.c (.int k (k.wrap n))),[])
  |_=>none
 |.ext i x=>match ev x with
  |.bj xs=>match xs[i]? with
   |some (ag,cs)=>some (kC ag cs,[])
   |none=>none
  |_=>none
 |.mA ag off sz x=>match ev x with
  |.agg cs=>match sub cs off sz with
   |some l=>some (kC ag l,[])
   |none=>none
  |_=>none
 |.lr f bE x=>match ev x with
  |.one (.sl n sz lo len)=>if(h n).isSome=true then some (.agg (kz bE len (.sl n sz lo len)),[]) else none
  |.one (.c (.list sz xs))=>some (.agg (kz bE xs.length (.c (.list sz xs))),[])
  |.one (.nil sz)=>some (.agg (kz bE 0 (.nil sz)),[])
  |_=>none
 |.mm mx x y=>match ev x,ev y with
  |.one (.c (.int k a)),.one (.c (.int k' b))=>if mx=true then(if a<b then some (.one (.c (.int k b)),[]) else some (.one (.c (.int k a)),[]))
   else(if b<a then some (.one (.c (.int k b)),[]) else some (.one (.c (.int k a)),[]))
  |_,_=>none
 |.oN f xs=>match ZC (xs.map ev) f with
  |some v=>some (v,[])
  |none=>none
 |.alloc zs=>match d with
  |some n=>some (.one (.ptr n 0 0 0),[(n,.box zs)])
  |none=>none
 |.box sz x=>match d,(ev x).cells? with
  |some n,some (_,cs)=>if cs.length=sz then some (.one (.ptr n 0 0 0),[(n,.box cs)]) else none
  |_,_=>none
 |.load ag sz x=>match ev x with
  |.one p=>match loadAt h p sz with
   |some cs=>some (kC ag cs,[])
   |none=>none
  |_=>none
 |.nM x=>match ev x with
  |.one (.ptr n k sz off)=>if(h n).isSome=true then some (.one (.ptr n k sz off),[]) else none
  |.one (.bT xs off)=>some (.one (.bT xs off),[])
  |_=>none
 |.ld m sz by_ zs l c=>match d,(ev l).cN,(ev c).cN with
  |some n,some a,some b=>if a<=b/\0<=a/\b.toNat*by_<=dA/\zs.length=sz then
   some (.one (.sl n sz 0 a.toNat),[(n,.row true m sz (List.replicate a.toNat zs))])
   else none
  |_,_,_=>none
 |.slice sz x lo hi=>
  let PM:Option Int:=match lo with|none=>some 0|some l=>(ev l).cN
  match ev x,PM with
  |.one (.sl n s l0 len),some l=>
   match(match hi with|none=>some (len:Int)|some h=>(ev h).cN) with
   |some hh=>if s=sz/\0<=l/\l<=hh/\hh<=len/\(h n).isSome=true then some (.one (.sl n s (l0+l.toNat) (hh - l).toNat),[]) else none
   |none=>none
  |.one (.c (.list s xs)),some l=>
   match(match hi with|none=>some (xs.length:Int)|some h=>(ev h).cN) with
   |some hh=>if s=sz/\0<=l/\l<=hh/\hh<=xs.length then some (.one (.c (.list s ((xs.drop l.toNat).take (hh - l).toNat))),[]) else none
   |none=>none
  |_,_=>none
 |.ak off x=>match ev x with
  |.one (.ptr n k sz o)=>if(h n).isSome=true then some (.one (.ptr n k sz (o+off)),[]) else none
  |.one (.bT xs o)=>some (.one (.bT xs (o+off)),[])
  |_=>none
 |.bO sz x i=>match ev x,(ev i).cN with
  |.one (.sl n s lo len),some k=>if s=sz/\0<=k/\k<len/\(h n).isSome=true then some (.one (.ptr n (lo+k.toNat) s 0),[]) else none
  |.one (.c (.list s xs)),some k=>if s=sz/\0<=k then
   match xs[k.toNat]? with
   |some e=>some (.one (.bT e 0),[])
   |none=>none
   else none
  |.one (.br n kk ax off s len),some k=>match bM h (.br n kk ax off s len) with
   |some (.list s' ys)=>if s'=sz/\0<=k/\k<ys.length then some (.one (.cr n kk ax off sz k.toNat),[]) else none
   |_=>none
  |_,_=>none
 |.len x=>match ev x with
  |.one (.sl n sz lo len)=>if(h n).isSome=true then some (.one (.c (.int .i64 len)),[]) else none
  |.one (.c (.list sz xs))=>some (.one (.c (.int .i64 xs.length)),[])
  |.one (.nil sz)=>some (.one (.c (.int .i64 0)),[])
  |.one (.br n k ax off sz len)=>match bM h (.br n k ax off sz len) with
   |some (.list s ys)=>some (.one (.c (.int .i64 ys.length)),[])
   |_=>none
  |_=>none
 |.call m f xs=>zG T m d f (xs.map ev) h
 |.lA f xs=>(tt T f (xs.map ev) h).map fun v=>(v,[])
 |.lB m x xs=>match ev x with
  |.one (.fn f bR)=>zG T m d f (xs.map ev++bR.map .one) h
  |_=>none
 |_=>none
def gb (d:Option Nat) (σ:St) (x:ai×List (Nat×ar)):Option St:=(σ.cu x.2).map (·.put d x.1)
theorem VY (T:be) (m:Mode) (d:Option Nat) (f:FuncId) (as:List ai) (σ:St):qx T m d f as σ=(zG T m d f as σ.h).bind (gb d σ):=by
 unfold qx zG
 cases jV σ.h as with
 |none=>rfl
 |some ds=>
  simp only
  cases be.find T.pure f with
  |none=>rfl
  |some M=>
   simp only
   cases M ds with
   |none=>rfl
   |some rs=>
    simp only[OG]
    cases vW m (yI d) rs with
    |none=>rfl
    |some x=>
     simp only[Option.bind_some,gb]
     cases σ.cu x.2<;>rfl
theorem pn (T:be) (d:Option Nat) (op:aC) (σ:St) (hc:op.dv<=1):aI T d op σ=(rd T d op σ.ev σ.h).bind (gb d σ):=by
 cases op<;>simp only[aC.dv] at hc<;>first|omega|skip
 case call m f xs=>exact VY _ _ _ _ _ _
 case lA f xs=>
  simp only[aI,rd]
  cases tt T f (xs.map σ.ev) σ.h with
  |none=>rfl
  |some v=>rfl
 case lB m x xs=>
  simp only[aI,rd]
  split
  ·rename_i f bR h1
   simp only[h1]
   exact VY _ _ _ _ _ _
  ·rename_i ca
   split
   ·rename_i f bR h1;exact absurd h1 (ca f bR)
   ·rfl
 case alloc zs=>
  simp only[aI,rd]
  split
  ·rename_i n
   simp only[Option.bind_some,gb,St.cu]
   cases σ.ins n (.box zs)<;>rfl
  ·rfl
 case box sz x=>
  simp only[aI,rd]
  split
  ·rename_i n ag cs h1
   simp only[h1]
   split
   ·simp only[Option.bind_some,gb,St.cu]
    cases σ.ins n (.box cs)<;>rfl
   ·rfl
  ·rename_i ca
   split
   ·rename_i n ag cs h1;exact absurd h1 (ca n ag cs rfl)
   ·rfl
 case ld m sz by_ zs l c=>
  simp only[aI,rd]
  split
  ·rename_i n a b h1 h2
   simp only[h1,h2]
   split
   ·simp only[Option.bind_some,gb,St.cu]
    cases σ.ins n (.row true m sz (List.replicate a.toNat zs))<;>rfl
   ·rfl
  ·rename_i ca
   split
   ·rename_i n a b h1 h2;exact absurd h2 (ca n a b rfl h1)
   ·rfl
 case oN f xs=>
  simp only[aI,rd,ZC]
  cases (xs.map σ.ev).mapM (fun v=>match v with|.one c=>if c.kl=true then none else some c|_=>none) with
  |none=>rfl
  |some cs=>
   simp only
   split<;>rfl
 case mv x=>rfl
 case pick c x y=>
  simp only[aI,rd]
  generalize σ.ev c=v
  cases v with
  |one v=>cases v with
   |c v=>cases v with
    |bool b=>cases b<;>rfl
    |_=>rfl
   |_=>rfl
  |_=>rfl
 case build zs ps=>simp only[aI,rd];cases oW σ.ev zs ps<;>rfl
 case bin op x y=>simp only[aI,rd];cases vh op (σ.ev x) (σ.ev y)<;>rfl
 case lz op x y=>simp only[aI,rd];cases zC op (σ.ev x) (σ.ev y)<;>rfl
 case un op x=>simp only[aI,rd];cases B3 op (σ.ev x)<;>rfl
 case conv k x=>
  simp only[aI,rd]
  generalize σ.ev x=v
  cases v with
  |one v=>cases v with
   |c v=>cases v<;>rfl
   |_=>rfl
  |_=>rfl
 case ext i x=>
  simp only[aI,rd]
  generalize σ.ev x=v
  cases v with
  |bj xs=>
   simp only
   cases xs[i]? <;>rfl
  |_=>rfl
 case mA ag off sz x=>
  simp only[aI,rd]
  generalize σ.ev x=v
  cases v with
  |agg cs=>
   simp only
   cases sub cs off sz<;>rfl
  |_=>rfl
 case lr f bE x=>
  simp only[aI,rd]
  generalize σ.ev x=v
  cases v with
  |one v=>cases v with
   |sl n sz lo len=>simp only;split<;>rfl
   |c v=>cases v<;>rfl
   |_=>rfl
  |_=>rfl
 case mm b x y=>
  simp only[aI,rd]
  generalize σ.ev x=v
  generalize σ.ev y=u
  cases v with
  |one v=>cases v with
   |c v=>cases v with
    |int k a=>cases u with
     |one u=>cases u with
      |c u=>cases u with
       |int k' a'=>
        simp only
        cases b
        ·simp only[Bool.false_eq_true,if_false];split<;>rfl
        ·simp only[if_true];split<;>rfl
       |_=>rfl
      |_=>rfl
     |_=>rfl
    |_=>rfl
   |_=>rfl
  |_=>rfl
 case load ag sz x=>
  simp only[aI,rd]
  generalize σ.ev x=v
  cases v with
  |one v=>
   simp only
   cases loadAt σ.h v sz<;>rfl
  |_=>rfl
 case nM x=>
  simp only[aI,rd]
  generalize σ.ev x=v
  cases v with
  |one v=>cases v with
   |ptr n k sz off=>simp only;split<;>rfl
   |_=>rfl
  |_=>rfl
 case ak off x=>
  simp only[aI,rd]
  generalize σ.ev x=v
  cases v with
  |one v=>cases v with
   |ptr n k sz off=>simp only;split<;>rfl
   |_=>rfl
  |_=>rfl
 case len x=>
  simp only[aI,rd]
  generalize σ.ev x=v
  cases v with
  |one v=>cases v with
   |sl n sz lo len=>simp only;split<;>rfl
   |c v=>cases v<;>rfl
   |br n k ax off sz len=>
    simp only
    cases bM σ.h (.br n k ax off sz len) with
    |none=>rfl
    |some y=>cases y<;>rfl
   |_=>rfl
  |_=>rfl
 case bO sz x i=>
  simp only[aI,rd]
  generalize σ.ev x=v
  generalize (σ.ev i).cN=u
  cases v with
  |one v=>cases v with
   |sl n s lo len=>cases u with
    |none=>rfl
    |some k=>simp only;split<;>rfl
   |c v=>cases v with
    |list s xs=>cases u with
     |none=>rfl
     |some k=>
      simp only
      split
      ·cases xs[k.toNat]? <;>rfl
      ·rfl
    |_=>rfl
   |br n k ax off s len=>
    cases u with
    |none=>rfl
    |some q=>
     simp only
     cases bM σ.h (.br n k ax off s len) with
     |none=>rfl
     |some y=>cases y with
      |list s' ys=>simp only;split<;>rfl
      |_=>rfl
   |_=>rfl
  |_=>rfl
 case slice sz x lo hi=>
  cases lo with
  |none=>
   cases hi with
   |none=>
    simp only[aI,rd]
    generalize σ.ev x=v
    cases v with
    |one v=>cases v with
     |sl n s l0 len=>simp only;split<;>rfl
     |c v=>cases v with
      |list s xs=>simp only;split<;>rfl
      |_=>rfl
     |_=>rfl
    |_=>rfl
   |some hi=>
    simp only[aI,rd]
    generalize σ.ev x=v
    generalize (σ.ev hi).cN=q
    cases q with
    |none=>
     cases v with
     |one v=>cases v with
      |c v=>cases v<;>rfl
      |_=>rfl
     |_=>rfl
    |some q=>
     cases v with
     |one v=>cases v with
      |sl n s l0 len=>simp only;split<;>rfl
      |c v=>cases v with
       |list s xs=>simp only;split<;>rfl
       |_=>rfl
      |_=>rfl
     |_=>rfl
  |some lo=>
   cases hi with
   |none=>
    simp only[aI,rd]
    generalize σ.ev x=v
    generalize (σ.ev lo).cN=u
    cases u with
    |none=>
     cases v with
     |one v=>cases v with
      |c v=>cases v<;>rfl
      |_=>rfl
     |_=>rfl
    |some u=>
     cases v with
     |one v=>cases v with
      |sl n s l0 len=>simp only;split<;>rfl
      |c v=>cases v with
       |list s xs=>simp only;split<;>rfl
       |_=>rfl
      |_=>rfl
     |_=>rfl
   |some hi=>
    simp only[aI,rd]
    generalize σ.ev x=v
    generalize (σ.ev lo).cN=u
    generalize (σ.ev hi).cN=q
    cases u with
    |none=>
     cases v with
     |one v=>cases v with
      |c v=>cases v<;>rfl
      |_=>rfl
     |_=>rfl
    |some u=>
     cases q with
     |none=>
      cases v with
      |one v=>cases v with
       |c v=>cases v<;>rfl
       |_=>rfl
      |_=>rfl
     |some q=>
      cases v with
      |one v=>cases v with
       |sl n s l0 len=>simp only;split<;>rfl
       |c v=>cases v with
        |list s xs=>simp only;split<;>rfl
        |_=>rfl
       |_=>rfl
      |_=>rfl
end Go.Am
