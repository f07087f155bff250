/- Am18: operations that may change places. No condition. -/
import Derived.Test.YthildlkhnnogiaaAm17
set_option linter.unusedVariables false
namespace Go.Am
def aI.dD:aI->Nat
 |.mv _|.pick ..|.build ..|.bin ..|.oZ ..|.un ..|.conv ..|.ext ..|.n8 ..|.mm ..|.pR ..=>0
 |.alloc _|.box ..|.load ..|.oG _|.lK ..|.slice ..|.aC ..|.cH ..|.len _|.nJ ..|.call ..|.lV ..|.lT ..|.lW ..|.lU ..=>1
 |_=>2
def St.cr (σ:St):List (Nat×aj)->Option St
 |[]=>some σ
 |(n,b)::l=>match σ.ins n b with
  |some σ1=>σ1.cr l
  |none=>none
def gY (m:Mode):Nat->List C->List ab×Nat×List (Nat×aj)
 |nm,[]=>([],nm,[])
 |nm,.list sz xs::cs=>(.sl nm sz 0 xs.length::(gY m (nm+1) cs).1,(gY m (nm+1) cs).2.1,(nm,.row m.si m sz xs)::(gY m (nm+1) cs).2.2)
 |nm,x::cs=>(.c x::(gY m nm cs).1,(gY m nm cs).2.1,(gY m nm cs).2.2)
def xu (m:Mode):Nat->List Dv->Option (List (Bool×List ab)×List (Nat×aj))
 |_,[]=>some ([],[])
 |nm,(.ptr,_)::_=>none
 |nm,(k,cs)::ds=>match xu m (gY m nm cs).2.1 ds with
  |some (ls,bs)=>some ((decide (k=.agg),(gY m nm cs).1)::ls,(gY m nm cs).2.2++bs)
  |none=>none
theorem Yu (σ:St) (l l':List (Nat×aj)):σ.cr (l++l')=(σ.cr l).bind fun σ1=>σ1.cr l':=by
 induction l generalizing σ with
 |nil=>rfl
 |cons x l ih=>
  obtain⟨n,b⟩:=x
  simp only[List.cons_append,St.cr]
  cases σ.ins n b with
  |none=>rfl
  |some σ1=>exact ih σ1
theorem Jo (m:Mode):∀(cs:List C) (σ:St) (nm:Nat),σ.imp m nm cs=(σ.cr (gY m nm cs).2.2).map fun σ1=>((gY m nm cs).1,(gY m nm cs).2.1,σ1)
 |[],σ,nm=>rfl
 |.list sz xs::cs,σ,nm=>by
  simp only[St.imp,gY,St.cr]
  cases σ.ins nm (.row m.si m sz xs) with
  |none=>rfl
  |some σ1=>
   simp only[Jo m cs]
   cases σ1.cr (gY m (nm+1) cs).2.2<;>rfl
 |.int k n::cs,σ,nm=>by
  simp only[St.imp,gY,Jo m cs]
  cases σ.cr (gY m nm cs).2.2<;>rfl
 |.bool b::cs,σ,nm=>by
  simp only[St.imp,gY,Jo m cs]
  cases σ.cr (gY m nm cs).2.2<;>rfl
theorem Pg (m:Mode):∀(ds:List Dv) (σ:St) (nm:Nat),σ.iq m nm ds=(xu m nm ds).bind fun x=>(σ.cr x.2).map fun σ1=>(x.1,σ1)
 |[],σ,nm=>rfl
 |(k,cs)::ds,σ,nm=>by
  have bW:(match σ.imp m nm cs with
    |some (l,fg,σ1)=>match σ1.iq m fg ds with
     |some (ls,σ2)=>some ((decide (k=K.agg),l)::ls,σ2)
     |none=>none
    |none=>none)=(match xu m (gY m nm cs).2.1 ds with
    |some (ls,bs)=>some ((decide (k=K.agg),(gY m nm cs).1)::ls,(gY m nm cs).2.2++bs)
    |none=>none).bind fun x=>(σ.cr x.2).map fun σ1=>(x.1,σ1):=by
   rw[Jo]
   have ih:=fun(σ1:St)=>Pg m ds σ1 (gY m nm cs).2.1
   cases h1:σ.cr (gY m nm cs).2.2 with
   |none=>
    cases h2:xu m (gY m nm cs).2.1 ds with
    |none=>rfl
    |some x=>simp[Yu,h1]
   |some σ1=>
    simp only[Option.map_some,ih]
    cases h2:xu m (gY m nm cs).2.1 ds with
    |none=>rfl
    |some x=>
     simp[Yu,h1]
     cases σ1.cr x.2<;>rfl
  cases k with
  |ptr=>rfl
  |one=>exact bW
  |agg=>exact bW
def Be (T:aF) (m:Mode) (d:Option Nat) (f:FuncId) (as:List ah) (h:Nat->Option aj):Option (ah×List (Nat×aj)):=
 match ji h as with
 |some ds=>match aF.find T.pure f with
  |some M=>match M ds with
   |some rs=>match xu m (iw d) rs with
    |some (ls,bs)=>some (jS ls,bs)
    |none=>none
   |none=>none
  |none=>none
 |none=>none
def Ze (vs:List ah) (f:FuncId):Option ah:=
 match vs.mapM (fun v=>match v with|.one c=>if c.fR=true then none else some c|_=>none) with
 |some cs=>if cs.all ab.Fy=true then some (.one (.fn f cs)) else none
 |none=>none
def rd (T:aF) (d:Option Nat) (op:aI) (ev:MO->ah) (h:Nat->Option aj):Option (ah×List (Nat×aj)):=
 match op with
 |.mv x=>some (ev x,[])
 |.pick c x y=>match ev c with
  |.one (.c (.bool b))=>if b=true then some (ev x,[]) else some (ev y,[])
  |_=>none
 |.build zs parts=>match pZ ev zs parts with
  |some cs=>some (.agg cs,[])
  |none=>none
 |.bin op x y=>match wL op (ev x) (ev y) with
  |some c=>some (.one (.c c),[])
  |none=>none
 |.oZ op x y=>match Ba op (ev x) (ev y) with
  |some c=>some (.one (.c c),[])
  |none=>none
 |.un op x=>match Dd op (ev x) with
  |some c=>some (.one (.c c),[])
  |none=>none
 |.conv k x=>match ev x with
  |.one (.c (.int _ n))=>some (.one (.c (.int k (k.wrap n))),[])
  |_=>none
 |.ext i x=>match ev x with
  |.bk xs=>match xs[i]? with
   |some (ag,cs)=>some (kM ag cs,[])
   |none=>none
  |_=>none
 |.n8 ag off sz x=>match ev x with
  |.agg cs=>match sub cs off sz with
   |some l=>some (kM ag l,[])
   |none=>none
  |_=>none
 |.nJ f bU x=>match ev x with
  |.one (.sl n sz lo len)=>if(h n).isSome=true then some (.agg (kI bU len (.sl n sz lo len)),[]) else none
  |.one (.c (.list sz xs))=>some (.agg (kI bU xs.length (.c (.list sz xs))),[])
  |.one (.nil sz)=>some (.agg (kI bU 0 (.nil sz)),[])
  |_=>none
 |.mm mx x y=>match ev x,ev y with
  |.one (.c (.int k a)),.one (.c (.int k' b))=>if mx=true then(if a<b then some (.one (.c (.int k b)),[]) else some (.one (.c (.int k a)),[]))
   else(if b<a then some (.one (.c (.int k b)),[]) else some (.one (.c (.int k a)),[]))
  |_,_=>none
 |.pR f xs=>match Ze (xs.map ev) f with
  |some v=>some (v,[])
  |none=>none
 |.alloc zs=>match d with
  |some n=>some (.one (.ptr n 0 0 0),[(n,.box zs)])
  |none=>none
 |.box sz x=>match d,(ev x).cells? with
  |some n,some (_,cs)=>if cs.length=sz then some (.one (.ptr n 0 0 0),[(n,.box cs)]) else none
  |_,_=>none
 |.load ag sz x=>match ev x with
  |.one p=>match loadAt h p sz with
   |some cs=>some (kM ag cs,[])
   |none=>none
  |_=>none
 |.oG x=>match ev x with
  |.one (.ptr n k sz off)=>if(h n).isSome=true then some (.one (.ptr n k sz off),[]) else none
  |.one (.cd xs off)=>some (.one (.cd xs off),[])
  |.one (.bK xs off j n s len)=>some (.one (.bK xs off j n s len),[])
  |_=>none
 |.lK m sz by_ zs l c=>match d,(ev l).cJ,(ev c).cJ with
  |some n,some a,some b=>if a<=b/\0<=a/\b.toNat*by_<=e8/\zs.length=sz then
   some (.one (.sl n sz 0 a.toNat),[(n,.row true m sz (List.replicate a.toNat zs))])
   else none
  |_,_,_=>none
 |.slice sz x lo hi=>
  let PS:Option Int:=match lo with|none=>some 0|some l=>(ev l).cJ
  match ev x,PS with
  |.one (.sl n s l0 len),some l=>
   match(match hi with|none=>some (len:Int)|some h=>(ev h).cJ) with
   |some hh=>if s=sz/\0<=l/\l<=hh/\hh<=len/\(h n).isSome=true then some (.one (.sl n s (l0+l.toNat) (hh - l).toNat),[]) else none
   |none=>none
  |.one (.c (.list s xs)),some l=>
   match(match hi with|none=>some (xs.length:Int)|some h=>(ev h).cJ) with
   |some hh=>if s=sz/\0<=l/\l<=hh/\hh<=xs.length then some (.one (.c (.list s ((xs.drop l.toNat).take (hh - l).toNat))),[]) else none
   |none=>none
  |_,_=>none
 |.aC off x=>match ev x with
  |.one (.ptr n k sz o)=>if(h n).isSome=true then some (.one (.ptr n k sz (o+off)),[]) else none
  |.one (.cd xs o)=>some (.one (.cd xs (o+off)),[])
  |.one (.bK xs o j n s len)=>some (.one (.bK xs (o+off) j n s len),[])
  |_=>none
 |.cH sz x i=>match ev x,(ev i).cJ with
  |.one (.sl n s lo len),some k=>if s=sz/\0<=k/\k<len/\(h n).isSome=true then some (.one (.ptr n (lo+k.toNat) s 0),[]) else none
  |.one (.c (.list s xs)),some k=>if s=sz/\0<=k then
   match xs[k.toNat]? with
   |some e=>some (.one (.cd e 0),[])
   |none=>none
   else none
  |.one (.bf n kk au off s len),some k=>match bQ h (.bf n kk au off s len) with
   |some (.list s' ys)=>if s'=sz/\0<=k/\k<ys.length then some (.one (.bX n kk au off sz k.toNat),[]) else none
   |_=>none
  |_,_=>none
 |.len x=>match ev x with
  |.one (.sl n sz lo len)=>if(h n).isSome=true then some (.one (.c (.int .i64 len)),[]) else none
  |.one (.c (.list sz xs))=>some (.one (.c (.int .i64 xs.length)),[])
  |.one (.nil sz)=>some (.one (.c (.int .i64 0)),[])
  |.one (.bf n k au off sz len)=>match bQ h (.bf n k au off sz len) with
   |some (.list s ys)=>some (.one (.c (.int .i64 ys.length)),[])
   |_=>none
  |_=>none
 |.call m f xs=>Be T m d f (xs.map ev) h
 |.lT f xs=>(uF T f (xs.map ev) h).map fun v=>(v,[])
 |.lW f xs=>(pb T f (xs.map ev) h).map fun v=>(v,[])
 |.lU f xs=>(yX T f (xs.map ev)).map fun v=>(v,[])
 |.lV m x xs=>match ev x with
  |.one (.fn f bI)=>Be T m d f (xs.map ev++bI.map .one) h
  |_=>none
 |_=>none
def gv (d:Option Nat) (σ:St) (x:ah×List (Nat×aj)):Option St:=(σ.cr x.2).map (·.put d x.1)
theorem Wb (T:aF) (m:Mode) (d:Option Nat) (f:FuncId) (as:List ah) (σ:St):rL T m d f as σ=(Be T m d f as σ.h).bind (gv d σ):=by
 unfold rL Be
 cases ji σ.h as with
 |none=>rfl
 |some ds=>
  simp only
  cases aF.find T.pure f with
  |none=>rfl
  |some M=>
   simp only
   cases M ds with
   |none=>rfl
   |some rs=>
    simp only[Pg]
    cases xu m (iw d) rs with
    |none=>rfl
    |some x=>
     simp only[Option.bind_some,gv]
     cases σ.cr x.2<;>rfl
theorem pd (T:aF) (d:Option Nat) (op:aI) (σ:St) (hc:op.dD<=1):exec T d op σ=(rd T d op σ.ev σ.h).bind (gv d σ):=by
 cases op<;>simp only[aI.dD] at hc<;>first|omega|skip
 case call m f xs=>exact Wb _ _ _ _ _ _
 case lT f xs=>
  simp only[exec,rd]
  cases uF T f (xs.map σ.ev) σ.h with
  |none=>rfl
  |some v=>rfl
 case lW f xs=>
  simp only[exec,rd]
  cases pb T f (xs.map σ.ev) σ.h with
  |none=>rfl
  |some v=>rfl
 case lU f xs=>
  simp only[exec,rd]
  cases yX T f (xs.map σ.ev) with
  |none=>rfl
  |some v=>rfl
 case lV m x xs=>
  simp only[exec,rd]
  split
  ·rename_i f bI h1
   simp only[h1]
   exact Wb _ _ _ _ _ _
  ·rename_i bG
   split
   ·rename_i f bI h1;exact absurd h1 (bG f bI)
   ·rfl
 case alloc zs=>
  simp only[exec,rd]
  split
  ·rename_i n
   simp only[Option.bind_some,gv,St.cr]
   cases σ.ins n (.box zs)<;>rfl
  ·rfl
 case box sz x=>
  simp only[exec,rd]
  split
  ·rename_i n ag cs h1
   simp only[h1]
   split
   ·simp only[Option.bind_some,gv,St.cr]
    cases σ.ins n (.box cs)<;>rfl
   ·rfl
  ·rename_i bG
   split
   ·rename_i n ag cs h1;exact absurd h1 (bG n ag cs rfl)
   ·rfl
 case lK m sz by_ zs l c=>
  simp only[exec,rd]
  split
  ·rename_i n a b h1 h2
   simp only[h1,h2]
   split
   ·simp only[Option.bind_some,gv,St.cr]
    cases σ.ins n (.row true m sz (List.replicate a.toNat zs))<;>rfl
   ·rfl
  ·rename_i bG
   split
   ·rename_i n a b h1 h2;exact absurd h2 (bG n a b rfl h1)
   ·rfl
 case pR f xs=>
  simp only[exec,rd,Ze]
  cases (xs.map σ.ev).mapM (fun v=>match v with|.one c=>if c.fR=true then none else some c|_=>none) with
  |none=>rfl
  |some cs=>
   simp only
   split<;>rfl
 case mv x=>rfl
 case pick c x y=>
  simp only[exec,rd]
  generalize σ.ev c=v
  cases v with
  |one v=>cases v with
   |c v=>cases v with
    |bool b=>cases b<;>rfl
    |_=>rfl
   |_=>rfl
  |_=>rfl
 case build zs ps=>simp only[exec,rd];cases pZ σ.ev zs ps<;>rfl
 case bin op x y=>simp only[exec,rd];cases wL op (σ.ev x) (σ.ev y)<;>rfl
 case oZ op x y=>simp only[exec,rd];cases Ba op (σ.ev x) (σ.ev y)<;>rfl
 case un op x=>simp only[exec,rd];cases Dd op (σ.ev x)<;>rfl
 case conv k x=>
  simp only[exec,rd]
  generalize σ.ev x=v
  cases v with
  |one v=>cases v with
   |c v=>cases v<;>rfl
   |_=>rfl
  |_=>rfl
 case ext i x=>
  simp only[exec,rd]
  generalize σ.ev x=v
  cases v with
  |bk xs=>
   simp only
   cases xs[i]? <;>rfl
  |_=>rfl
 case n8 ag off sz x=>
  simp only[exec,rd]
  generalize σ.ev x=v
  cases v with
  |agg cs=>
   simp only
   cases sub cs off sz<;>rfl
  |_=>rfl
 case nJ f bU x=>
  simp only[exec,rd]
  generalize σ.ev x=v
  cases v with
  |one v=>cases v with
   |sl n sz lo len=>simp only;split<;>rfl
   |c v=>cases v<;>rfl
   |_=>rfl
  |_=>rfl
 case mm b x y=>
  simp only[exec,rd]
  generalize σ.ev x=v
  generalize σ.ev y=u
  cases v with
  |one v=>cases v with
   |c v=>cases v with
    |int k a=>cases u with
     |one u=>cases u with
      |c u=>cases u with
       |int k' a'=>
        simp only
        cases b
        ·simp only[Bool.false_eq_true,if_false];split<;>rfl
        ·simp only[if_true];split<;>rfl
       |_=>rfl
      |_=>rfl
     |_=>rfl
    |_=>rfl
   |_=>rfl
  |_=>rfl
 case load ag sz x=>
  simp only[exec,rd]
  generalize σ.ev x=v
  cases v with
  |one v=>
   simp only
   cases loadAt σ.h v sz<;>rfl
  |_=>rfl
 case oG x=>
  simp only[exec,rd]
  generalize σ.ev x=v
  cases v with
  |one v=>cases v with
   |ptr n k sz off=>simp only;split<;>rfl
   |_=>rfl
  |_=>rfl
 case aC off x=>
  simp only[exec,rd]
  generalize σ.ev x=v
  cases v with
  |one v=>cases v with
   |ptr n k sz off=>simp only;split<;>rfl
   |_=>rfl
  |_=>rfl
 case len x=>
  simp only[exec,rd]
  generalize σ.ev x=v
  cases v with
  |one v=>cases v with
   |sl n sz lo len=>simp only;split<;>rfl
   |c v=>cases v<;>rfl
   |bf n k au off sz len=>
    simp only
    cases bQ σ.h (.bf n k au off sz len) with
    |none=>rfl
    |some y=>cases y<;>rfl
   |_=>rfl
  |_=>rfl
 case cH sz x i=>
  simp only[exec,rd]
  generalize σ.ev x=v
  generalize (σ.ev i).cJ=u
  cases v with
  |one v=>cases v with
   |sl n s lo len=>cases u with
    |none=>rfl
    |some k=>simp only;split<;>rfl
   |c v=>cases v with
    |list s xs=>cases u with
     |none=>rfl
     |some k=>
      simp only
      split
      ·cases xs[k.toNat]? <;>rfl
      ·rfl
    |_=>rfl
   |bf n k au off s len=>
    cases u with
    |none=>rfl
    |some q=>
     simp only
     cases bQ σ.h (.bf n k au off s len) with
     |none=>rfl
     |some y=>cases y with
      |list s' ys=>simp only;split<;>rfl
      |_=>rfl
   |_=>rfl
  |_=>rfl
 case slice sz x lo hi=>
  cases lo with
  |none=>
   cases hi with
   |none=>
    simp only[exec,rd]
    generalize σ.ev x=v
    cases v with
    |one v=>cases v with
     |sl n s l0 len=>simp only;split<;>rfl
     |c v=>cases v with
      |list s xs=>simp only;split<;>rfl
      |_=>rfl
     |_=>rfl
    |_=>rfl
   |some hi=>
    simp only[exec,rd]
    generalize σ.ev x=v
    generalize (σ.ev hi).cJ=q
    cases q with
    |none=>
     cases v with
     |one v=>cases v with
      |c v=>cases v<;>rfl
      |_=>rfl
     |_=>rfl
    |some q=>
     cases v with
     |one v=>cases v with
      |sl n s l0 len=>simp only;split<;>rfl
      |c v=>cases v with
       |list s xs=>simp only;split<;>rfl
       |_=>rfl
      |_=>rfl
     |_=>rfl
  |some lo=>
   cases hi with
   |none=>
    simp only[exec,rd]
    generalize σ.ev x=v
    generalize (σ.ev lo).cJ=u
    cases u with
    |none=>
     cases v with
     |one v=>cases v with
      |c v=>cases v<;>rfl
      |_=>rfl
     |_=>rfl
    |some u=>
     cases v with
     |one v=>cases v with
      |sl n s l0 len=>simp only;split<;>rfl
      |c v=>cases v with
       |list s xs=>simp only;split<;>rfl
       |_=>rfl
      |_=>rfl
     |_=>rfl
   |some hi=>
    simp only[exec,rd]
    generalize σ.ev x=v
    generalize (σ.ev lo).cJ=u
    generalize (σ.ev hi).cJ=q
    cases u with
    |none=>
     cases v with
     |one v=>cases v with
      |c v=>cases v<;>rfl
      |_=>rfl
     |_=>rfl
    |some u=>
     cases q with
     |none=>
      cases v with
      |one v=>cases v with
       |c v=>cases v<;>rfl
       |_=>rfl
      |_=>rfl
     |some q=>
      cases v with
      |one v=>cases v with
       |sl n s l0 len=>simp only;split<;>rfl
       |c v=>cases v with
        |list s xs=>simp only;split<;>rfl
        |_=>rfl
       |_=>rfl
      |_=>rfl
end Go.Am
