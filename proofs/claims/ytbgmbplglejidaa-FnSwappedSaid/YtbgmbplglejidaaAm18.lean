/- Am18: operations that may change places. No condition. -/
import Derived.Test.YtbgmbplglejidaaAm17
set_option linter.unusedVariables false
namespace Go.Am
def aH.dL:aH->Nat
 |.mv _|.pick ..|.build ..|.bin ..|.oJ ..|.un ..|.conv ..|.ext ..|.pI ..|.mm ..|.qe ..=>0
 |.alloc _|.box ..|.load ..|.gZ _|.kF ..|.slice ..|.aw ..|.cf ..|.len _|.pk ..|.call ..|.mW ..|.mV ..|.mX ..|.mz ..=>1
 |_=>2
def St.cM (σ:St):List (Nat×ar)->Option St
 |[]=>some σ
 |(n,b)::l=>match σ.ins n b with
  |some σ1=>σ1.cM l
  |none=>none
def iA (m:Mode):Nat->List C->List aj×Nat×List (Nat×ar)
 |nm,[]=>([],nm,[])
 |nm,.list sz xs::cs=>(.sl nm sz 0 xs.length::(iA m (nm+1) cs).1,(iA m (nm+1) cs).2.1,(nm,.row true m sz xs)::(iA m (nm+1) cs).2.2)
 |nm,x::cs=>(.c x::(iA m nm cs).1,(iA m nm cs).2.1,(iA m nm cs).2.2)
def xk (m:Mode):Nat->List Dv->Option (List (Bool×List aj)×List (Nat×ar))
 |_,[]=>some ([],[])
 |nm,(.ptr,_)::_=>none
 |nm,(k,cs)::ds=>match xk m (iA m nm cs).2.1 ds with
  |some (ls,bs)=>some ((decide (k=.agg),(iA m nm cs).1)::ls,(iA m nm cs).2.2++bs)
  |none=>none
theorem aa9 (σ:St) (l l':List (Nat×ar)):σ.cM (l++l')=(σ.cM l).bind fun σ1=>σ1.cM l':=by
 induction l generalizing σ with
 |nil=>rfl
 |cons x l ih=>
  obtain⟨n,b⟩:=x
  simp only[List.cons_append,St.cM]
  cases σ.ins n b with
  |none=>rfl
  |some σ1=>exact ih σ1
theorem Kr (m:Mode):∀(cs:List C) (σ:St) (nm:Nat),σ.imp m nm cs=(σ.cM (iA m nm cs).2.2).map fun σ1=>((iA m nm cs).1,(iA m nm cs).2.1,σ1)
 |[],σ,nm=>rfl
 |.list sz xs::cs,σ,nm=>by
  simp only[St.imp,iA,St.cM]
  cases σ.ins nm (.row true m sz xs) with
  |none=>rfl
  |some σ1=>
   simp only[Kr m cs]
   cases σ1.cM (iA m (nm+1) cs).2.2<;>rfl
 |.int k n::cs,σ,nm=>by
  simp only[St.imp,iA,Kr m cs]
  cases σ.cM (iA m nm cs).2.2<;>rfl
 |.bool b::cs,σ,nm=>by
  simp only[St.imp,iA,Kr m cs]
  cases σ.cM (iA m nm cs).2.2<;>rfl
theorem QB (m:Mode):∀(ds:List Dv) (σ:St) (nm:Nat),σ.jX m nm ds=(xk m nm ds).bind fun x=>(σ.cM x.2).map fun σ1=>(x.1,σ1)
 |[],σ,nm=>rfl
 |(k,cs)::ds,σ,nm=>by
  have bZ:(match σ.imp m nm cs with
    |some (l,fA,σ1)=>match σ1.jX m fA ds with
     |some (ls,σ2)=>some ((decide (k=K.agg),l)::ls,σ2)
     |none=>none
    |none=>none)=(match xk m (iA m nm cs).2.1 ds with
    |some (ls,bs)=>some ((decide (k=K.agg),(iA m nm cs).1)::ls,(iA m nm cs).2.2++bs)
    |none=>none).bind fun x=>(σ.cM x.2).map fun σ1=>(x.1,σ1):=by
   rw[Kr]
   have ih:=fun(σ1:St)=>QB m ds σ1 (iA m nm cs).2.1
   cases h1:σ.cM (iA m nm cs).2.2 with
   |none=>
    cases h2:xk m (iA m nm cs).2.1 ds with
    |none=>rfl
    |some x=>simp[aa9,h1]
   |some σ1=>
    simp only[Option.map_some,ih]
    cases h2:xk m (iA m nm cs).2.1 ds with
    |none=>rfl
    |some x=>
     simp[aa9,h1]
     cases σ1.cM x.2<;>rfl
  cases k with
  |ptr=>rfl
  |one=>exact bZ
  |agg=>exact bZ
def BA (T:aT) (m:Mode) (d:Option Nat) (f:FuncId) (as:List ak) (h:Nat->Option ar):Option (ak×List (Nat×ar)):=
 match ly h as with
 |some ds=>match aT.find T.pure f with
  |some M=>match M ds with
   |some rs=>match xk m (z6 d) rs with
    |some (ls,bs)=>some (lT ls,bs)
    |none=>none
   |none=>none
  |none=>none
 |none=>none
def abZ (vs:List ak) (f:FuncId):Option ak:=
 match vs.mapM (fun v=>match v with|.one c=>if c.lO=true then none else some c|_=>none) with
 |some cs=>if cs.all aj.FX=true then some (.one (.fn f cs)) else none
 |none=>none
def rd (T:aT) (d:Option Nat) (op:aH) (ev:MO->ak) (h:Nat->Option ar):Option (ak×List (Nat×ar)):=
 match op with
 |.mv x=>some (ev x,[])
 |.pick c x y=>match ev c with
  |.one (.c (.bool b))=>if b=true then some (ev x,[]) else some (ev y,[])
  |_=>none
 |.build zs parts=>match qp ev zs parts with
  |some cs=>some (.agg cs,[])
  |none=>none
 |.bin op x y=>match wv op (ev x) (ev y) with
  |some c=>some (.one (.c c),[])
  |none=>none
 |.oJ op x y=>match Bv op (ev x) (ev y) with
  |some c=>some (.one (.c c),[])
  |none=>none
 |.un op x=>match DK op (ev x) with
  |some c=>some (.one (.c c),[])
  |none=>none
 |.conv k x=>match ev x with
  |.one (.c (.int _ n))=>some (.one (.c (.int k (k.wrap n))),[])
  |_=>none
 |.ext i x=>match ev x with
  |.br xs=>match xs[i]? with
   |some (ag,cs)=>some (ma ag cs,[])
   |none=>none
  |_=>none
 |.pI ag off sz x=>match ev x with
  |.agg cs=>match sub cs off sz with
   |some l=>some (ma ag l,[])
   |none=>none
  |_=>none
 |.pk f bQ x=>match ev x with
  |.one (.sl n sz lo len)=>if(h n).isSome=true then some (.agg (lV bQ len (.sl n sz lo len)),[]) else none
  |.one (.c (.list sz xs))=>some (.agg (lV bQ xs.length (.c (.list sz xs))),[])
  |.one (.nil sz)=>some (.agg (lV bQ 0 (.nil sz)),[])
  |_=>none
 |.mm mx x y=>match ev x,ev y with
  |.one (.c (.int k a)),.one (.c (.int k' b))=>if mx=true then(if a<b then some (.one (.c (.int k b)),[]) else some (.one (.c (.int k a)),[]))
   else(if b<a then some (.one (.c (.int k b)),[]) else some (.one (.c (.int k a)),[]))
  |_,_=>none
 |.qe f xs=>match abZ (xs.map ev) f with
  |some v=>some (v,[])
  |none=>none
 |.alloc zs=>match d with
  |some n=>some (.one (.ptr n 0 0 0),[(n,.box zs)])
  |none=>none
 |.box sz x=>match d,(ev x).cells? with
  |some n,some (_,cs)=>if cs.length=sz then some (.one (.ptr n 0 0 0),[(n,.box cs)]) else none
  |_,_=>none
 |.load ag sz x=>match ev x with
  |.one p=>match loadAt h p sz with
   |some cs=>some (ma ag cs,[])
   |none=>none
  |_=>none
 |.gZ x=>match ev x with
  |.one (.ptr n k sz off)=>if(h n).isSome=true then some (.one (.ptr n k sz off),[]) else none
  |.one (.cH xs off)=>some (.one (.cH xs off),[])
  |_=>none
 |.kF m sz by_ zs l c=>match d,(ev l).dn,(ev c).dn with
  |some n,some a,some b=>if a<=b/\0<=a/\b.toNat*by_<=eQ/\zs.length=sz then
   some (.one (.sl n sz 0 a.toNat),[(n,.row true m sz (List.replicate a.toNat zs))])
   else none
  |_,_,_=>none
 |.slice sz x lo hi=>
  let Ru:Option Int:=match lo with|none=>some 0|some l=>(ev l).dn
  match ev x,Ru with
  |.one (.sl n s l0 len),some l=>
   match(match hi with|none=>some (len:Int)|some h=>(ev h).dn) with
   |some hh=>if s=sz/\0<=l/\l<=hh/\hh<=len/\(h n).isSome=true then some (.one (.sl n s (l0+l.toNat) (hh - l).toNat),[]) else none
   |none=>none
  |.one (.c (.list s xs)),some l=>
   match(match hi with|none=>some (xs.length:Int)|some h=>(ev h).dn) with
   |some hh=>if s=sz/\0<=l/\l<=hh/\hh<=xs.length then some (.one (.c (.list s ((xs.drop l.toNat).take (hh - l).toNat))),[]) else none
   |none=>none
  |_,_=>none
 |.aw off x=>match ev x with
  |.one (.ptr n k sz o)=>if(h n).isSome=true then some (.one (.ptr n k sz (o+off)),[]) else none
  |.one (.cH xs o)=>some (.one (.cH xs (o+off)),[])
  |_=>none
 |.cf sz x i=>match ev x,(ev i).dn with
  |.one (.sl n s lo len),some k=>if s=sz/\0<=k/\k<len/\(h n).isSome=true then some (.one (.ptr n (lo+k.toNat) s 0),[]) else none
  |.one (.c (.list s xs)),some k=>if s=sz/\0<=k then
   match xs[k.toNat]? with
   |some e=>some (.one (.cH e 0),[])
   |none=>none
   else none
  |.one (.bE n kk aE off s len),some k=>match cq h (.bE n kk aE off s len) with
   |some (.list s' ys)=>if s'=sz/\0<=k/\k<ys.length then some (.one (.c7 n kk aE off sz k.toNat),[]) else none
   |_=>none
  |_,_=>none
 |.len x=>match ev x with
  |.one (.sl n sz lo len)=>if(h n).isSome=true then some (.one (.c (.int .i64 len)),[]) else none
  |.one (.c (.list sz xs))=>some (.one (.c (.int .i64 xs.length)),[])
  |.one (.nil sz)=>some (.one (.c (.int .i64 0)),[])
  |.one (.bE n k aE off sz len)=>match cq h (.bE n k aE off sz len) with
   |some (.list s ys)=>some (.one (.c (.int .i64 ys.length)),[])
   |_=>none
  |_=>none
 |.call m f xs=>BA T m d f (xs.map ev) h
 |.mV f xs=>(uB T f (xs.map ev) h).map fun v=>(v,[])
 |.mX f xs=>(pE T f (xs.map ev) h).map fun v=>(v,[])
 |.mz f xs=>(yK T f (xs.map ev)).map fun v=>(v,[])
 |.mW m x xs=>match ev x with
  |.one (.fn f cF)=>BA T m d f (xs.map ev++cF.map .one) h
  |_=>none
 |_=>none
def fin (d:Option Nat) (σ:St) (x:ak×List (Nat×ar)):Option St:=(σ.cM x.2).map (·.put d x.1)
theorem Y5 (T:aT) (m:Mode) (d:Option Nat) (f:FuncId) (as:List ak) (σ:St):rT T m d f as σ=(BA T m d f as σ.h).bind (fin d σ):=by
 unfold rT BA
 cases ly σ.h as with
 |none=>rfl
 |some ds=>
  simp only
  cases aT.find T.pure f with
  |none=>rfl
  |some M=>
   simp only
   cases M ds with
   |none=>rfl
   |some rs=>
    simp only[QB]
    cases xk m (z6 d) rs with
    |none=>rfl
    |some x=>
     simp only[Option.bind_some,fin]
     cases σ.cM x.2<;>rfl
theorem pG (T:aT) (d:Option Nat) (op:aH) (σ:St) (hc:op.dL<=1):exec T d op σ=(rd T d op σ.ev σ.h).bind (fin d σ):=by
 cases op<;>simp only[aH.dL] at hc<;>first|omega|skip
 case call m f xs=>exact Y5 _ _ _ _ _ _
 case mV f xs=>
  simp only[exec,rd]
  cases uB T f (xs.map σ.ev) σ.h with
  |none=>rfl
  |some v=>rfl
 case mX f xs=>
  simp only[exec,rd]
  cases pE T f (xs.map σ.ev) σ.h with
  |none=>rfl
  |some v=>rfl
 case mz f xs=>
  simp only[exec,rd]
  cases yK T f (xs.map σ.ev) with
  |none=>rfl
  |some v=>rfl
 case mW m x xs=>
  simp only[exec,rd]
  split
  ·rename_i f cF h1
   simp only[h1]
   exact Y5 _ _ _ _ _ _
  ·rename_i cm
   split
   ·rename_i f cF h1;exact absurd h1 (cm f cF)
   ·rfl
 case alloc zs=>
  simp only[exec,rd]
  split
  ·rename_i n
   simp only[Option.bind_some,fin,St.cM]
   cases σ.ins n (.box zs)<;>rfl
  ·rfl
 case box sz x=>
  simp only[exec,rd]
  split
  ·rename_i n ag cs h1
   simp only[h1]
   split
   ·simp only[Option.bind_some,fin,St.cM]
    cases σ.ins n (.box cs)<;>rfl
   ·rfl
  ·rename_i cm
   split
   ·rename_i n ag cs h1;exact absurd h1 (cm n ag cs rfl)
   ·rfl
 case kF m sz by_ zs l c=>
  simp only[exec,rd]
  split
  ·rename_i n a b h1 h2
   simp only[h1,h2]
   split
   ·simp only[Option.bind_some,fin,St.cM]
    cases σ.ins n (.row true m sz (List.replicate a.toNat zs))<;>rfl
   ·rfl
  ·rename_i cm
   split
   ·rename_i n a b h1 h2;exact absurd h2 (cm n a b rfl h1)
   ·rfl
 case qe f xs=>
  simp only[exec,rd,abZ]
  cases (xs.map σ.ev).mapM (fun v=>match v with|.one c=>if c.lO=true then none else some c|_=>none) with
  |none=>rfl
  |some cs=>
   simp only
   split<;>rfl
 case mv x=>rfl
 case pick c x y=>
  simp only[exec,rd]
  generalize σ.ev c=v
  cases v with
  |one v=>cases v with
   |c v=>cases v with
    |bool b=>cases b<;>rfl
    |_=>rfl
   |_=>rfl
  |_=>rfl
 case build zs ps=>simp only[exec,rd];cases qp σ.ev zs ps<;>rfl
 case bin op x y=>simp only[exec,rd];cases wv op (σ.ev x) (σ.ev y)<;>rfl
 case oJ op x y=>simp only[exec,rd];cases Bv op (σ.ev x) (σ.ev y)<;>rfl
 case un op x=>simp only[exec,rd];cases DK op (σ.ev x)<;>rfl
 case conv k x=>
  simp only[exec,rd]
  generalize σ.ev x=v
  cases v with
  |one v=>cases v with
   |c v=>cases v<;>rfl
   |_=>rfl
  |_=>rfl
 case ext i x=>
  simp only[exec,rd]
  generalize σ.ev x=v
  cases v with
  |br xs=>
   simp only
   cases xs[i]? <;>rfl
  |_=>rfl
 case pI ag off sz x=>
  simp only[exec,rd]
  generalize σ.ev x=v
  cases v with
  |agg cs=>
   simp only
   cases sub cs off sz<;>rfl
  |_=>rfl
 case pk f bQ x=>
  simp only[exec,rd]
  generalize σ.ev x=v
  cases v with
  |one v=>cases v with
   |sl n sz lo len=>simp only;split<;>rfl
   |c v=>cases v<;>rfl
   |_=>rfl
  |_=>rfl
 case mm b x y=>
  simp only[exec,rd]
  generalize σ.ev x=v
  generalize σ.ev y=u
  cases v with
  |one v=>cases v with
   |c v=>cases v with
    |int k a=>cases u with
     |one u=>cases u with
      |c u=>cases u with
       |int k' a'=>
        simp only
        cases b
        ·simp only[Bool.false_eq_true,if_false];split<;>rfl
        ·simp only[if_true];split<;>rfl
       |_=>rfl
      |_=>rfl
     |_=>rfl
    |_=>rfl
   |_=>rfl
  |_=>rfl
 case load ag sz x=>
  simp only[exec,rd]
  generalize σ.ev x=v
  cases v with
  |one v=>
   simp only
   cases loadAt σ.h v sz<;>rfl
  |_=>rfl
 case gZ x=>
  simp only[exec,rd]
  generalize σ.ev x=v
  cases v with
  |one v=>cases v with
   |ptr n k sz off=>simp only;split<;>rfl
   |_=>rfl
  |_=>rfl
 case aw off x=>
  simp only[exec,rd]
  generalize σ.ev x=v
  cases v with
  |one v=>cases v with
   |ptr n k sz off=>simp only;split<;>rfl
   |_=>rfl
  |_=>rfl
 case len x=>
  simp only[exec,rd]
  generalize σ.ev x=v
  cases v with
  |one v=>cases v with
   |sl n sz lo len=>simp only;split<;>rfl
   |c v=>cases v<;>rfl
   |bE n k aE off sz len=>
    simp only
    cases cq σ.h (.bE n k aE off sz len) with
    |none=>rfl
    |some y=>cases y<;>rfl
   |_=>rfl
  |_=>rfl
 case cf sz x i=>
  simp only[exec,rd]
  generalize σ.ev x=v
  generalize (σ.ev i).dn=u
  cases v with
  |one v=>cases v with
   |sl n s lo len=>cases u with
    |none=>rfl
    |some k=>simp only;split<;>rfl
   |c v=>cases v with
    |list s xs=>cases u with
     |none=>rfl
     |some k=>
      simp only
      split
      ·cases xs[k.toNat]? <;>rfl
      ·rfl
    |_=>rfl
   |bE n k aE off s len=>
    cases u with
    |none=>rfl
    |some q=>
     simp only
     cases cq σ.h (.bE n k aE off s len) with
     |none=>rfl
     |some y=>cases y with
      |list s' ys=>simp only;split<;>rfl
      |_=>rfl
   |_=>rfl
  |_=>rfl
 case slice sz x lo hi=>
  cases lo with
  |none=>
   cases hi with
   |none=>
    simp only[exec,rd]
    generalize σ.ev x=v
    cases v with
    |one v=>cases v with
     |sl n s l0 len=>simp only;split<;>rfl
     |c v=>cases v with
      |list s xs=>simp only;split<;>rfl
      |_=>rfl
     |_=>rfl
    |_=>rfl
   |some hi=>
    simp only[exec,rd]
    generalize σ.ev x=v
    generalize (σ.ev hi).dn=q
    cases q with
    |none=>
     cases v with
     |one v=>cases v with
      |c v=>cases v<;>rfl
      |_=>rfl
     |_=>rfl
    |some q=>
     cases v with
     |one v=>cases v with
      |sl n s l0 len=>simp only;split<;>rfl
      |c v=>cases v with
       |list s xs=>simp only;split<;>rfl
       |_=>rfl
      |_=>rfl
     |_=>rfl
  |some lo=>
   cases hi with
   |none=>
    simp only[exec,rd]
    generalize σ.ev x=v
    generalize (σ.ev lo).dn=u
    cases u with
    |none=>
     cases v with
     |one v=>cases v with
      |c v=>cases v<;>rfl
      |_=>rfl
     |_=>rfl
    |some u=>
     cases v with
     |one v=>cases v with
      |sl n s l0 len=>simp only;split<;>rfl
      |c v=>cases v with
       |list s xs=>simp only;split<;>rfl
       |_=>rfl
      |_=>rfl
     |_=>rfl
   |some hi=>
    simp only[exec,rd]
    generalize σ.ev x=v
    generalize (σ.ev lo).dn=u
    generalize (σ.ev hi).dn=q
    cases u with
    |none=>
     cases v with
     |one v=>cases v with
      |c v=>cases v<;>rfl
      |_=>rfl
     |_=>rfl
    |some u=>
     cases q with
     |none=>
      cases v with
      |one v=>cases v with
       |c v=>cases v<;>rfl
       |_=>rfl
      |_=>rfl
     |some q=>
      cases v with
      |one v=>cases v with
       |sl n s l0 len=>simp only;split<;>rfl
       |c v=>cases v with
        |list s xs=>simp only;split<;>rfl
        |_=>rfl
       |_=>rfl
      |_=>rfl
end Go.Am
