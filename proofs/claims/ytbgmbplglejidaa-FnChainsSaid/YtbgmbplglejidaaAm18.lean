/- Am18: operations that may change places. No condition. -/
import Derived.Test.YtbgmbplglejidaaAm17
set_option linter.unusedVariables false
namespace Go.Am
def aE.dE:aE->Nat
 |.mv _|.pick ..|.build ..|.bin ..|.oF ..|.un ..|.conv ..|.ext ..|.oM ..|.mm ..|.pq ..=>0
 |.alloc _|.box ..|.load ..|.gE _|.jF ..|.slice ..|.aF ..|.bX ..|.len _|.ou ..|.call ..|.mn ..|.mh ..|.mq ..|.lv ..=>1
 |_=>2
def St.cA (σ:St):List (Nat×ao)->Option St
 |[]=>some σ
 |(n,b)::l=>match σ.ins n b with
  |some σ1=>σ1.cA l
  |none=>none
def g7 (m:Mode):Nat->List C->List ah×Nat×List (Nat×ao)
 |nm,[]=>([],nm,[])
 |nm,.list sz xs::cs=>(.sl nm sz 0 xs.length::(g7 m (nm+1) cs).1,(g7 m (nm+1) cs).2.1,(nm,.row true m sz xs)::(g7 m (nm+1) cs).2.2)
 |nm,x::cs=>(.c x::(g7 m nm cs).1,(g7 m nm cs).2.1,(g7 m nm cs).2.2)
def wv (m:Mode):Nat->List Dv->Option (List (Bool×List ah)×List (Nat×ao))
 |_,[]=>some ([],[])
 |nm,(.ptr,_)::_=>none
 |nm,(k,cs)::ds=>match wv m (g7 m nm cs).2.1 ds with
  |some (ls,bs)=>some ((decide (k=.agg),(g7 m nm cs).1)::ls,(g7 m nm cs).2.2++bs)
  |none=>none
theorem Zz (σ:St) (l l':List (Nat×ao)):σ.cA (l++l')=(σ.cA l).bind fun σ1=>σ1.cA l':=by
 induction l generalizing σ with
 |nil=>rfl
 |cons x l ih=>
  obtain⟨n,b⟩:=x
  simp only[List.cons_append,St.cA]
  cases σ.ins n b with
  |none=>rfl
  |some σ1=>exact ih σ1
theorem I9 (m:Mode):∀(cs:List C) (σ:St) (nm:Nat),σ.imp m nm cs=(σ.cA (g7 m nm cs).2.2).map fun σ1=>((g7 m nm cs).1,(g7 m nm cs).2.1,σ1)
 |[],σ,nm=>rfl
 |.list sz xs::cs,σ,nm=>by
  simp only[St.imp,g7,St.cA]
  cases σ.ins nm (.row true m sz xs) with
  |none=>rfl
  |some σ1=>
   simp only[I9 m cs]
   cases σ1.cA (g7 m (nm+1) cs).2.2<;>rfl
 |.int k n::cs,σ,nm=>by
  simp only[St.imp,g7,I9 m cs]
  cases σ.cA (g7 m nm cs).2.2<;>rfl
 |.bool b::cs,σ,nm=>by
  simp only[St.imp,g7,I9 m cs]
  cases σ.cA (g7 m nm cs).2.2<;>rfl
theorem O4 (m:Mode):∀(ds:List Dv) (σ:St) (nm:Nat),σ.jC m nm ds=(wv m nm ds).bind fun x=>(σ.cA x.2).map fun σ1=>(x.1,σ1)
 |[],σ,nm=>rfl
 |(k,cs)::ds,σ,nm=>by
  have cf:(match σ.imp m nm cs with
    |some (l,fo,σ1)=>match σ1.jC m fo ds with
     |some (ls,σ2)=>some ((decide (k=K.agg),l)::ls,σ2)
     |none=>none
    |none=>none)=(match wv m (g7 m nm cs).2.1 ds with
    |some (ls,bs)=>some ((decide (k=K.agg),(g7 m nm cs).1)::ls,(g7 m nm cs).2.2++bs)
    |none=>none).bind fun x=>(σ.cA x.2).map fun σ1=>(x.1,σ1):=by
   rw[I9]
   have ih:=fun(σ1:St)=>O4 m ds σ1 (g7 m nm cs).2.1
   cases h1:σ.cA (g7 m nm cs).2.2 with
   |none=>
    cases h2:wv m (g7 m nm cs).2.1 ds with
    |none=>rfl
    |some x=>simp[Zz,h1]
   |some σ1=>
    simp only[Option.map_some,ih]
    cases h2:wv m (g7 m nm cs).2.1 ds with
    |none=>rfl
    |some x=>
     simp[Zz,h1]
     cases σ1.cA x.2<;>rfl
  cases k with
  |ptr=>rfl
  |one=>exact cf
  |agg=>exact cf
def Al (T:aO) (m:Mode) (d:Option Nat) (f:FuncId) (as:List aj) (h:Nat->Option ao):Option (aj×List (Nat×ao)):=
 match kx h as with
 |some ds=>match aO.find T.pure f with
  |some M=>match M ds with
   |some rs=>match wv m (yW d) rs with
    |some (ls,bs)=>some (kQ ls,bs)
    |none=>none
   |none=>none
  |none=>none
 |none=>none
def aap (vs:List aj) (f:FuncId):Option aj:=
 match vs.mapM (fun v=>match v with|.one c=>if c.kJ=true then none else some c|_=>none) with
 |some cs=>if cs.all ah.EA=true then some (.one (.fn f cs)) else none
 |none=>none
def rd (T:aO) (d:Option Nat) (op:aE) (ev:MO->aj) (h:Nat->Option ao):Option (aj×List (Nat×ao)):=
 match op with
 |.mv x=>some (ev x,[])
 |.pick c x y=>match ev c with
  |.one (.c (.bool b))=>if b=true then some (ev x,[]) else some (ev y,[])
  |_=>none
 |.build zs parts=>match pH ev zs parts with
  |some cs=>some (.agg cs,[])
  |none=>none
 |.bin op x y=>match vD op (ev x) (ev y) with
  |some c=>some (.one (.c c),[])
  |none=>none
 |.oF op x y=>match Ag op (ev x) (ev y) with
  |some c=>some (.one (.c c),[])
  |none=>none
 |.un op x=>match Ct op (ev x) with
  |some c=>some (.one (.c c),[])
  |none=>none
 |.conv k x=>match ev x with
  |.one (.c (.int _ n))=>some (.one (.c (.int k (k.wrap n))),[])
  |_=>none
 |.ext i x=>match ev x with
  |.bn xs=>match xs[i]? with
   |some (ag,cs)=>some (kV ag cs,[])
   |none=>none
  |_=>none
 |.oM ag off sz x=>match ev x with
  |.agg cs=>match sub cs off sz with
   |some l=>some (kV ag l,[])
   |none=>none
  |_=>none
 |.ou f bH x=>match ev x with
  |.one (.sl n sz lo len)=>if(h n).isSome=true then some (.agg (kS bH len (.sl n sz lo len)),[]) else none
  |.one (.c (.list sz xs))=>some (.agg (kS bH xs.length (.c (.list sz xs))),[])
  |.one (.nil sz)=>some (.agg (kS bH 0 (.nil sz)),[])
  |_=>none
 |.mm mx x y=>match ev x,ev y with
  |.one (.c (.int k a)),.one (.c (.int k' b))=>if mx=true then(if a<b then some (.one (.c (.int k b)),[]) else some (.one (.c (.int k a)),[]))
   else(if b<a then some (.one (.c (.int k b)),[]) else some (.one (.c (.int k a)),[]))
  |_,_=>none
 |.pq f xs=>match aap (xs.map ev) f with
  |some v=>some (v,[])
  |none=>none
 |.alloc zs=>match d with
  |some n=>some (.one (.ptr n 0 0 0),[(n,.box zs)])
  |none=>none
 |.box sz x=>match d,(ev x).cells? with
  |some n,some (_,cs)=>if cs.length=sz then some (.one (.ptr n 0 0 0),[(n,.box cs)]) else none
  |_,_=>none
 |.load ag sz x=>match ev x with
  |.one p=>match loadAt h p sz with
   |some cs=>some (kV ag cs,[])
   |none=>none
  |_=>none
 |.gE x=>match ev x with
  |.one (.ptr n k sz off)=>if(h n).isSome=true then some (.one (.ptr n k sz off),[]) else none
  |.one (.cu xs off)=>some (.one (.cu xs off),[])
  |_=>none
 |.jF m sz by_ zs l c=>match d,(ev l).df,(ev c).df with
  |some n,some a,some b=>if a<=b/\0<=a/\b.toNat*by_<=dF/\zs.length=sz then
   some (.one (.sl n sz 0 a.toNat),[(n,.row true m sz (List.replicate a.toNat zs))])
   else none
  |_,_,_=>none
 |.slice sz x lo hi=>
  let PN:Option Int:=match lo with|none=>some 0|some l=>(ev l).df
  match ev x,PN with
  |.one (.sl n s l0 len),some l=>
   match(match hi with|none=>some (len:Int)|some h=>(ev h).df) with
   |some hh=>if s=sz/\0<=l/\l<=hh/\hh<=len/\(h n).isSome=true then some (.one (.sl n s (l0+l.toNat) (hh - l).toNat),[]) else none
   |none=>none
  |.one (.c (.list s xs)),some l=>
   match(match hi with|none=>some (xs.length:Int)|some h=>(ev h).df) with
   |some hh=>if s=sz/\0<=l/\l<=hh/\hh<=xs.length then some (.one (.c (.list s ((xs.drop l.toNat).take (hh - l).toNat))),[]) else none
   |none=>none
  |_,_=>none
 |.aF off x=>match ev x with
  |.one (.ptr n k sz o)=>if(h n).isSome=true then some (.one (.ptr n k sz (o+off)),[]) else none
  |.one (.cu xs o)=>some (.one (.cu xs (o+off)),[])
  |_=>none
 |.bX sz x i=>match ev x,(ev i).df with
  |.one (.sl n s lo len),some k=>if s=sz/\0<=k/\k<len/\(h n).isSome=true then some (.one (.ptr n (lo+k.toNat) s 0),[]) else none
  |.one (.c (.list s xs)),some k=>if s=sz/\0<=k then
   match xs[k.toNat]? with
   |some e=>some (.one (.cu e 0),[])
   |none=>none
   else none
  |.one (.bz n kk az off s len),some k=>match cg h (.bz n kk az off s len) with
   |some (.list s' ys)=>if s'=sz/\0<=k/\k<ys.length then some (.one (.cQ n kk az off sz k.toNat),[]) else none
   |_=>none
  |_,_=>none
 |.len x=>match ev x with
  |.one (.sl n sz lo len)=>if(h n).isSome=true then some (.one (.c (.int .i64 len)),[]) else none
  |.one (.c (.list sz xs))=>some (.one (.c (.int .i64 xs.length)),[])
  |.one (.nil sz)=>some (.one (.c (.int .i64 0)),[])
  |.one (.bz n k az off sz len)=>match cg h (.bz n k az off sz len) with
   |some (.list s ys)=>some (.one (.c (.int .i64 ys.length)),[])
   |_=>none
  |_=>none
 |.call m f xs=>Al T m d f (xs.map ev) h
 |.mh f xs=>(tF T f (xs.map ev) h).map fun v=>(v,[])
 |.mq f xs=>(oH T f (xs.map ev) h).map fun v=>(v,[])
 |.lv f xs=>(xU T f (xs.map ev)).map fun v=>(v,[])
 |.mn m x xs=>match ev x with
  |.one (.fn f cr)=>Al T m d f (xs.map ev++cr.map .one) h
  |_=>none
 |_=>none
def fin (d:Option Nat) (σ:St) (x:aj×List (Nat×ao)):Option St:=(σ.cA x.2).map (·.put d x.1)
theorem Xh (T:aO) (m:Mode) (d:Option Nat) (f:FuncId) (as:List aj) (σ:St):rf T m d f as σ=(Al T m d f as σ.h).bind (fin d σ):=by
 unfold rf Al
 cases kx σ.h as with
 |none=>rfl
 |some ds=>
  simp only
  cases aO.find T.pure f with
  |none=>rfl
  |some M=>
   simp only
   cases M ds with
   |none=>rfl
   |some rs=>
    simp only[O4]
    cases wv m (yW d) rs with
    |none=>rfl
    |some x=>
     simp only[Option.bind_some,fin]
     cases σ.cA x.2<;>rfl
theorem oJ (T:aO) (d:Option Nat) (op:aE) (σ:St) (hc:op.dE<=1):exec T d op σ=(rd T d op σ.ev σ.h).bind (fin d σ):=by
 cases op<;>simp only[aE.dE] at hc<;>first|omega|skip
 case call m f xs=>exact Xh _ _ _ _ _ _
 case mh f xs=>
  simp only[exec,rd]
  cases tF T f (xs.map σ.ev) σ.h with
  |none=>rfl
  |some v=>rfl
 case mq f xs=>
  simp only[exec,rd]
  cases oH T f (xs.map σ.ev) σ.h with
  |none=>rfl
  |some v=>rfl
 case lv f xs=>
  simp only[exec,rd]
  cases xU T f (xs.map σ.ev) with
  |none=>rfl
  |some v=>rfl
 case mn m x xs=>
  simp only[exec,rd]
  split
  ·rename_i f cr h1
   simp only[h1]
   exact Xh _ _ _ _ _ _
  ·rename_i ca
   split
   ·rename_i f cr h1;exact absurd h1 (ca f cr)
   ·rfl
 case alloc zs=>
  simp only[exec,rd]
  split
  ·rename_i n
   simp only[Option.bind_some,fin,St.cA]
   cases σ.ins n (.box zs)<;>rfl
  ·rfl
 case box sz x=>
  simp only[exec,rd]
  split
  ·rename_i n ag cs h1
   simp only[h1]
   split
   ·simp only[Option.bind_some,fin,St.cA]
    cases σ.ins n (.box cs)<;>rfl
   ·rfl
  ·rename_i ca
   split
   ·rename_i n ag cs h1;exact absurd h1 (ca n ag cs rfl)
   ·rfl
 case jF m sz by_ zs l c=>
  simp only[exec,rd]
  split
  ·rename_i n a b h1 h2
   simp only[h1,h2]
   split
   ·simp only[Option.bind_some,fin,St.cA]
    cases σ.ins n (.row true m sz (List.replicate a.toNat zs))<;>rfl
   ·rfl
  ·rename_i ca
   split
   ·rename_i n a b h1 h2;exact absurd h2 (ca n a b rfl h1)
   ·rfl
 case pq f xs=>
  simp only[exec,rd,aap]
  cases (xs.map σ.ev).mapM (fun v=>match v with|.one c=>if c.kJ=true then none else some c|_=>none) with
  |none=>rfl
  |some cs=>
   simp only
   split<;>rfl
 case mv x=>rfl
 case pick c x y=>
  simp only[exec,rd]
  generalize σ.ev c=v
  cases v with
  |one v=>cases v with
   |c v=>cases v with
    |bool b=>cases b<;>rfl
    |_=>rfl
   |_=>rfl
  |_=>rfl
 case build zs ps=>simp only[exec,rd];cases pH σ.ev zs ps<;>rfl
 case bin op x y=>simp only[exec,rd];cases vD op (σ.ev x) (σ.ev y)<;>rfl
 case oF op x y=>simp only[exec,rd];cases Ag op (σ.ev x) (σ.ev y)<;>rfl
 case un op x=>simp only[exec,rd];cases Ct op (σ.ev x)<;>rfl
 case conv k x=>
  simp only[exec,rd]
  generalize σ.ev x=v
  cases v with
  |one v=>cases v with
   |c v=>cases v<;>rfl
   |_=>rfl
  |_=>rfl
 case ext i x=>
  simp only[exec,rd]
  generalize σ.ev x=v
  cases v with
  |bn xs=>
   simp only
   cases xs[i]? <;>rfl
  |_=>rfl
 case oM ag off sz x=>
  simp only[exec,rd]
  generalize σ.ev x=v
  cases v with
  |agg cs=>
   simp only
   cases sub cs off sz<;>rfl
  |_=>rfl
 case ou f bH x=>
  simp only[exec,rd]
  generalize σ.ev x=v
  cases v with
  |one v=>cases v with
   |sl n sz lo len=>simp only;split<;>rfl
   |c v=>cases v<;>rfl
   |_=>rfl
  |_=>rfl
 case mm b x y=>
  simp only[exec,rd]
  generalize σ.ev x=v
  generalize σ.ev y=u
  cases v with
  |one v=>cases v with
   |c v=>cases v with
    |int k a=>cases u with
     |one u=>cases u with
      |c u=>cases u with
       |int k' a'=>
        simp only
        cases b
        ·simp only[Bool.false_eq_true,if_false];split<;>rfl
        ·simp only[if_true];split<;>rfl
       |_=>rfl
      |_=>rfl
     |_=>rfl
    |_=>rfl
   |_=>rfl
  |_=>rfl
 case load ag sz x=>
  simp only[exec,rd]
  generalize σ.ev x=v
  cases v with
  |one v=>
   simp only
   cases loadAt σ.h v sz<;>rfl
  |_=>rfl
 case gE x=>
  simp only[exec,rd]
  generalize σ.ev x=v
  cases v with
  |one v=>cases v with
   |ptr n k sz off=>simp only;split<;>rfl
   |_=>rfl
  |_=>rfl
 case aF off x=>
  simp only[exec,rd]
  generalize σ.ev x=v
  cases v with
  |one v=>cases v with
   |ptr n k sz off=>simp only;split<;>rfl
   |_=>rfl
  |_=>rfl
 case len x=>
  simp only[exec,rd]
  generalize σ.ev x=v
  cases v with
  |one v=>cases v with
   |sl n sz lo len=>simp only;split<;>rfl
   |c v=>cases v<;>rfl
   |bz n k az off sz len=>
    simp only
    cases cg σ.h (.bz n k az off sz len) with
    |none=>rfl
    |some y=>cases y<;>rfl
   |_=>rfl
  |_=>rfl
 case bX sz x i=>
  simp only[exec,rd]
  generalize σ.ev x=v
  generalize (σ.ev i).df=u
  cases v with
  |one v=>cases v with
   |sl n s lo len=>cases u with
    |none=>rfl
    |some k=>simp only;split<;>rfl
   |c v=>cases v with
    |list s xs=>cases u with
     |none=>rfl
     |some k=>
      simp only
      split
      ·cases xs[k.toNat]? <;>rfl
      ·rfl
    |_=>rfl
   |bz n k az off s len=>
    cases u with
    |none=>rfl
    |some q=>
     simp only
     cases cg σ.h (.bz n k az off s len) with
     |none=>rfl
     |some y=>cases y with
      |list s' ys=>simp only;split<;>rfl
      |_=>rfl
   |_=>rfl
  |_=>rfl
 case slice sz x lo hi=>
  cases lo with
  |none=>
   cases hi with
   |none=>
    simp only[exec,rd]
    generalize σ.ev x=v
    cases v with
    |one v=>cases v with
     |sl n s l0 len=>simp only;split<;>rfl
     |c v=>cases v with
      |list s xs=>simp only;split<;>rfl
      |_=>rfl
     |_=>rfl
    |_=>rfl
   |some hi=>
    simp only[exec,rd]
    generalize σ.ev x=v
    generalize (σ.ev hi).df=q
    cases q with
    |none=>
     cases v with
     |one v=>cases v with
      |c v=>cases v<;>rfl
      |_=>rfl
     |_=>rfl
    |some q=>
     cases v with
     |one v=>cases v with
      |sl n s l0 len=>simp only;split<;>rfl
      |c v=>cases v with
       |list s xs=>simp only;split<;>rfl
       |_=>rfl
      |_=>rfl
     |_=>rfl
  |some lo=>
   cases hi with
   |none=>
    simp only[exec,rd]
    generalize σ.ev x=v
    generalize (σ.ev lo).df=u
    cases u with
    |none=>
     cases v with
     |one v=>cases v with
      |c v=>cases v<;>rfl
      |_=>rfl
     |_=>rfl
    |some u=>
     cases v with
     |one v=>cases v with
      |sl n s l0 len=>simp only;split<;>rfl
      |c v=>cases v with
       |list s xs=>simp only;split<;>rfl
       |_=>rfl
      |_=>rfl
     |_=>rfl
   |some hi=>
    simp only[exec,rd]
    generalize σ.ev x=v
    generalize (σ.ev lo).df=u
    generalize (σ.ev hi).df=q
    cases u with
    |none=>
     cases v with
     |one v=>cases v with
      |c v=>cases v<;>rfl
      |_=>rfl
     |_=>rfl
    |some u=>
     cases q with
     |none=>
      cases v with
      |one v=>cases v with
       |c v=>cases v<;>rfl
       |_=>rfl
      |_=>rfl
     |some q=>
      cases v with
      |one v=>cases v with
       |sl n s l0 len=>simp only;split<;>rfl
       |c v=>cases v with
        |list s xs=>simp only;split<;>rfl
        |_=>rfl
       |_=>rfl
      |_=>rfl
end Go.Am
