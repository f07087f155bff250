/- Am18: operations that may change places. No condition. -/
import Derived.Test.YtbgmbplglejidaaAm17
set_option linter.unusedVariables false
namespace Go.Am
def aF.dE:aF->Nat
 |.mv _|.pick ..|.build ..|.bin ..|.me ..|.un ..|.conv ..|.ext ..|.oM ..|.mm ..|.pf ..=>0
 |.alloc _|.box ..|.load ..|.od _|.jC ..|.slice ..|.ao ..|.bm ..|.len _|.ou ..|.call ..|.mg ..|.mf ..|.mh ..|.lv ..=>1
 |_=>2
def St.ct (σ:St):List (Nat×aq)->Option St
 |[]=>some σ
 |(n,b)::l=>match σ.ins n b with
  |some σ1=>σ1.ct l
  |none=>none
def hH (m:Mode):Nat->List C->List ah×Nat×List (Nat×aq)
 |nm,[]=>([],nm,[])
 |nm,.list sz xs::cs=>(.sl nm sz 0 xs.length::(hH m (nm+1) cs).1,(hH m (nm+1) cs).2.1,(nm,.row true m sz xs)::(hH m (nm+1) cs).2.2)
 |nm,x::cs=>(.c x::(hH m nm cs).1,(hH m nm cs).2.1,(hH m nm cs).2.2)
def wG (m:Mode):Nat->List Dv->Option (List (Bool×List ah)×List (Nat×aq))
 |_,[]=>some ([],[])
 |nm,(.ptr,_)::_=>none
 |nm,(k,cs)::ds=>match wG m (hH m nm cs).2.1 ds with
  |some (ls,bs)=>some ((decide (k=.agg),(hH m nm cs).1)::ls,(hH m nm cs).2.2++bs)
  |none=>none
theorem aan (σ:St) (l l':List (Nat×aq)):σ.ct (l++l')=(σ.ct l).bind fun σ1=>σ1.ct l':=by
 induction l generalizing σ with
 |nil=>rfl
 |cons x l ih=>
  obtain⟨n,b⟩:=x
  simp only[List.cons_append,St.ct]
  cases σ.ins n b with
  |none=>rfl
  |some σ1=>exact ih σ1
theorem Je (m:Mode):∀(cs:List C) (σ:St) (nm:Nat),σ.imp m nm cs=(σ.ct (hH m nm cs).2.2).map fun σ1=>((hH m nm cs).1,(hH m nm cs).2.1,σ1)
 |[],σ,nm=>rfl
 |.list sz xs::cs,σ,nm=>by
  simp only[St.imp,hH,St.ct]
  cases σ.ins nm (.row true m sz xs) with
  |none=>rfl
  |some σ1=>
   simp only[Je m cs]
   cases σ1.ct (hH m (nm+1) cs).2.2<;>rfl
 |.int k n::cs,σ,nm=>by
  simp only[St.imp,hH,Je m cs]
  cases σ.ct (hH m nm cs).2.2<;>rfl
 |.bool b::cs,σ,nm=>by
  simp only[St.imp,hH,Je m cs]
  cases σ.ct (hH m nm cs).2.2<;>rfl
theorem PT (m:Mode):∀(ds:List Dv) (σ:St) (nm:Nat),σ.jt m nm ds=(wG m nm ds).bind fun x=>(σ.ct x.2).map fun σ1=>(x.1,σ1)
 |[],σ,nm=>rfl
 |(k,cs)::ds,σ,nm=>by
  have cV:(match σ.imp m nm cs with
    |some (l,fc,σ1)=>match σ1.jt m fc ds with
     |some (ls,σ2)=>some ((decide (k=K.agg),l)::ls,σ2)
     |none=>none
    |none=>none)=(match wG m (hH m nm cs).2.1 ds with
    |some (ls,bs)=>some ((decide (k=K.agg),(hH m nm cs).1)::ls,(hH m nm cs).2.2++bs)
    |none=>none).bind fun x=>(σ.ct x.2).map fun σ1=>(x.1,σ1):=by
   rw[Je]
   have ih:=fun(σ1:St)=>PT m ds σ1 (hH m nm cs).2.1
   cases h1:σ.ct (hH m nm cs).2.2 with
   |none=>
    cases h2:wG m (hH m nm cs).2.1 ds with
    |none=>rfl
    |some x=>simp[aan,h1]
   |some σ1=>
    simp only[Option.map_some,ih]
    cases h2:wG m (hH m nm cs).2.1 ds with
    |none=>rfl
    |some x=>
     simp[aan,h1]
     cases σ1.ct x.2<;>rfl
  cases k with
  |ptr=>rfl
  |one=>exact cV
  |agg=>exact cV
def Aq (T:aS) (m:Mode) (d:Option Nat) (f:FuncId) (as:List aj) (h:Nat->Option aq):Option (aj×List (Nat×aq)):=
 match kw h as with
 |some ds=>match aS.find T.pure f with
  |some M=>match M ds with
   |some rs=>match wG m (y8 d) rs with
    |some (ls,bs)=>some (kQ ls,bs)
    |none=>none
   |none=>none
  |none=>none
 |none=>none
def aa9 (vs:List aj) (f:FuncId):Option aj:=
 match vs.mapM (fun v=>match v with|.one c=>if c.kJ=true then none else some c|_=>none) with
 |some cs=>if cs.all ah.EH=true then some (.one (.fn f cs)) else none
 |none=>none
def rd (T:aS) (d:Option Nat) (op:aF) (ev:MO->aj) (h:Nat->Option aq):Option (aj×List (Nat×aq)):=
 match op with
 |.mv x=>some (ev x,[])
 |.pick c x y=>match ev c with
  |.one (.c (.bool b))=>if b=true then some (ev x,[]) else some (ev y,[])
  |_=>none
 |.build zs parts=>match pC ev zs parts with
  |some cs=>some (.agg cs,[])
  |none=>none
 |.bin op x y=>match vH op (ev x) (ev y) with
  |some c=>some (.one (.c c),[])
  |none=>none
 |.me op x y=>match Al op (ev x) (ev y) with
  |some c=>some (.one (.c c),[])
  |none=>none
 |.un op x=>match Cw op (ev x) with
  |some c=>some (.one (.c c),[])
  |none=>none
 |.conv k x=>match ev x with
  |.one (.c (.int _ n))=>some (.one (.c (.int k (k.wrap n))),[])
  |_=>none
 |.ext i x=>match ev x with
  |.bo xs=>match xs[i]? with
   |some (ag,cs)=>some (kZ ag cs,[])
   |none=>none
  |_=>none
 |.oM ag off sz x=>match ev x with
  |.agg cs=>match sub cs off sz with
   |some l=>some (kZ ag l,[])
   |none=>none
  |_=>none
 |.ou f bN x=>match ev x with
  |.one (.sl n sz lo len)=>if(h n).isSome=true then some (.agg (kS bN len (.sl n sz lo len)),[]) else none
  |.one (.c (.list sz xs))=>some (.agg (kS bN xs.length (.c (.list sz xs))),[])
  |.one (.nil sz)=>some (.agg (kS bN 0 (.nil sz)),[])
  |_=>none
 |.mm mx x y=>match ev x,ev y with
  |.one (.c (.int k a)),.one (.c (.int k' b))=>if mx=true then(if a<b then some (.one (.c (.int k b)),[]) else some (.one (.c (.int k a)),[]))
   else(if b<a then some (.one (.c (.int k b)),[]) else some (.one (.c (.int k a)),[]))
  |_,_=>none
 |.pf f xs=>match aa9 (xs.map ev) f with
  |some v=>some (v,[])
  |none=>none
 |.alloc zs=>match d with
  |some n=>some (.one (.ptr n 0 0 0),[(n,.box zs)])
  |none=>none
 |.box sz x=>match d,(ev x).cells? with
  |some n,some (_,cs)=>if cs.length=sz then some (.one (.ptr n 0 0 0),[(n,.box cs)]) else none
  |_,_=>none
 |.load ag sz x=>match ev x with
  |.one p=>match loadAt h p sz with
   |some cs=>some (kZ ag cs,[])
   |none=>none
  |_=>none
 |.od x=>match ev x with
  |.one (.ptr n k sz off)=>if(h n).isSome=true then some (.one (.ptr n k sz off),[]) else none
  |.one (.cj xs off)=>some (.one (.cj xs off),[])
  |_=>none
 |.jC m sz by_ zs l c=>match d,(ev l).dh,(ev c).dh with
  |some n,some a,some b=>if a<=b/\0<=a/\b.toNat*by_<=dA/\zs.length=sz then
   some (.one (.sl n sz 0 a.toNat),[(n,.row true m sz (List.replicate a.toNat zs))])
   else none
  |_,_,_=>none
 |.slice sz x lo hi=>
  let Qr:Option Int:=match lo with|none=>some 0|some l=>(ev l).dh
  match ev x,Qr with
  |.one (.sl n s l0 len),some l=>
   match(match hi with|none=>some (len:Int)|some h=>(ev h).dh) with
   |some hh=>if s=sz/\0<=l/\l<=hh/\hh<=len/\(h n).isSome=true then some (.one (.sl n s (l0+l.toNat) (hh - l).toNat),[]) else none
   |none=>none
  |.one (.c (.list s xs)),some l=>
   match(match hi with|none=>some (xs.length:Int)|some h=>(ev h).dh) with
   |some hh=>if s=sz/\0<=l/\l<=hh/\hh<=xs.length then some (.one (.c (.list s ((xs.drop l.toNat).take (hh - l).toNat))),[]) else none
   |none=>none
  |_,_=>none
 |.ao off x=>match ev x with
  |.one (.ptr n k sz o)=>if(h n).isSome=true then some (.one (.ptr n k sz (o+off)),[]) else none
  |.one (.cj xs o)=>some (.one (.cj xs (o+off)),[])
  |_=>none
 |.bm sz x i=>match ev x,(ev i).dh with
  |.one (.sl n s lo len),some k=>if s=sz/\0<=k/\k<len/\(h n).isSome=true then some (.one (.ptr n (lo+k.toNat) s 0),[]) else none
  |.one (.c (.list s xs)),some k=>if s=sz/\0<=k then
   match xs[k.toNat]? with
   |some e=>some (.one (.cj e 0),[])
   |none=>none
   else none
  |.one (.bx n kk aD off s len),some k=>match bU h (.bx n kk aD off s len) with
   |some (.list s' ys)=>if s'=sz/\0<=k/\k<ys.length then some (.one (.cN n kk aD off sz k.toNat),[]) else none
   |_=>none
  |_,_=>none
 |.len x=>match ev x with
  |.one (.sl n sz lo len)=>if(h n).isSome=true then some (.one (.c (.int .i64 len)),[]) else none
  |.one (.c (.list sz xs))=>some (.one (.c (.int .i64 xs.length)),[])
  |.one (.nil sz)=>some (.one (.c (.int .i64 0)),[])
  |.one (.bx n k aD off sz len)=>match bU h (.bx n k aD off sz len) with
   |some (.list s ys)=>some (.one (.c (.int .i64 ys.length)),[])
   |_=>none
  |_=>none
 |.call m f xs=>Aq T m d f (xs.map ev) h
 |.mf f xs=>(tQ T f (xs.map ev) h).map fun v=>(v,[])
 |.mh f xs=>(oI T f (xs.map ev) h).map fun v=>(v,[])
 |.lv f xs=>(x9 T f (xs.map ev)).map fun v=>(v,[])
 |.mg m x xs=>match ev x with
  |.one (.fn f cf)=>Aq T m d f (xs.map ev++cf.map .one) h
  |_=>none
 |_=>none
def fin (d:Option Nat) (σ:St) (x:aj×List (Nat×aq)):Option St:=(σ.ct x.2).map (·.put d x.1)
theorem Yf (T:aS) (m:Mode) (d:Option Nat) (f:FuncId) (as:List aj) (σ:St):rb T m d f as σ=(Aq T m d f as σ.h).bind (fin d σ):=by
 unfold rb Aq
 cases kw σ.h as with
 |none=>rfl
 |some ds=>
  simp only
  cases aS.find T.pure f with
  |none=>rfl
  |some M=>
   simp only
   cases M ds with
   |none=>rfl
   |some rs=>
    simp only[PT]
    cases wG m (y8 d) rs with
    |none=>rfl
    |some x=>
     simp only[Option.bind_some,fin]
     cases σ.ct x.2<;>rfl
theorem oK (T:aS) (d:Option Nat) (op:aF) (σ:St) (hc:op.dE<=1):exec T d op σ=(rd T d op σ.ev σ.h).bind (fin d σ):=by
 cases op<;>simp only[aF.dE] at hc<;>first|omega|skip
 case call m f xs=>exact Yf _ _ _ _ _ _
 case mf f xs=>
  simp only[exec,rd]
  cases tQ T f (xs.map σ.ev) σ.h with
  |none=>rfl
  |some v=>rfl
 case mh f xs=>
  simp only[exec,rd]
  cases oI T f (xs.map σ.ev) σ.h with
  |none=>rfl
  |some v=>rfl
 case lv f xs=>
  simp only[exec,rd]
  cases x9 T f (xs.map σ.ev) with
  |none=>rfl
  |some v=>rfl
 case mg m x xs=>
  simp only[exec,rd]
  split
  ·rename_i f cf h1
   simp only[h1]
   exact Yf _ _ _ _ _ _
  ·rename_i bS
   split
   ·rename_i f cf h1;exact absurd h1 (bS f cf)
   ·rfl
 case alloc zs=>
  simp only[exec,rd]
  split
  ·rename_i n
   simp only[Option.bind_some,fin,St.ct]
   cases σ.ins n (.box zs)<;>rfl
  ·rfl
 case box sz x=>
  simp only[exec,rd]
  split
  ·rename_i n ag cs h1
   simp only[h1]
   split
   ·simp only[Option.bind_some,fin,St.ct]
    cases σ.ins n (.box cs)<;>rfl
   ·rfl
  ·rename_i bS
   split
   ·rename_i n ag cs h1;exact absurd h1 (bS n ag cs rfl)
   ·rfl
 case jC m sz by_ zs l c=>
  simp only[exec,rd]
  split
  ·rename_i n a b h1 h2
   simp only[h1,h2]
   split
   ·simp only[Option.bind_some,fin,St.ct]
    cases σ.ins n (.row true m sz (List.replicate a.toNat zs))<;>rfl
   ·rfl
  ·rename_i bS
   split
   ·rename_i n a b h1 h2;exact absurd h2 (bS n a b rfl h1)
   ·rfl
 case pf f xs=>
  simp only[exec,rd,aa9]
  cases (xs.map σ.ev).mapM (fun v=>match v with|.one c=>if c.kJ=true then none else some c|_=>none) with
  |none=>rfl
  |some cs=>
   simp only
   split<;>rfl
 case mv x=>rfl
 case pick c x y=>
  simp only[exec,rd]
  generalize σ.ev c=v
  cases v with
  |one v=>cases v with
   |c v=>cases v with
    |bool b=>cases b<;>rfl
    |_=>rfl
   |_=>rfl
  |_=>rfl
 case build zs ps=>simp only[exec,rd];cases pC σ.ev zs ps<;>rfl
 case bin op x y=>simp only[exec,rd];cases vH op (σ.ev x) (σ.ev y)<;>rfl
 case me op x y=>simp only[exec,rd];cases Al op (σ.ev x) (σ.ev y)<;>rfl
 case un op x=>simp only[exec,rd];cases Cw op (σ.ev x)<;>rfl
 case conv k x=>
  simp only[exec,rd]
  generalize σ.ev x=v
  cases v with
  |one v=>cases v with
   |c v=>cases v<;>rfl
   |_=>rfl
  |_=>rfl
 case ext i x=>
  simp only[exec,rd]
  generalize σ.ev x=v
  cases v with
  |bo xs=>
   simp only
   cases xs[i]? <;>rfl
  |_=>rfl
 case oM ag off sz x=>
  simp only[exec,rd]
  generalize σ.ev x=v
  cases v with
  |agg cs=>
   simp only
   cases sub cs off sz<;>rfl
  |_=>rfl
 case ou f bN x=>
  simp only[exec,rd]
  generalize σ.ev x=v
  cases v with
  |one v=>cases v with
   |sl n sz lo len=>simp only;split<;>rfl
   |c v=>cases v<;>rfl
   |_=>rfl
  |_=>rfl
 case mm b x y=>
  simp only[exec,rd]
  generalize σ.ev x=v
  generalize σ.ev y=u
  cases v with
  |one v=>cases v with
   |c v=>cases v with
    |int k a=>cases u with
     |one u=>cases u with
      |c u=>cases u with
       |int k' a'=>
        simp only
        cases b
        ·simp only[Bool.false_eq_true,if_false];split<;>rfl
        ·simp only[if_true];split<;>rfl
       |_=>rfl
      |_=>rfl
     |_=>rfl
    |_=>rfl
   |_=>rfl
  |_=>rfl
 case load ag sz x=>
  simp only[exec,rd]
  generalize σ.ev x=v
  cases v with
  |one v=>
   simp only
   cases loadAt σ.h v sz<;>rfl
  |_=>rfl
 case od x=>
  simp only[exec,rd]
  generalize σ.ev x=v
  cases v with
  |one v=>cases v with
   |ptr n k sz off=>simp only;split<;>rfl
   |_=>rfl
  |_=>rfl
 case ao off x=>
  simp only[exec,rd]
  generalize σ.ev x=v
  cases v with
  |one v=>cases v with
   |ptr n k sz off=>simp only;split<;>rfl
   |_=>rfl
  |_=>rfl
 case len x=>
  simp only[exec,rd]
  generalize σ.ev x=v
  cases v with
  |one v=>cases v with
   |sl n sz lo len=>simp only;split<;>rfl
   |c v=>cases v<;>rfl
   |bx n k aD off sz len=>
    simp only
    cases bU σ.h (.bx n k aD off sz len) with
    |none=>rfl
    |some y=>cases y<;>rfl
   |_=>rfl
  |_=>rfl
 case bm sz x i=>
  simp only[exec,rd]
  generalize σ.ev x=v
  generalize (σ.ev i).dh=u
  cases v with
  |one v=>cases v with
   |sl n s lo len=>cases u with
    |none=>rfl
    |some k=>simp only;split<;>rfl
   |c v=>cases v with
    |list s xs=>cases u with
     |none=>rfl
     |some k=>
      simp only
      split
      ·cases xs[k.toNat]? <;>rfl
      ·rfl
    |_=>rfl
   |bx n k aD off s len=>
    cases u with
    |none=>rfl
    |some q=>
     simp only
     cases bU σ.h (.bx n k aD off s len) with
     |none=>rfl
     |some y=>cases y with
      |list s' ys=>simp only;split<;>rfl
      |_=>rfl
   |_=>rfl
  |_=>rfl
 case slice sz x lo hi=>
  cases lo with
  |none=>
   cases hi with
   |none=>
    simp only[exec,rd]
    generalize σ.ev x=v
    cases v with
    |one v=>cases v with
     |sl n s l0 len=>simp only;split<;>rfl
     |c v=>cases v with
      |list s xs=>simp only;split<;>rfl
      |_=>rfl
     |_=>rfl
    |_=>rfl
   |some hi=>
    simp only[exec,rd]
    generalize σ.ev x=v
    generalize (σ.ev hi).dh=q
    cases q with
    |none=>
     cases v with
     |one v=>cases v with
      |c v=>cases v<;>rfl
      |_=>rfl
     |_=>rfl
    |some q=>
     cases v with
     |one v=>cases v with
      |sl n s l0 len=>simp only;split<;>rfl
      |c v=>cases v with
       |list s xs=>simp only;split<;>rfl
       |_=>rfl
      |_=>rfl
     |_=>rfl
  |some lo=>
   cases hi with
   |none=>
    simp only[exec,rd]
    generalize σ.ev x=v
    generalize (σ.ev lo).dh=u
    cases u with
    |none=>
     cases v with
     |one v=>cases v with
      |c v=>cases v<;>rfl
      |_=>rfl
     |_=>rfl
    |some u=>
     cases v with
     |one v=>cases v with
      |sl n s l0 len=>simp only;split<;>rfl
      |c v=>cases v with
       |list s xs=>simp only;split<;>rfl
       |_=>rfl
      |_=>rfl
     |_=>rfl
   |some hi=>
    simp only[exec,rd]
    generalize σ.ev x=v
    generalize (σ.ev lo).dh=u
    generalize (σ.ev hi).dh=q
    cases u with
    |none=>
     cases v with
     |one v=>cases v with
      |c v=>cases v<;>rfl
      |_=>rfl
     |_=>rfl
    |some u=>
     cases q with
     |none=>
      cases v with
      |one v=>cases v with
       |c v=>cases v<;>rfl
       |_=>rfl
      |_=>rfl
     |some q=>
      cases v with
      |one v=>cases v with
       |sl n s l0 len=>simp only;split<;>rfl
       |c v=>cases v with
        |list s xs=>simp only;split<;>rfl
        |_=>rfl
       |_=>rfl
      |_=>rfl
end Go.Am
