/- Am18: operations that may change places. No condition. -/
import Derived.Test.YtbgmbplglejidaaAm17
set_option linter.unusedVariables false
namespace Go.Am
def aH.dI:aH->Nat
 |.mv _|.pick ..|.build ..|.bin ..|.pj ..|.un ..|.conv ..|.ext ..|.pz ..|.mm ..|.pU ..=>0
 |.alloc _|.box ..|.load ..|.gR _|.kc ..|.slice ..|.ar ..|.cb ..|.len _|.oW ..|.call ..|.mQ ..|.mP ..|.mR ..|.lZ ..=>1
 |_=>2
def St.cD (σ:St):List (Nat×ao)->Option St
 |[]=>some σ
 |(n,b)::l=>match σ.ins n b with
  |some σ1=>σ1.cD l
  |none=>none
def il (m:Mode):Nat->List C->List ah×Nat×List (Nat×ao)
 |nm,[]=>([],nm,[])
 |nm,.list sz xs::cs=>(.sl nm sz 0 xs.length::(il m (nm+1) cs).1,(il m (nm+1) cs).2.1,(nm,.row true m sz xs)::(il m (nm+1) cs).2.2)
 |nm,x::cs=>(.c x::(il m nm cs).1,(il m nm cs).2.1,(il m nm cs).2.2)
def wO (m:Mode):Nat->List Dv->Option (List (Bool×List ah)×List (Nat×ao))
 |_,[]=>some ([],[])
 |nm,(.ptr,_)::_=>none
 |nm,(k,cs)::ds=>match wO m (il m nm cs).2.1 ds with
  |some (ls,bs)=>some ((decide (k=.agg),(il m nm cs).1)::ls,(il m nm cs).2.2++bs)
  |none=>none
theorem aaj (σ:St) (l l':List (Nat×ao)):σ.cD (l++l')=(σ.cD l).bind fun σ1=>σ1.cD l':=by
 induction l generalizing σ with
 |nil=>rfl
 |cons x l ih=>
  obtain⟨n,b⟩:=x
  simp only[List.cons_append,St.cD]
  cases σ.ins n b with
  |none=>rfl
  |some σ1=>exact ih σ1
theorem JS (m:Mode):∀(cs:List C) (σ:St) (nm:Nat),σ.imp m nm cs=(σ.cD (il m nm cs).2.2).map fun σ1=>((il m nm cs).1,(il m nm cs).2.1,σ1)
 |[],σ,nm=>rfl
 |.list sz xs::cs,σ,nm=>by
  simp only[St.imp,il,St.cD]
  cases σ.ins nm (.row true m sz xs) with
  |none=>rfl
  |some σ1=>
   simp only[JS m cs]
   cases σ1.cD (il m (nm+1) cs).2.2<;>rfl
 |.int k n::cs,σ,nm=>by
  simp only[St.imp,il,JS m cs]
  cases σ.cD (il m nm cs).2.2<;>rfl
 |.bool b::cs,σ,nm=>by
  simp only[St.imp,il,JS m cs]
  cases σ.cD (il m nm cs).2.2<;>rfl
theorem P2 (m:Mode):∀(ds:List Dv) (σ:St) (nm:Nat),σ.jK m nm ds=(wO m nm ds).bind fun x=>(σ.cD x.2).map fun σ1=>(x.1,σ1)
 |[],σ,nm=>rfl
 |(k,cs)::ds,σ,nm=>by
  have ca:(match σ.imp m nm cs with
    |some (l,ft,σ1)=>match σ1.jK m ft ds with
     |some (ls,σ2)=>some ((decide (k=K.agg),l)::ls,σ2)
     |none=>none
    |none=>none)=(match wO m (il m nm cs).2.1 ds with
    |some (ls,bs)=>some ((decide (k=K.agg),(il m nm cs).1)::ls,(il m nm cs).2.2++bs)
    |none=>none).bind fun x=>(σ.cD x.2).map fun σ1=>(x.1,σ1):=by
   rw[JS]
   have ih:=fun(σ1:St)=>P2 m ds σ1 (il m nm cs).2.1
   cases h1:σ.cD (il m nm cs).2.2 with
   |none=>
    cases h2:wO m (il m nm cs).2.1 ds with
    |none=>rfl
    |some x=>simp[aaj,h1]
   |some σ1=>
    simp only[Option.map_some,ih]
    cases h2:wO m (il m nm cs).2.1 ds with
    |none=>rfl
    |some x=>
     simp[aaj,h1]
     cases σ1.cD x.2<;>rfl
  cases k with
  |ptr=>rfl
  |one=>exact ca
  |agg=>exact ca
def AP (T:aO) (m:Mode) (d:Option Nat) (f:FuncId) (as:List aj) (h:Nat->Option ao):Option (aj×List (Nat×ao)):=
 match kO h as with
 |some ds=>match aO.find T.pure f with
  |some M=>match M ds with
   |some rs=>match wO m (zp d) rs with
    |some (ls,bs)=>some (lH ls,bs)
    |none=>none
   |none=>none
  |none=>none
 |none=>none
def aa3 (vs:List aj) (f:FuncId):Option aj:=
 match vs.mapM (fun v=>match v with|.one c=>if c.lv=true then none else some c|_=>none) with
 |some cs=>if cs.all ah.Ff=true then some (.one (.fn f cs)) else none
 |none=>none
def rd (T:aO) (d:Option Nat) (op:aH) (ev:MO->aj) (h:Nat->Option ao):Option (aj×List (Nat×ao)):=
 match op with
 |.mv x=>some (ev x,[])
 |.pick c x y=>match ev c with
  |.one (.c (.bool b))=>if b=true then some (ev x,[]) else some (ev y,[])
  |_=>none
 |.build zs parts=>match qf ev zs parts with
  |some cs=>some (.agg cs,[])
  |none=>none
 |.bin op x y=>match vT op (ev x) (ev y) with
  |some c=>some (.one (.c c),[])
  |none=>none
 |.pj op x y=>match AG op (ev x) (ev y) with
  |some c=>some (.one (.c c),[])
  |none=>none
 |.un op x=>match C1 op (ev x) with
  |some c=>some (.one (.c c),[])
  |none=>none
 |.conv k x=>match ev x with
  |.one (.c (.int _ n))=>some (.one (.c (.int k (k.wrap n))),[])
  |_=>none
 |.ext i x=>match ev x with
  |.bq xs=>match xs[i]? with
   |some (ag,cs)=>some (lO ag cs,[])
   |none=>none
  |_=>none
 |.pz ag off sz x=>match ev x with
  |.agg cs=>match sub cs off sz with
   |some l=>some (lO ag l,[])
   |none=>none
  |_=>none
 |.oW f bK x=>match ev x with
  |.one (.sl n sz lo len)=>if(h n).isSome=true then some (.agg (lJ bK len (.sl n sz lo len)),[]) else none
  |.one (.c (.list sz xs))=>some (.agg (lJ bK xs.length (.c (.list sz xs))),[])
  |.one (.nil sz)=>some (.agg (lJ bK 0 (.nil sz)),[])
  |_=>none
 |.mm mx x y=>match ev x,ev y with
  |.one (.c (.int k a)),.one (.c (.int k' b))=>if mx=true then(if a<b then some (.one (.c (.int k b)),[]) else some (.one (.c (.int k a)),[]))
   else(if b<a then some (.one (.c (.int k b)),[]) else some (.one (.c (.int k a)),[]))
  |_,_=>none
 |.pU f xs=>match aa3 (xs.map ev) f with
  |some v=>some (v,[])
  |none=>none
 |.alloc zs=>match d with
  |some n=>some (.one (.ptr n 0 0 0),[(n,.box zs)])
  |none=>none
 |.box sz x=>match d,(ev x).cells? with
  |some n,some (_,cs)=>if cs.length=sz then some (.one (.ptr n 0 0 0),[(n,.box cs)]) else none
  |_,_=>none
 |.load ag sz x=>match ev x with
  |.one p=>match loadAt h p sz with
   |some cs=>some (lO ag cs,[])
   |none=>none
  |_=>none
 |.gR x=>match ev x with
  |.one (.ptr n k sz off)=>if(h n).isSome=true then some (.one (.ptr n k sz off),[]) else none
  |.one (.cB xs off)=>some (.one (.cB xs off),[])
  |_=>none
 |.kc m sz by_ zs l c=>match d,(ev l).dj,(ev c).dj with
  |some n,some a,some b=>if a<=b/\0<=a/\b.toNat*by_<=dK/\zs.length=sz then
   some (.one (.sl n sz 0 a.toNat),[(n,.row true m sz (List.replicate a.toNat zs))])
   else none
  |_,_,_=>none
 |.slice sz x lo hi=>
  let QE:Option Int:=match lo with|none=>some 0|some l=>(ev l).dj
  match ev x,QE with
  |.one (.sl n s l0 len),some l=>
   match(match hi with|none=>some (len:Int)|some h=>(ev h).dj) with
   |some hh=>if s=sz/\0<=l/\l<=hh/\hh<=len/\(h n).isSome=true then some (.one (.sl n s (l0+l.toNat) (hh - l).toNat),[]) else none
   |none=>none
  |.one (.c (.list s xs)),some l=>
   match(match hi with|none=>some (xs.length:Int)|some h=>(ev h).dj) with
   |some hh=>if s=sz/\0<=l/\l<=hh/\hh<=xs.length then some (.one (.c (.list s ((xs.drop l.toNat).take (hh - l).toNat))),[]) else none
   |none=>none
  |_,_=>none
 |.ar off x=>match ev x with
  |.one (.ptr n k sz o)=>if(h n).isSome=true then some (.one (.ptr n k sz (o+off)),[]) else none
  |.one (.cB xs o)=>some (.one (.cB xs (o+off)),[])
  |_=>none
 |.cb sz x i=>match ev x,(ev i).dj with
  |.one (.sl n s lo len),some k=>if s=sz/\0<=k/\k<len/\(h n).isSome=true then some (.one (.ptr n (lo+k.toNat) s 0),[]) else none
  |.one (.c (.list s xs)),some k=>if s=sz/\0<=k then
   match xs[k.toNat]? with
   |some e=>some (.one (.cB e 0),[])
   |none=>none
   else none
  |.one (.bx n kk aA off s len),some k=>match cq h (.bx n kk aA off s len) with
   |some (.list s' ys)=>if s'=sz/\0<=k/\k<ys.length then some (.one (.cV n kk aA off sz k.toNat),[]) else none
   |_=>none
  |_,_=>none
 |.len x=>match ev x with
  |.one (.sl n sz lo len)=>if(h n).isSome=true then some (.one (.c (.int .i64 len)),[]) else none
  |.one (.c (.list sz xs))=>some (.one (.c (.int .i64 xs.length)),[])
  |.one (.nil sz)=>some (.one (.c (.int .i64 0)),[])
  |.one (.bx n k aA off sz len)=>match cq h (.bx n k aA off sz len) with
   |some (.list s ys)=>some (.one (.c (.int .i64 ys.length)),[])
   |_=>none
  |_=>none
 |.call m f xs=>AP T m d f (xs.map ev) h
 |.mP f xs=>(tZ T f (xs.map ev) h).map fun v=>(v,[])
 |.mR f xs=>(pq T f (xs.map ev) h).map fun v=>(v,[])
 |.lZ f xs=>(ye T f (xs.map ev)).map fun v=>(v,[])
 |.mQ m x xs=>match ev x with
  |.one (.fn f cA)=>AP T m d f (xs.map ev++cA.map .one) h
  |_=>none
 |_=>none
def fin (d:Option Nat) (σ:St) (x:aj×List (Nat×ao)):Option St:=(σ.cD x.2).map (·.put d x.1)
theorem XX (T:aO) (m:Mode) (d:Option Nat) (f:FuncId) (as:List aj) (σ:St):rQ T m d f as σ=(AP T m d f as σ.h).bind (fin d σ):=by
 unfold rQ AP
 cases kO σ.h as with
 |none=>rfl
 |some ds=>
  simp only
  cases aO.find T.pure f with
  |none=>rfl
  |some M=>
   simp only
   cases M ds with
   |none=>rfl
   |some rs=>
    simp only[P2]
    cases wO m (zp d) rs with
    |none=>rfl
    |some x=>
     simp only[Option.bind_some,fin]
     cases σ.cD x.2<;>rfl
theorem pu (T:aO) (d:Option Nat) (op:aH) (σ:St) (hc:op.dI<=1):exec T d op σ=(rd T d op σ.ev σ.h).bind (fin d σ):=by
 cases op<;>simp only[aH.dI] at hc<;>first|omega|skip
 case call m f xs=>exact XX _ _ _ _ _ _
 case mP f xs=>
  simp only[exec,rd]
  cases tZ T f (xs.map σ.ev) σ.h with
  |none=>rfl
  |some v=>rfl
 case mR f xs=>
  simp only[exec,rd]
  cases pq T f (xs.map σ.ev) σ.h with
  |none=>rfl
  |some v=>rfl
 case lZ f xs=>
  simp only[exec,rd]
  cases ye T f (xs.map σ.ev) with
  |none=>rfl
  |some v=>rfl
 case mQ m x xs=>
  simp only[exec,rd]
  split
  ·rename_i f cA h1
   simp only[h1]
   exact XX _ _ _ _ _ _
  ·rename_i cf
   split
   ·rename_i f cA h1;exact absurd h1 (cf f cA)
   ·rfl
 case alloc zs=>
  simp only[exec,rd]
  split
  ·rename_i n
   simp only[Option.bind_some,fin,St.cD]
   cases σ.ins n (.box zs)<;>rfl
  ·rfl
 case box sz x=>
  simp only[exec,rd]
  split
  ·rename_i n ag cs h1
   simp only[h1]
   split
   ·simp only[Option.bind_some,fin,St.cD]
    cases σ.ins n (.box cs)<;>rfl
   ·rfl
  ·rename_i cf
   split
   ·rename_i n ag cs h1;exact absurd h1 (cf n ag cs rfl)
   ·rfl
 case kc m sz by_ zs l c=>
  simp only[exec,rd]
  split
  ·rename_i n a b h1 h2
   simp only[h1,h2]
   split
   ·simp only[Option.bind_some,fin,St.cD]
    cases σ.ins n (.row true m sz (List.replicate a.toNat zs))<;>rfl
   ·rfl
  ·rename_i cf
   split
   ·rename_i n a b h1 h2;exact absurd h2 (cf n a b rfl h1)
   ·rfl
 case pU f xs=>
  simp only[exec,rd,aa3]
  cases (xs.map σ.ev).mapM (fun v=>match v with|.one c=>if c.lv=true then none else some c|_=>none) with
  |none=>rfl
  |some cs=>
   simp only
   split<;>rfl
 case mv x=>rfl
 case pick c x y=>
  simp only[exec,rd]
  generalize σ.ev c=v
  cases v with
  |one v=>cases v with
   |c v=>cases v with
    |bool b=>cases b<;>rfl
    |_=>rfl
   |_=>rfl
  |_=>rfl
 case build zs ps=>simp only[exec,rd];cases qf σ.ev zs ps<;>rfl
 case bin op x y=>simp only[exec,rd];cases vT op (σ.ev x) (σ.ev y)<;>rfl
 case pj op x y=>simp only[exec,rd];cases AG op (σ.ev x) (σ.ev y)<;>rfl
 case un op x=>simp only[exec,rd];cases C1 op (σ.ev x)<;>rfl
 case conv k x=>
  simp only[exec,rd]
  generalize σ.ev x=v
  cases v with
  |one v=>cases v with
   |c v=>cases v<;>rfl
   |_=>rfl
  |_=>rfl
 case ext i x=>
  simp only[exec,rd]
  generalize σ.ev x=v
  cases v with
  |bq xs=>
   simp only
   cases xs[i]? <;>rfl
  |_=>rfl
 case pz ag off sz x=>
  simp only[exec,rd]
  generalize σ.ev x=v
  cases v with
  |agg cs=>
   simp only
   cases sub cs off sz<;>rfl
  |_=>rfl
 case oW f bK x=>
  simp only[exec,rd]
  generalize σ.ev x=v
  cases v with
  |one v=>cases v with
   |sl n sz lo len=>simp only;split<;>rfl
   |c v=>cases v<;>rfl
   |_=>rfl
  |_=>rfl
 case mm b x y=>
  simp only[exec,rd]
  generalize σ.ev x=v
  generalize σ.ev y=u
  cases v with
  |one v=>cases v with
   |c v=>cases v with
    |int k a=>cases u with
     |one u=>cases u with
      |c u=>cases u with
       |int k' a'=>
        simp only
        cases b
        ·simp only[Bool.false_eq_true,if_false];split<;>rfl
        ·simp only[if_true];split<;>rfl
       |_=>rfl
      |_=>rfl
     |_=>rfl
    |_=>rfl
   |_=>rfl
  |_=>rfl
 case load ag sz x=>
  simp only[exec,rd]
  generalize σ.ev x=v
  cases v with
  |one v=>
   simp only
   cases loadAt σ.h v sz<;>rfl
  |_=>rfl
 case gR x=>
  simp only[exec,rd]
  generalize σ.ev x=v
  cases v with
  |one v=>cases v with
   |ptr n k sz off=>simp only;split<;>rfl
   |_=>rfl
  |_=>rfl
 case ar off x=>
  simp only[exec,rd]
  generalize σ.ev x=v
  cases v with
  |one v=>cases v with
   |ptr n k sz off=>simp only;split<;>rfl
   |_=>rfl
  |_=>rfl
 case len x=>
  simp only[exec,rd]
  generalize σ.ev x=v
  cases v with
  |one v=>cases v with
   |sl n sz lo len=>simp only;split<;>rfl
   |c v=>cases v<;>rfl
   |bx n k aA off sz len=>
    simp only
    cases cq σ.h (.bx n k aA off sz len) with
    |none=>rfl
    |some y=>cases y<;>rfl
   |_=>rfl
  |_=>rfl
 case cb sz x i=>
  simp only[exec,rd]
  generalize σ.ev x=v
  generalize (σ.ev i).dj=u
  cases v with
  |one v=>cases v with
   |sl n s lo len=>cases u with
    |none=>rfl
    |some k=>simp only;split<;>rfl
   |c v=>cases v with
    |list s xs=>cases u with
     |none=>rfl
     |some k=>
      simp only
      split
      ·cases xs[k.toNat]? <;>rfl
      ·rfl
    |_=>rfl
   |bx n k aA off s len=>
    cases u with
    |none=>rfl
    |some q=>
     simp only
     cases cq σ.h (.bx n k aA off s len) with
     |none=>rfl
     |some y=>cases y with
      |list s' ys=>simp only;split<;>rfl
      |_=>rfl
   |_=>rfl
  |_=>rfl
 case slice sz x lo hi=>
  cases lo with
  |none=>
   cases hi with
   |none=>
    simp only[exec,rd]
    generalize σ.ev x=v
    cases v with
    |one v=>cases v with
     |sl n s l0 len=>simp only;split<;>rfl
     |c v=>cases v with
      |list s xs=>simp only;split<;>rfl
      |_=>rfl
     |_=>rfl
    |_=>rfl
   |some hi=>
    simp only[exec,rd]
    generalize σ.ev x=v
    generalize (σ.ev hi).dj=q
    cases q with
    |none=>
     cases v with
     |one v=>cases v with
      |c v=>cases v<;>rfl
      |_=>rfl
     |_=>rfl
    |some q=>
     cases v with
     |one v=>cases v with
      |sl n s l0 len=>simp only;split<;>rfl
      |c v=>cases v with
       |list s xs=>simp only;split<;>rfl
       |_=>rfl
      |_=>rfl
     |_=>rfl
  |some lo=>
   cases hi with
   |none=>
    simp only[exec,rd]
    generalize σ.ev x=v
    generalize (σ.ev lo).dj=u
    cases u with
    |none=>
     cases v with
     |one v=>cases v with
      |c v=>cases v<;>rfl
      |_=>rfl
     |_=>rfl
    |some u=>
     cases v with
     |one v=>cases v with
      |sl n s l0 len=>simp only;split<;>rfl
      |c v=>cases v with
       |list s xs=>simp only;split<;>rfl
       |_=>rfl
      |_=>rfl
     |_=>rfl
   |some hi=>
    simp only[exec,rd]
    generalize σ.ev x=v
    generalize (σ.ev lo).dj=u
    generalize (σ.ev hi).dj=q
    cases u with
    |none=>
     cases v with
     |one v=>cases v with
      |c v=>cases v<;>rfl
      |_=>rfl
     |_=>rfl
    |some u=>
     cases q with
     |none=>
      cases v with
      |one v=>cases v with
       |c v=>cases v<;>rfl
       |_=>rfl
      |_=>rfl
     |some q=>
      cases v with
      |one v=>cases v with
       |sl n s l0 len=>simp only;split<;>rfl
       |c v=>cases v with
        |list s xs=>simp only;split<;>rfl
        |_=>rfl
       |_=>rfl
      |_=>rfl
end Go.Am
