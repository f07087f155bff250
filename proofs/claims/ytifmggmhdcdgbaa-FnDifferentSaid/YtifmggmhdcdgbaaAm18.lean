/- Am18: operations that may change places. No condition. -/
import Derived.Test.YtifmggmhdcdgbaaAm17
set_option linter.unusedVariables false
namespace Go.Am
def aC.dH:aC->Nat
 |.mv _|.pick ..|.build ..|.bin ..|.nB ..|.un ..|.conv ..|.ext ..|.lp ..|.mm ..|.oV ..=>0
 |.alloc _|.box ..|.load ..|.gv _|.nb ..|.slice ..|.aq ..|.bY ..|.len _|.lO ..|.call ..|.lT ..|.lS ..=>1
 |_=>2
def St.cH (σ:St):List (Nat×ar)->Option St
 |[]=>some σ
 |(n,b)::l=>match σ.ins n b with
  |some σ1=>σ1.cH l
  |none=>none
def gS (m:Mode):Nat->List C->List ai×Nat×List (Nat×ar)
 |nm,[]=>([],nm,[])
 |nm,.list sz xs::cs=>(.sl nm sz 0 xs.length::(gS m (nm+1) cs).1,(gS m (nm+1) cs).2.1,(nm,.row true m sz xs)::(gS m (nm+1) cs).2.2)
 |nm,x::cs=>(.c x::(gS m nm cs).1,(gS m nm cs).2.1,(gS m nm cs).2.2)
def wK (m:Mode):Nat->List Dv->Option (List (Bool×List ai)×List (Nat×ar))
 |_,[]=>some ([],[])
 |nm,(.ptr,_)::_=>none
 |nm,(k,cs)::ds=>match wK m (gS m nm cs).2.1 ds with
  |some (ls,bs)=>some ((decide (k=.agg),(gS m nm cs).1)::ls,(gS m nm cs).2.2++bs)
  |none=>none
theorem Y9 (σ:St) (l l':List (Nat×ar)):σ.cH (l++l')=(σ.cH l).bind fun σ1=>σ1.cH l':=by
 induction l generalizing σ with
 |nil=>rfl
 |cons x l ih=>
  obtain⟨n,b⟩:=x
  simp only[List.cons_append,St.cH]
  cases σ.ins n b with
  |none=>rfl
  |some σ1=>exact ih σ1
theorem JF (m:Mode):∀(cs:List C) (σ:St) (nm:Nat),σ.imp m nm cs=(σ.cH (gS m nm cs).2.2).map fun σ1=>((gS m nm cs).1,(gS m nm cs).2.1,σ1)
 |[],σ,nm=>rfl
 |.list sz xs::cs,σ,nm=>by
  simp only[St.imp,gS,St.cH]
  cases σ.ins nm (.row true m sz xs) with
  |none=>rfl
  |some σ1=>
   simp only[JF m cs]
   cases σ1.cH (gS m (nm+1) cs).2.2<;>rfl
 |.int k n::cs,σ,nm=>by
  simp only[St.imp,gS,JF m cs]
  cases σ.cH (gS m nm cs).2.2<;>rfl
 |.bool b::cs,σ,nm=>by
  simp only[St.imp,gS,JF m cs]
  cases σ.cH (gS m nm cs).2.2<;>rfl
theorem Pl (m:Mode):∀(ds:List Dv) (σ:St) (nm:Nat),σ.jt m nm ds=(wK m nm ds).bind fun x=>(σ.cH x.2).map fun σ1=>(x.1,σ1)
 |[],σ,nm=>rfl
 |(k,cs)::ds,σ,nm=>by
  have cr:(match σ.imp m nm cs with
    |some (l,eY,σ1)=>match σ1.jt m eY ds with
     |some (ls,σ2)=>some ((decide (k=K.agg),l)::ls,σ2)
     |none=>none
    |none=>none)=(match wK m (gS m nm cs).2.1 ds with
    |some (ls,bs)=>some ((decide (k=K.agg),(gS m nm cs).1)::ls,(gS m nm cs).2.2++bs)
    |none=>none).bind fun x=>(σ.cH x.2).map fun σ1=>(x.1,σ1):=by
   rw[JF]
   have ih:=fun(σ1:St)=>Pl m ds σ1 (gS m nm cs).2.1
   cases h1:σ.cH (gS m nm cs).2.2 with
   |none=>
    cases h2:wK m (gS m nm cs).2.1 ds with
    |none=>rfl
    |some x=>simp[Y9,h1]
   |some σ1=>
    simp only[Option.map_some,ih]
    cases h2:wK m (gS m nm cs).2.1 ds with
    |none=>rfl
    |some x=>
     simp[Y9,h1]
     cases σ1.cH x.2<;>rfl
  cases k with
  |ptr=>rfl
  |one=>exact cr
  |agg=>exact cr
def z9 (T:bj) (m:Mode) (d:Option Nat) (f:FuncId) (as:List aj) (h:Nat->Option ar):Option (aj×List (Nat×ar)):=
 match kj h as with
 |some ds=>match bj.find T.pure f with
  |some M=>match M ds with
   |some rs=>match wK m (y9 d) rs with
    |some (ls,bs)=>some (lN ls,bs)
    |none=>none
   |none=>none
  |none=>none
 |none=>none
def aak (vs:List aj) (f:FuncId):Option aj:=
 match vs.mapM (fun v=>match v with|.one c=>if c.kC=true then none else some c|_=>none) with
 |some cs=>if cs.all ai.EU=true then some (.one (.fn f cs)) else none
 |none=>none
def rd (T:bj) (d:Option Nat) (op:aC) (ev:MO->aj) (h:Nat->Option ar):Option (aj×List (Nat×ar)):=
 match op with
 |.mv x=>some (ev x,[])
 |.pick c x y=>match ev c with
  |.one (.c (.bool b))=>if b=true then some (ev x,[]) else some (ev y,[])
  |_=>none
 |.build zs parts=>match pg ev zs parts with
  |some cs=>some (.agg cs,[])
  |none=>none
 |.bin op x y=>match vQ op (ev x) (ev y) with
  |some c=>some (.one (.c c),[])
  |none=>none
 |.nB op x y=>match z5 op (ev x) (ev y) with
  |some c=>some (.one (.c c),[])
  |none=>none
 |.un op x=>match CE op (ev x) with
  |some c=>some (.one (.c c),[])
  |none=>none
 |.conv k x=>match ev x with
  |.one (.c (.int _ n))=>some (.one (.c (.int k (k.wrap n))),[])
  |_=>none
 |.ext i x=>match ev x with
  |.bn xs=>match xs[i]? with
   |some (ag,cs)=>some (kQ ag cs,[])
   |none=>none
  |_=>none
 |.lp ag off sz x=>match ev x with
  |.agg cs=>match sub cs off sz with
   |some l=>some (kQ ag l,[])
   |none=>none
  |_=>none
 |.lO f bE x=>match ev x with
  |.one (.sl n sz lo len)=>if(h n).isSome=true then some (.agg (kM bE len (.sl n sz lo len)),[]) else none
  |.one (.c (.list sz xs))=>some (.agg (kM bE xs.length (.c (.list sz xs))),[])
  |.one (.nil sz)=>some (.agg (kM bE 0 (.nil sz)),[])
  |_=>none
 |.mm mx x y=>match ev x,ev y with
  |.one (.c (.int k a)),.one (.c (.int k' b))=>if mx=true then(if a<b then some (.one (.c (.int k b)),[]) else some (.one (.c (.int k a)),[]))
   else(if b<a then some (.one (.c (.int k b)),[]) else some (.one (.c (.int k a)),[]))
  |_,_=>none
 |.oV f xs=>match aak (xs.map ev) f with
  |some v=>some (v,[])
  |none=>none
 |.alloc zs=>match d with
  |some n=>some (.one (.ptr n 0 0 0),[(n,.box zs)])
  |none=>none
 |.box sz x=>match d,(ev x).cells? with
  |some n,some (_,cs)=>if cs.length=sz then some (.one (.ptr n 0 0 0),[(n,.box cs)]) else none
  |_,_=>none
 |.load ag sz x=>match ev x with
  |.one p=>match loadAt h p sz with
   |some cs=>some (kQ ag cs,[])
   |none=>none
  |_=>none
 |.gv x=>match ev x with
  |.one (.ptr n k sz off)=>if(h n).isSome=true then some (.one (.ptr n k sz off),[]) else none
  |.one (.ca xs off)=>some (.one (.ca xs off),[])
  |_=>none
 |.nb m sz by_ zs l c=>match d,(ev l).cY,(ev c).cY with
  |some n,some a,some b=>if a<=b/\0<=a/\b.toNat*by_<=dK/\zs.length=sz then
   some (.one (.sl n sz 0 a.toNat),[(n,.row true m sz (List.replicate a.toNat zs))])
   else none
  |_,_,_=>none
 |.slice sz x lo hi=>
  let Qs:Option Int:=match lo with|none=>some 0|some l=>(ev l).cY
  match ev x,Qs with
  |.one (.sl n s l0 len),some l=>
   match(match hi with|none=>some (len:Int)|some h=>(ev h).cY) with
   |some hh=>if s=sz/\0<=l/\l<=hh/\hh<=len/\(h n).isSome=true then some (.one (.sl n s (l0+l.toNat) (hh - l).toNat),[]) else none
   |none=>none
  |.one (.c (.list s xs)),some l=>
   match(match hi with|none=>some (xs.length:Int)|some h=>(ev h).cY) with
   |some hh=>if s=sz/\0<=l/\l<=hh/\hh<=xs.length then some (.one (.c (.list s ((xs.drop l.toNat).take (hh - l).toNat))),[]) else none
   |none=>none
  |_,_=>none
 |.aq off x=>match ev x with
  |.one (.ptr n k sz o)=>if(h n).isSome=true then some (.one (.ptr n k sz (o+off)),[]) else none
  |.one (.ca xs o)=>some (.one (.ca xs (o+off)),[])
  |_=>none
 |.bY sz x i=>match ev x,(ev i).cY with
  |.one (.sl n s lo len),some k=>if s=sz/\0<=k/\k<len/\(h n).isSome=true then some (.one (.ptr n (lo+k.toNat) s 0),[]) else none
  |.one (.c (.list s xs)),some k=>if s=sz/\0<=k then
   match xs[k.toNat]? with
   |some e=>some (.one (.ca e 0),[])
   |none=>none
   else none
  |.one (.bx n kk az off s len),some k=>match bR h (.bx n kk az off s len) with
   |some (.list s' ys)=>if s'=sz/\0<=k/\k<ys.length then some (.one (.cD n kk az off sz k.toNat),[]) else none
   |_=>none
  |_,_=>none
 |.len x=>match ev x with
  |.one (.sl n sz lo len)=>if(h n).isSome=true then some (.one (.c (.int .i64 len)),[]) else none
  |.one (.c (.list sz xs))=>some (.one (.c (.int .i64 xs.length)),[])
  |.one (.nil sz)=>some (.one (.c (.int .i64 0)),[])
  |.one (.bx n k az off sz len)=>match bR h (.bx n k az off sz len) with
   |some (.list s ys)=>some (.one (.c (.int .i64 ys.length)),[])
   |_=>none
  |_=>none
 |.call m f xs=>z9 T m d f (xs.map ev) h
 |.lS f xs=>(t9 T f (xs.map ev) h).map fun v=>(v,[])
 |.lT m x xs=>match ev x with
  |.one (.fn f bW)=>z9 T m d f (xs.map ev++bW.map .one) h
  |_=>none
 |_=>none
def gB (d:Option Nat) (σ:St) (x:aj×List (Nat×ar)):Option St:=(σ.cH x.2).map (·.put d x.1)
theorem WA (T:bj) (m:Mode) (d:Option Nat) (f:FuncId) (as:List aj) (σ:St):qR T m d f as σ=(z9 T m d f as σ.h).bind (gB d σ):=by
 unfold qR z9
 cases kj σ.h as with
 |none=>rfl
 |some ds=>
  simp only
  cases bj.find T.pure f with
  |none=>rfl
  |some M=>
   simp only
   cases M ds with
   |none=>rfl
   |some rs=>
    simp only[Pl]
    cases wK m (y9 d) rs with
    |none=>rfl
    |some x=>
     simp only[Option.bind_some,gB]
     cases σ.cH x.2<;>rfl
theorem pE (T:bj) (d:Option Nat) (op:aC) (σ:St) (hc:op.dH<=1):aG T d op σ=(rd T d op σ.ev σ.h).bind (gB d σ):=by
 cases op<;>simp only[aC.dH] at hc<;>first|omega|skip
 case call m f xs=>exact WA _ _ _ _ _ _
 case lS f xs=>
  simp only[aG,rd]
  cases t9 T f (xs.map σ.ev) σ.h with
  |none=>rfl
  |some v=>rfl
 case lT m x xs=>
  simp only[aG,rd]
  split
  ·rename_i f bW h1
   simp only[h1]
   exact WA _ _ _ _ _ _
  ·rename_i cb
   split
   ·rename_i f bW h1;exact absurd h1 (cb f bW)
   ·rfl
 case alloc zs=>
  simp only[aG,rd]
  split
  ·rename_i n
   simp only[Option.bind_some,gB,St.cH]
   cases σ.ins n (.box zs)<;>rfl
  ·rfl
 case box sz x=>
  simp only[aG,rd]
  split
  ·rename_i n ag cs h1
   simp only[h1]
   split
   ·simp only[Option.bind_some,gB,St.cH]
    cases σ.ins n (.box cs)<;>rfl
   ·rfl
  ·rename_i cb
   split
   ·rename_i n ag cs h1;exact absurd h1 (cb n ag cs rfl)
   ·rfl
 case nb m sz by_ zs l c=>
  simp only[aG,rd]
  split
  ·rename_i n a b h1 h2
   simp only[h1,h2]
   split
   ·simp only[Option.bind_some,gB,St.cH]
    cases σ.ins n (.row true m sz (List.replicate a.toNat zs))<;>rfl
   ·rfl
  ·rename_i cb
   split
   ·rename_i n a b h1 h2;exact absurd h2 (cb n a b rfl h1)
   ·rfl
 case oV f xs=>
  simp only[aG,rd,aak]
  cases (xs.map σ.ev).mapM (fun v=>match v with|.one c=>if c.kC=true then none else some c|_=>none) with
  |none=>rfl
  |some cs=>
   simp only
   split<;>rfl
 case mv x=>rfl
 case pick c x y=>
  simp only[aG,rd]
  generalize σ.ev c=v
  cases v with
  |one v=>cases v with
   |c v=>cases v with
    |bool b=>cases b<;>rfl
    |_=>rfl
   |_=>rfl
  |_=>rfl
 case build zs ps=>simp only[aG,rd];cases pg σ.ev zs ps<;>rfl
 case bin op x y=>simp only[aG,rd];cases vQ op (σ.ev x) (σ.ev y)<;>rfl
 case nB op x y=>simp only[aG,rd];cases z5 op (σ.ev x) (σ.ev y)<;>rfl
 case un op x=>simp only[aG,rd];cases CE op (σ.ev x)<;>rfl
 case conv k x=>
  simp only[aG,rd]
  generalize σ.ev x=v
  cases v with
  |one v=>cases v with
   |c v=>cases v<;>rfl
   |_=>rfl
  |_=>rfl
 case ext i x=>
  simp only[aG,rd]
  generalize σ.ev x=v
  cases v with
  |bn xs=>
   simp only
   cases xs[i]? <;>rfl
  |_=>rfl
 case lp ag off sz x=>
  simp only[aG,rd]
  generalize σ.ev x=v
  cases v with
  |agg cs=>
   simp only
   cases sub cs off sz<;>rfl
  |_=>rfl
 case lO f bE x=>
  simp only[aG,rd]
  generalize σ.ev x=v
  cases v with
  |one v=>cases v with
   |sl n sz lo len=>simp only;split<;>rfl
   |c v=>cases v<;>rfl
   |_=>rfl
  |_=>rfl
 case mm b x y=>
  simp only[aG,rd]
  generalize σ.ev x=v
  generalize σ.ev y=u
  cases v with
  |one v=>cases v with
   |c v=>cases v with
    |int k a=>cases u with
     |one u=>cases u with
      |c u=>cases u with
       |int k' a'=>
        simp only
        cases b
        ·simp only[Bool.false_eq_true,if_false];split<;>rfl
        ·simp only[if_true];split<;>rfl
       |_=>rfl
      |_=>rfl
     |_=>rfl
    |_=>rfl
   |_=>rfl
  |_=>rfl
 case load ag sz x=>
  simp only[aG,rd]
  generalize σ.ev x=v
  cases v with
  |one v=>
   simp only
   cases loadAt σ.h v sz<;>rfl
  |_=>rfl
 case gv x=>
  simp only[aG,rd]
  generalize σ.ev x=v
  cases v with
  |one v=>cases v with
   |ptr n k sz off=>simp only;split<;>rfl
   |_=>rfl
  |_=>rfl
 case aq off x=>
  simp only[aG,rd]
  generalize σ.ev x=v
  cases v with
  |one v=>cases v with
   |ptr n k sz off=>simp only;split<;>rfl
   |_=>rfl
  |_=>rfl
 case len x=>
  simp only[aG,rd]
  generalize σ.ev x=v
  cases v with
  |one v=>cases v with
   |sl n sz lo len=>simp only;split<;>rfl
   |c v=>cases v<;>rfl
   |bx n k az off sz len=>
    simp only
    cases bR σ.h (.bx n k az off sz len) with
    |none=>rfl
    |some y=>cases y<;>rfl
   |_=>rfl
  |_=>rfl
 case bY sz x i=>
  simp only[aG,rd]
  generalize σ.ev x=v
  generalize (σ.ev i).cY=u
  cases v with
  |one v=>cases v with
   |sl n s lo len=>cases u with
    |none=>rfl
    |some k=>simp only;split<;>rfl
   |c v=>cases v with
    |list s xs=>cases u with
     |none=>rfl
     |some k=>
      simp only
      split
      ·cases xs[k.toNat]? <;>rfl
      ·rfl
    |_=>rfl
   |bx n k az off s len=>
    cases u with
    |none=>rfl
    |some q=>
     simp only
     cases bR σ.h (.bx n k az off s len) with
     |none=>rfl
     |some y=>cases y with
      |list s' ys=>simp only;split<;>rfl
      |_=>rfl
   |_=>rfl
  |_=>rfl
 case slice sz x lo hi=>
  cases lo with
  |none=>
   cases hi with
   |none=>
    simp only[aG,rd]
    generalize σ.ev x=v
    cases v with
    |one v=>cases v with
     |sl n s l0 len=>simp only;split<;>rfl
     |c v=>cases v with
      |list s xs=>simp only;split<;>rfl
      |_=>rfl
     |_=>rfl
    |_=>rfl
   |some hi=>
    simp only[aG,rd]
    generalize σ.ev x=v
    generalize (σ.ev hi).cY=q
    cases q with
    |none=>
     cases v with
     |one v=>cases v with
      |c v=>cases v<;>rfl
      |_=>rfl
     |_=>rfl
    |some q=>
     cases v with
     |one v=>cases v with
      |sl n s l0 len=>simp only;split<;>rfl
      |c v=>cases v with
       |list s xs=>simp only;split<;>rfl
       |_=>rfl
      |_=>rfl
     |_=>rfl
  |some lo=>
   cases hi with
   |none=>
    simp only[aG,rd]
    generalize σ.ev x=v
    generalize (σ.ev lo).cY=u
    cases u with
    |none=>
     cases v with
     |one v=>cases v with
      |c v=>cases v<;>rfl
      |_=>rfl
     |_=>rfl
    |some u=>
     cases v with
     |one v=>cases v with
      |sl n s l0 len=>simp only;split<;>rfl
      |c v=>cases v with
       |list s xs=>simp only;split<;>rfl
       |_=>rfl
      |_=>rfl
     |_=>rfl
   |some hi=>
    simp only[aG,rd]
    generalize σ.ev x=v
    generalize (σ.ev lo).cY=u
    generalize (σ.ev hi).cY=q
    cases u with
    |none=>
     cases v with
     |one v=>cases v with
      |c v=>cases v<;>rfl
      |_=>rfl
     |_=>rfl
    |some u=>
     cases q with
     |none=>
      cases v with
      |one v=>cases v with
       |c v=>cases v<;>rfl
       |_=>rfl
      |_=>rfl
     |some q=>
      cases v with
      |one v=>cases v with
       |sl n s l0 len=>simp only;split<;>rfl
       |c v=>cases v with
        |list s xs=>simp only;split<;>rfl
        |_=>rfl
       |_=>rfl
      |_=>rfl
end Go.Am
