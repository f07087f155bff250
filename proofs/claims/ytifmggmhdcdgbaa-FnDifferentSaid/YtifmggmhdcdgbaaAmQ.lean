/- AmP, AmQ: parts of the proof. No condition. -/
import Derived.Test.YtifmggmhdcdgbaaAm21
set_option linter.unusedVariables false
set_option linter.unusedSimpArgs false
section
namespace Go.Am
theorem ai.alU {c:ai} {m:Nat}:m∈c.rI↔c.ik m:=by
 cases c<;>simp[ai.rI,ai.ik]
theorem ai.ER {c:ai} {m:Nat}:m∈c.nm↔c.ref m:=by
 cases c with
 |fn f bW=>simp[ai.nm,ai.ref,List.mem_flatMap,ai.alU]
 |_=>simp[ai.nm,ai.rI,ai.ref,ai.ik]
theorem aj.zb {v:aj} {m:Nat}:m∈v.ga↔v.ref m:=by
 cases v with
 |one c=>exact ai.ER
 |agg cs=>simp[aj.ga,aj.ref,List.mem_flatMap,ai.ER]
 |bn xs=>simp only[aj.ga,aj.ref,List.mem_flatMap,ai.ER]
theorem oU {op:aC} {ev:MO->aj} {n:Nat}:n∈op.iJ ev↔∃a∈op.args,(ev a).ref n:=by
 simp[aC.iJ,List.mem_flatMap,aj.zb]
theorem Kl {op:aC} {ev:MO->aj} {h:Nat->Option ar} {n:Nat} (hn:n∈op.iJ ev):n∈op.lM ev h:=by
 unfold aC.lM
 cases op.Et with
 |true=>exact List.mem_append.2 (.inl hn)
 |false=>exact hn
theorem acO {op:aC} {ev:MO->aj} {h:Nat->Option ar} {ws:List Nat} (hw:op.jU ev h=some ws) {n:Nat} (hn:n∈ws):n∈op.iJ ev:=by
 cases op<;>simp only[aC.jU] at hw<;>first|(cases hw;cases hn)|(cases hw;done)|skip
 case store sz x v=>
  split at hw
  ·rename_i q _ _ _ hx
   have hq:q∈(aC.store sz x v).iJ ev:=oU.2 ⟨x,by simp[aC.args],by rw[hx];exact rfl⟩
   split at hw
   ·injection hw with hw;subst hw;simp at hn;subst hn;exact hq
   ·injection hw with hw;subst hw
    rcases List.mem_cons.1 hn with rfl|hn
    ·exact hq
    ·exact oU.2 ⟨v,by simp[aC.args],aj.zb.1 hn⟩
   ·cases hw
  ·rename_i q _ _ _ _ _ hx
   have hq:q∈(aC.store sz x v).iJ ev:=oU.2 ⟨x,by simp[aC.args],by rw[hx];exact rfl⟩
   injection hw with hw;subst hw;simp at hn;subst hn;exact hq
  ·cases hw
 case copy sz x y=>
  split at hw
  ·rename_i q _ _ _ hx
   injection hw with hw;subst hw;simp at hn;subst hn
   exact oU.2 ⟨x,by simp[aC.args],by rw[hx];exact rfl⟩
  ·cases hw
 case kt z x=>
  split at hw
  ·rename_i q _ _ _ hx
   injection hw with hw;subst hw;simp at hn;subst hn
   exact oU.2 ⟨x,by simp[aC.args],by rw[hx];exact rfl⟩
  ·cases hw
 case dM sz ps=>
  injection hw with hw
  subst hw
  obtain⟨a,ha,hn⟩:=List.mem_flatMap.1 hn
  exact oU.2 ⟨a,ha,aj.zb.1 hn⟩
 case dC f xs=>
  injection hw with hw
  subst hw
  obtain⟨a,ha,hn⟩:=List.mem_flatMap.1 hn
  exact oU.2 ⟨a,ha,aj.zb.1 hn⟩
 case append fl sz by_ x y=>
  injection hw with hw
  subst hw
  rcases List.mem_append.1 hn with hn|hn
  ·exact oU.2 ⟨x,by simp[aC.args],aj.zb.1 hn⟩
  ·exact oU.2 ⟨y,by simp[aC.args],aj.zb.1 hn⟩
def St.cV (σ:St):List (Nat×Option ar)->St
 |[]=>σ
 |(n,b)::l=>St.cV {σ with h:=aw σ.h n b} l
def df (h:Nat->Option ar):List (Nat×Option ar)->(Nat->Option ar)
 |[]=>h
 |(n,b)::l=>df (aw h n b) l
theorem kR:∀(l:List (Nat×Option ar)) (σ:St),σ.cV l={σ with h:=df σ.h l}
 |[],σ=>rfl
 |(n,b)::l,σ=>by simp only[St.cV,df];rw[kR l]
theorem np:∀{l:List (Nat×Option ar)} {h:Nat->Option ar} {n:Nat},(∀p∈l,p.1≠n)->df h l n=h n
 |[],h,n,_=>rfl
 |(m,b)::l,h,n,hn=>by
  simp only[df]
  rw[np fun p hp=>hn p (List.mem_cons_of_mem _ hp)]
  exact bZ _ _ _ _ (fun e=>hn (m,b) (by simp) e.symm)
theorem aoC (h:Nat->Option ar) (l l':List (Nat×Option ar)):df h (l++l')=df (df h l) l':=by
 induction l generalizing h with
 |nil=>rfl
 |cons x l ih=>obtain⟨n,b⟩:=x;exact ih _
theorem CF (σ:St) (l l':List (Nat×Option ar)):σ.cV (l++l')=(σ.cV l).cV l':=by
 simp only[kR,aoC]
theorem FK:∀{l:List (Nat×Option ar)} {h h':Nat->Option ar} {n:Nat},(∃p∈l,p.1=n)->df h l n=df h' l n
 |[],h,h',n,hn=>by obtain⟨p,hp,_⟩:=hn;cases hp
 |(m,b)::l,h,h',n,hn=>by
  simp only[df]
  by_cases hl:∃p∈l,p.1=n
  ·exact FK hl
  ·have cb:∀p∈l,p.1≠n:=fun p hp e=>hl ⟨p,hp,e⟩
   rw[np cb,np cb]
   obtain⟨p,hp,e⟩:=hn
   rcases List.mem_cons.1 hp with rfl|hp
   ·simp only at e;subst e;rw[bA,bA]
   ·exact absurd e (cb p hp)
theorem acD {u v:List (Nat×Option ar)} (hd:∀p∈u,∀q∈v,p.1≠q.1) (h:Nat->Option ar):df (df h u) v=df (df h v) u:=by
 funext n
 by_cases hu:∃p∈u,p.1=n
 ·obtain⟨p,hp,rfl⟩:=hu
  rw[np (l:=v) fun q hq e=>hd p hp q hq e.symm]
  exact FK ⟨p,hp,rfl⟩
 ·rw[np (l:=u) (h:=df h v) fun p hp e=>hu ⟨p,hp,e⟩]
  by_cases hv:∃q∈v,q.1=n
  ·exact FK hv
  ·rw[np fun q hq e=>hv ⟨q,hq,e⟩,np fun p hp e=>hu ⟨p,hp,e⟩,np fun q hq e=>hv ⟨q,hq,e⟩]
theorem aoE {u v:List (Nat×Option ar)} (hd:∀p∈u,∀q∈v,p.1≠q.1) (σ:St):(σ.cV u).cV v=(σ.cV v).cV u:=by
 simp only[kR,acD hd]
theorem acE (σ:St) (e:Nat->aj) (l:List (Nat×Option ar)):(σ.we e).cV l=(σ.cV l).we e:=by
 simp only[kR];rfl
theorem aoD {l:List (Nat×Option ar)} {h:Nat->Option ar} {n:Nat} {b:Option ar} (hn:∀p∈l,p.1≠n):df (aw h n b) l=aw (df h l) n b:=by
 have:=acD (u:=l) (v:=[(n,b)]) (fun p hp q hq=>by simp at hq;subst hq;exact hn p hp) h
 exact this.symm
theorem ahY {σ σ1:St} {l:List (Nat×Option ar)} {n:Nat} {b:ar} (hl:∀p∈l,σ.used p.1=true) (h:σ.ins n b=some σ1):(σ.cV l).ins n b=some (σ1.cV l):=by
 obtain⟨u1,rfl⟩:=mg h
 unfold St.ins
 rw[kR,kR]
 rw[if_neg (show¬σ.used n=true by rw[u1];simp)]
 simp only
 rw[aoD fun p hp e=>by rw[<-e,hl p hp] at u1;cases u1]
theorem Er:∀{A:List (Nat×ar)} {σ σ1:St} {l:List (Nat×Option ar)},(∀p∈l,σ.used p.1=true)->σ.cH A=some σ1->(σ.cV l).cH A=some (σ1.cV l)
 |[],σ,σ1,l,hl,h=>by
  simp only[St.cH] at h⊢
  injection h with h
  rw[h]
 |(n,b)::A,σ,σ1,l,hl,h=>by
  simp only[St.cH] at h⊢
  split at h
  ·rename_i jD e
   rw[ahY hl e]
   obtain⟨u1,rfl⟩:=mg e
   exact Er (fun p hp=>qI _ _ (hl p hp)) h
  ·cases h
theorem Za:∀{A:List (Nat×ar)} {σ σ':St},σ.used=σ'.used->(σ.cH A).isSome=true->(σ'.cH A).isSome=true
 |[],σ,σ',hu,h=>rfl
 |(n,b)::A,σ,σ',hu,h=>by
  simp only[St.cH,St.ins] at h⊢
  rw[<-hu]
  split at h
  ·rename_i jD e
   split at e
   ·cases e
   ·rename_i hn
    injection e with e
    subst e
    rw[if_neg hn]
    simp only
    exact Za (by rfl) h
  ·cases h
theorem Ps {A:List (Nat×ar)} {σ B:St} {l:List (Nat×Option ar)} (hl:∀p∈l,σ.used p.1=true) (h:(σ.cV l).cH A=some B):∃B',σ.cH A=some B'/\B=B'.cV l:=by
 have hs:(σ.cH A).isSome=true:=Za (A:=A) (σ:=σ.cV l) (σ':=σ) (by rw[kR]) (by rw[h];rfl)
 cases e:σ.cH A with
 |none=>rw[e] at hs;cases hs
 |some B'=>
  refine⟨B',rfl,?_⟩
  have:=Er hl e
  rw[h] at this
  injection this
abbrev Us:=List (Nat×Option ar)
def rQ (h:Nat->Option ar):ai->Option (C×Bool×Us)
 |.c x=>some (x,x.d7,[])
 |.nil sz=>if 0<sz then some (.list sz [],true,[]) else none
 |.sl n sz lo len=>
  match h n with
  |some (.row _ m rs xs)=>if rs=sz/\lo=0/\len<=xs.length then some (.list sz (xs.take len),decide (m≠ .aA),[(n,none)]) else none
  |_=>none
 |_=>none
def jz (h:Nat->Option ar):List ai->Option (List C×Bool×Us)
 |[]=>some ([],true,[])
 |c::cs=>match rQ h c with
  |some (x,o,u)=>match jz (df h u) cs with
   |some (xs,o',u')=>some (x::xs,o&&o',u++u')
   |none=>none
  |none=>none
def ox (sz:Nat) (h:Nat->Option ar):List aj->Option (List (List C)×Bool×Us)
 |[]=>some ([],true,[])
 |v::vs=>match v.cells? with
  |some (_,cs)=>if cs.length=sz then
   match jz h cs with
   |some (e,o,u)=>match ox sz (df h u) vs with
    |some (es,o',u')=>some (e::es,o&&o',u++u')
    |none=>none
   |none=>none
   else none
  |none=>none
theorem FL (σ:St) (l:Us):(σ.cV l).h=df σ.h l:=by rw[kR]
theorem aox (σ:St) (c:ai):σ.fO c=(rQ σ.h c).map fun x=>(x.1,x.2.1,σ.cV x.2.2):=by
 cases c with
 |sl n sz lo len=>
  simp only[St.fO,rQ]
  cases σ.h n with
  |none=>rfl
  |some b=>cases b with
   |box cs=>rfl
   |row gr m rs xs=>simp only;split<;>rfl
 |nil sz=>simp only[St.fO,rQ];split<;>rfl
 |_=>rfl
theorem Lh:∀(cs:List ai) (σ:St),σ.ft cs=(jz σ.h cs).map fun x=>(x.1,x.2.1,σ.cV x.2.2)
 |[],σ=>rfl
 |c::cs,σ=>by
  simp only[St.ft,jz,aox]
  cases rQ σ.h c with
  |none=>rfl
  |some x=>
   obtain⟨x,o,u⟩:=x
   simp only[Option.map_some,Lh cs,FL]
   cases jz (df σ.h u) cs with
   |none=>rfl
   |some y=>obtain⟨xs,o',u'⟩:=y;simp only[Option.map_some,CF]
theorem acy (sz:Nat):∀(vs:List aj) (σ:St),σ.kP sz vs=(ox sz σ.h vs).map fun x=>(x.1,x.2.1,σ.cV x.2.2)
 |[],σ=>rfl
 |v::vs,σ=>by
  simp only[St.kP,ox]
  cases v.cells? with
  |none=>rfl
  |some x=>
   obtain⟨b,cs⟩:=x
   simp only
   split
   ·rw[Lh]
    cases jz σ.h cs with
    |none=>rfl
    |some y=>
     obtain⟨e,o,u⟩:=y
     simp only[Option.map_some,acy sz vs,FL]
     cases ox sz (df σ.h u) vs with
     |none=>rfl
     |some y=>obtain⟨es,o',u'⟩:=y;simp only[Option.map_some,CF]
   ·rfl
theorem aov {h:Nat->Option ar} {c:ai} {x:C} {o:Bool} {u:Us} (e:rQ h c=some (x,o,u)):∀q∈u,q.1∈c.nm:=by
 unfold rQ at e
 split at e
 ·injection e with e;injection e with _ e;injection e with _ e;subst e;intro q hq;cases hq
 ·split at e
  ·injection e with e;injection e with _ e;injection e with _ e;subst e;intro q hq;cases hq
  ·cases e
 ·split at e
  ·split at e
   ·injection e with e;injection e with _ e;injection e with _ e;subst e;intro q hq;simp at hq;subst hq;simp[ai.nm,ai.rI]
   ·cases e
  ·cases e
 ·cases e
theorem Lg:∀{cs:List ai} {h:Nat->Option ar} {xs:List C} {o:Bool} {u:Us},jz h cs=some (xs,o,u)->∀q∈u,q.1∈cs.flatMap ai.nm
 |[],h,xs,o,u,e=>by
  simp only[jz] at e
  injection e with e;injection e with _ e;injection e with _ e;subst e;intro q hq;cases hq
 |c::cs,h,xs,o,u,e=>by
  simp only[jz] at e
  split at e
  ·rename_i x o1 u1 e1
   split at e
   ·rename_i g0 o2 u2 e2
    injection e with e;injection e with _ e;injection e with _ e;subst e
    intro q hq
    rw[List.flatMap_cons]
    rcases List.mem_append.1 hq with hq|hq
    ·exact List.mem_append.2 (.inl (aov e1 q hq))
    ·exact List.mem_append.2 (.inr (Lg e2 q hq))
   ·cases e
  ·cases e
theorem Aa {v:aj} {b:Bool} {cs:List ai} (h:v.cells?=some (b,cs)):cs.flatMap ai.nm=v.ga:=by
 cases v with
 |one c=>cases c<;>simp[aj.cells?] at h<;>(obtain⟨_,rfl⟩:=h;simp[aj.ga])
 |agg cs'=>simp[aj.cells?] at h;obtain⟨_,rfl⟩:=h;rfl
 |bn xs=>simp[aj.cells?] at h
theorem acx {sz:Nat}:∀{vs:List aj} {h:Nat->Option ar} {xs:List (List C)} {o:Bool} {u:Us},ox sz h vs=some (xs,o,u)->∀q∈u,q.1∈vs.flatMap aj.ga
 |[],h,xs,o,u,e=>by
  simp only[ox] at e
  injection e with e;injection e with _ e;injection e with _ e;subst e;intro q hq;cases hq
 |v::vs,h,xs,o,u,e=>by
  simp only[ox] at e
  split at e
  ·rename_i b cs hv
   split at e
   ·split at e
    ·rename_i x o1 u1 e1
     split at e
     ·rename_i g0 o2 u2 e2
      injection e with e;injection e with _ e;injection e with _ e;subst e
      intro q hq
      rw[List.flatMap_cons]
      rcases List.mem_append.1 hq with hq|hq
      ·exact List.mem_append.2 (.inl (Aa hv▸Lg e1 q hq))
      ·exact List.mem_append.2 (.inr (acx e2 q hq))
     ·cases e
    ·cases e
   ·cases e
  ·cases e
theorem FJ {h h':Nat->Option ar} {n:Nat} (hh:h' n=h n) (u:Us):df h' u n=df h u n:=by
 by_cases hu:∃p∈u,p.1=n
 ·exact FK hu
 ·rw[np fun p hp e=>hu ⟨p,hp,e⟩,np fun p hp e=>hu ⟨p,hp,e⟩,hh]
theorem aou {h h':Nat->Option ar} {c:ai} (hh:∀n∈c.nm,h' n=h n):rQ h' c=rQ h c:=by
 cases c with
 |sl n sz lo len=>simp only[rQ];rw[hh n (by simp[ai.nm,ai.rI])]
 |_=>rfl
theorem Lf:∀{cs:List ai} {h h':Nat->Option ar},(∀n∈cs.flatMap ai.nm,h' n=h n)->jz h' cs=jz h cs
 |[],h,h',_=>rfl
 |c::cs,h,h',hh=>by
  simp only[jz]
  rw[aou fun n hn=>hh n (by rw[List.flatMap_cons];exact List.mem_append.2 (.inl hn))]
  cases rQ h c with
  |none=>rfl
  |some x=>
   obtain⟨x,o,u⟩:=x
   simp only
   rw[Lf (cs:=cs) (h:=df h u) (h':=df h' u) fun n hn=>FJ (hh n (by rw[List.flatMap_cons];exact List.mem_append.2 (.inr hn))) u]
theorem acw {sz:Nat}:∀{vs:List aj} {h h':Nat->Option ar},(∀n∈vs.flatMap aj.ga,h' n=h n)->ox sz h' vs=ox sz h vs
 |[],h,h',_=>rfl
 |v::vs,h,h',hh=>by
  simp only[ox]
  cases hv:v.cells? with
  |none=>rfl
  |some x=>
   obtain⟨b,cs⟩:=x
   simp only
   rw[Lf (cs:=cs) fun n hn=>hh n (by rw[List.flatMap_cons];exact List.mem_append.2 (.inl (Aa hv▸hn)))]
   cases jz h cs with
   |none=>rfl
   |some y=>
    obtain⟨e,o,u⟩:=y
    simp only
    rw[acw (vs:=vs) (h:=df h u) (h':=df h' u) fun n hn=>FJ (hh n (by rw[List.flatMap_cons];exact List.mem_append.2 (.inr hn))) u]
def xr (h:Nat->Option ar) (n:Nat) (gr:Bool) (m:Mode) (rs:Nat) (xs:List (List C)) (k off:Nat) (e:List C) (vs:List ai):Option Us:=
 match sub e off vs.length with
 |none=>none
 |some eZ=>match jz h vs with
  |none=>none
  |some (cs,o,u)=>
   if m=.live then
    if fe cs=true/\fe eZ=true/\(df h u n).isSome=true then some (u++[(n,some (.row gr m rs (xs.set k (bS e off cs))))]) else none
   else if(df h u n).isSome=true then some (u++[(n,some (.row gr (if o=true then m else .aA) rs (xs.set k (bS e off cs))))])
   else none
theorem aoi (σ:St) (n:Nat) (gr:Bool) (m:Mode) (rs:Nat) (xs:List (List C)) (k off:Nat) (e:List C) (vs:List ai):
  mD σ n gr m rs xs k off e vs=(xr σ.h n gr m rs xs k off e vs).map fun u=>σ.cV u:=by
 unfold mD xr
 cases sub e off vs.length with
 |none=>rfl
 |some eZ=>
  simp only[Lh]
  cases jz σ.h vs with
  |none=>rfl
  |some x=>
   obtain⟨cs,o,u⟩:=x
   simp only[Option.map_some,FL]
   repeat' split
   all_goals first|rfl|(simp only[Option.map_some,CF];rfl)
def vM (h:Nat->Option ar) (sz:Nat):aj->Option (List (List C)×Mode×List (Nat×Option ar))
 |.one (.nil _)=>some ([],.ab,[])
 |.one (.sl a s 0 len)=>match h a with
  |some (.row true m rs xs)=>if rs=sz/\s=sz/\len=xs.length then some (xs,m,[(a,none)]) else none
  |_=>none
 |_=>none
def tY (fl:Bool) (h:Nat->Option ar) (sz:Nat) (m:Mode):aj->Option (List (List C)×Mode×List (Nat×Option ar))
  |.one (.nil _)=>some ([],m,[])
  |.one (.c (.list s ys))=>if s=sz then(if(fl&&fN ys)=true then some (ys,m,[]) else if m=.live then none else some (ys,.aA,[])) else none
  |.one (.sl b s lo len)=>match h b with
   |some (.row _ m' rs ys)=>if rs=sz/\s=sz/\lo+len<=ys.length then
       (if(fl&&fN ((ys.drop lo).take len))=true then some ((ys.drop lo).take len,m,[])
        else if lo=0/\len=ys.length then(if m=m' then some (ys,m,[(b,none)]) else if m=.live\/m'=.live then none else some (ys,.aA,[(b,none)])) else none)
    else none
   |_=>none
  |_=>none
theorem ac5 (σ:St) (sz:Nat) (v:aj):pt σ sz v=(vM σ.h sz v).map fun x=>(x.1,x.2.1,σ.cV x.2.2):=by
 cases v with
 |one v=>cases v with
  |sl a s lo len=>cases lo with
   |zero=>
    simp only[pt,vM]
    cases σ.h a with
    |none=>rfl
    |some b=>cases b with
     |box cs=>rfl
     |row gr m rs xs=>cases gr with
      |true=>simp only;split<;>rfl
      |false=>rfl
   |succ lo=>rfl
  |_=>rfl
 |_=>rfl
theorem ac7 (fl:Bool) (σ:St) (sz:Nat) (m:Mode) (v:aj):la fl σ sz m v=(tY fl σ.h sz m v).map fun x=>(x.1,x.2.1,σ.cV x.2.2):=by
 cases v with
 |one v=>cases v with
  |sl b s lo len=>
   simp only[la,tY]
   cases σ.h b with
   |none=>rfl
   |some b=>cases b with
    |box cs=>rfl
    |row gr m rs xs=>
     simp only
     repeat' split
     all_goals rfl
  |c x=>cases x with
   |list s ys=>
    simp only[la,tY]
    repeat' split
    all_goals rfl
   |_=>rfl
  |_=>rfl
 |_=>rfl
def lb (h:Nat->Option ar):List aj->Option (List Dv×List Nat×Us)
 |[]=>some ([],[],[])
 |v::vs=>match mG h v with
  |some (n,xs)=>match lb h vs with
   |some (ds,ns,u)=>some ((.ptr,xs)::ds,n::ns,u)
   |none=>none
  |none=>match v.cells? with
   |some (ag,cs)=>match jz h cs with
    |some (xs,_,u)=>match lb (df h u) vs with
     |some (ds,ns,u')=>some ((if ag=true then .agg else .one,xs)::ds,ns,u++u')
     |none=>none
    |none=>none
   |none=>none
theorem Me:∀(vs:List aj) (σ:St),σ.hH vs=(lb σ.h vs).map fun x=>(x.1,x.2.1,σ.cV x.2.2)
 |[],σ=>rfl
 |v::vs,σ=>by
  simp only[St.hH,lb]
  cases mG σ.h v with
  |some x=>
   obtain⟨n,xs⟩:=x
   simp only[Me vs σ]
   cases lb σ.h vs<;>rfl
  |none=>
   simp only
   cases v.cells? with
   |none=>rfl
   |some x=>
    obtain⟨ag,cs⟩:=x
    simp only
    rw[Lh]
    cases jz σ.h cs with
    |none=>rfl
    |some y=>
     obtain⟨e,o,u⟩:=y
     simp only[Option.map_some,Me vs,FL]
     cases lb (df σ.h u) vs with
     |none=>rfl
     |some y=>obtain⟨ds,ns,u'⟩:=y;simp only[Option.map_some,CF]
theorem adj {h:Nat->Option ar} {v:aj} {n:Nat} {xs:List C} (e:mG h v=some (n,xs)):n∈v.ga:=by
 obtain⟨sz,cs,rfl,_⟩:=Mg e
 simp[aj.ga,ai.nm,ai.rI]
theorem HA:∀{vs:List aj} {h:Nat->Option ar} {ds:List Dv} {ns:List Nat} {u:Us},lb h vs=some (ds,ns,u)->(∀q∈u,q.1∈vs.flatMap aj.ga)/\∀n∈ns,n∈vs.flatMap aj.ga
 |[],h,ds,ns,u,e=>by
  simp only[lb] at e
  injection e with e;injection e with _ e;injection e with e1 e;subst e e1;exact⟨fun q hq=>(by cases hq),fun q hq=>(by cases hq)⟩
 |v::vs,h,ds,ns,u,e=>by
  simp only[lb] at e
  split at e
  ·rename_i n xs hp
   split at e
   ·rename_i yg jR u' e2
    injection e with e;injection e with _ e;injection e with e1 e;subst e e1
    obtain⟨i1,i2⟩:=HA e2
    rw[List.flatMap_cons]
    refine⟨fun q hq=>List.mem_append.2 (.inr (i1 q hq)),fun m hm=>?_⟩
    rcases List.mem_cons.1 hm with rfl|hm
    ·exact List.mem_append.2 (.inl (adj hp))
    ·exact List.mem_append.2 (.inr (i2 m hm))
   ·cases e
  ·split at e
   ·rename_i b cs hv
    split at e
    ·rename_i x o1 u1 e1
     split at e
     ·rename_i ds2 ns2 u2 e2
      injection e with e;injection e with _ e;injection e with e3 e;subst e e3
      obtain⟨i1,i2⟩:=HA e2
      rw[List.flatMap_cons]
      refine⟨fun q hq=>?_,fun m hm=>List.mem_append.2 (.inr (i2 m hm))⟩
      rcases List.mem_append.1 hq with hq|hq
      ·exact List.mem_append.2 (.inl (Aa hv▸Lg e1 q hq))
      ·exact List.mem_append.2 (.inr (i1 q hq))
     ·cases e
    ·cases e
   ·cases e
theorem adi {h h':Nat->Option ar} {v:aj} (hh:∀n∈v.ga,h' n=h n):mG h' v=mG h v:=by
 cases v with
 |one c=>cases c with
  |ptr n k sz off=>simp only[mG];rw[hh n (by simp[aj.ga,ai.nm,ai.rI])]
  |_=>rfl
 |_=>rfl
theorem Mc:∀{vs:List aj} {h h':Nat->Option ar},(∀n∈vs.flatMap aj.ga,h' n=h n)->lb h' vs=lb h vs
 |[],h,h',_=>rfl
 |v::vs,h,h',hh=>by
  have h1:∀n∈v.ga,h' n=h n:=fun n hn=>hh n (by rw[List.flatMap_cons];exact List.mem_append.2 (.inl hn))
  have h2:∀n∈vs.flatMap aj.ga,h' n=h n:=fun n hn=>hh n (by rw[List.flatMap_cons];exact List.mem_append.2 (.inr hn))
  simp only[lb]
  rw[adi h1]
  cases mG h v with
  |some x=>
   obtain⟨n,xs⟩:=x
   simp only
   rw[Mc h2]
  |none=>
   simp only
   cases hv:v.cells? with
   |none=>rfl
   |some x=>
    obtain⟨b,cs⟩:=x
    simp only
    rw[Lf (cs:=cs) fun n hn=>h1 n (Aa hv▸hn)]
    cases jz h cs with
    |none=>rfl
    |some y=>
     obtain⟨e,o,u⟩:=y
     simp only
     rw[Mc (vs:=vs) (h:=df h u) (h':=df h' u) fun n hn=>FJ (h2 n hn) u]
def u6 (h:Nat->Option ar):List Nat->List C->Option Us
 |[],[]=>some []
 |[n],out=>match h n with
  |some (.box cs)=>if cs.length=out.length then some [(n,some (.box (out.map .c)))] else none
  |_=>none
 |_,_=>none
theorem amZ (σ:St) (ns:List Nat) (out:List C):σ.rJ ns out=(u6 σ.h ns out).map σ.cV:=by
 match ns,out with
 |[],[]=>rfl
 |[],_::_=>rfl
 |[n],out=>
  simp only[St.rJ,u6]
  cases σ.h n with
  |none=>rfl
  |some b=>
   cases b with
   |box cs=>simp only;split<;>rfl
   |row gr m rs xs=>rfl
 |_::_::_,out=>rfl
theorem amY {h:Nat->Option ar} {ns:List Nat} {out:List C} {u:Us} (e:u6 h ns out=some u):∀q∈u,q.1∈ns:=by
 unfold u6 at e
 split at e
 ·injection e with e;subst e;intro q hq;cases hq
 ·split at e
  ·split at e
   ·injection e with e;subst e;intro q hq;simp at hq;subst hq;simp
   ·cases e
  ·cases e
 ·cases e
theorem amX {h h':Nat->Option ar} {ns:List Nat} {out:List C} (hh:∀n∈ns,h' n=h n):u6 h' ns out=u6 h ns out:=by
 match ns,out with
 |[],[]=>rfl
 |[],_::_=>rfl
 |[n],out=>simp only[u6];rw[hh n (by simp)]
 |_::_::_,out=>rfl
def zY (d:Option Nat):List Dv->Option (aj×List (Nat×ar))
 |[(.ptr,cs)]=>match d with
  |some q=>some (.one (.ptr q 0 0 0),[(q,.box (cs.map .c))])
  |none=>none
 |rs=>match gL rs with
  |some ls=>some (lN ls,[])
  |none=>none
theorem adk (σ:St) (d:Option Nat) (rs:List Dv):qN σ d rs=(zY d rs).bind fun x=>(σ.cH x.2).map (·.put d x.1):=by
 unfold qN
 split
 ·cases d with
  |none=>rfl
  |some q=>
   simp only[zY,Option.bind_some,St.cH]
   cases σ.ins q _<;>rfl
 ·rename_i ax
  have e:zY d rs=match gL rs with
    |some ls=>some (lN ls,[])
    |none=>none:=by
   unfold zY
   split
   ·exact absurd rfl (ax _)
   ·rfl
  rw[e]
  cases gL rs with
  |none=>rfl
  |some ls=>rfl
abbrev LY:=aj×List (Nat×Option ar)×List (Nat×ar)
def eA (T:bj) (d:Option Nat) (op:aC) (ev:MO->aj) (h:Nat->Option ar):Option LY:=
 match op with
 |.store sz x v=>match ev x,(ev v).cells? with
  |.one (.ptr n k az off),some (_,vs)=>if vs.length=sz then
   match h n with
   |some (.box cs)=>if k=0/\off+sz<=cs.length then some (.one .bh,[(n,some (.box (bS cs off vs)))],[]) else none
   |some (.row gr m rs xs)=>if az=rs then
    match xs[k]? with
    |some e=>match xr h n gr m rs xs k off e vs with
     |some u=>some (.one .bh,u,[])
     |none=>none
    |none=>none
    else none
   |none=>none
   else none
  |.one (.cD n k az off s i),some (_,vs)=>if vs.length=sz then
   match h n with
   |some (.row gr .live rs xs)=>if az=rs then
    match vg xs k off s i vs with
    |some av=>some (.one .bh,[(n,some (.row gr .live rs av))],[])
    |none=>none
    else none
   |_=>none
   else none
  |_,_=>none
 |.dM sz ps=>match d,ox sz h (ps.map ev) with
  |some n,some (es,o,u)=>some (.one (.sl n sz 0 es.length),u,[(n,.row true (if o=true then .ab else .aA) sz es)])
  |_,_=>none
 |.append fl sz by_ x y=>match d with
  |none=>none
  |some n=>match vM h sz (ev x) with
   |none=>none
   |some (xs,m,u1)=>match tY fl (df h u1) sz m (ev y) with
    |none=>none
    |some (ys,m2,u2)=>if(xs.length+ys.length)*by_<=dK then some (.one (.sl n sz 0 (xs.length+ys.length)),u1++u2,[(n,.row true m2 sz (xs++ys))]) else none
 |.dC f xs=>match lb h (xs.map ev),bj.nI T.vs f with
  |some (ds,ns,u),some M=>match M ds with
   |some (rs,out)=>match u6 (df h u) ns out,zY d rs with
    |some u',some (v,is)=>some (v,u++u',is)
    |_,_=>none
   |none=>none
  |_,_=>none
 |.copy sz x y=>match ev x,ev y with
  |.one (.sl n s lo len),.one c=>match h n,bR h c with
   |some (.row gr m rs xs),some (.list s' ys)=>if sz=1/\s=1/\rs=1/\s'=1/\m≠ .aA/\fN xs=true/\fN ys=true/\lo+len<=xs.length then
    some (.one (.c (.int .i64 (Nat.min ys.length len:Nat))),[(n,some (.row gr m 1 (bS xs lo (ys.take len))))],[]) else none
   |_,_=>none
  |_,_=>none
 |.kt z x=>match ev x with
  |.one (.sl n s lo len)=>match h n with
   |some (.row gr m rs xs)=>if s=1/\rs=1/\z.d7=true/\m≠ .aA/\fN xs=true/\lo+len<=xs.length then
    some (.bn [],[(n,some (.row gr m 1 (bS xs lo (List.replicate len [z]))))],[]) else none
   |_=>none
  |_=>none
 |op=>(rd T d op ev h).map fun x=>(x.1,[],x.2)
def v8 (d:Option Nat) (σ:St) (p:LY):Option St:=((σ.cV p.2.1).cH p.2.2).map (·.put d p.1)
theorem Ie {T:bj} {d:Option Nat} {op:aC} {σ:St} {ws:List Nat} (hw:op.jU σ.ev σ.h=some ws) (hd:∀sz x v,op=.store sz x v->d=none):
  aG T d op σ=(eA T d op σ.ev σ.h).bind (v8 d σ):=by
 by_cases hc:op.dH<=1
 ·rw[pE T d op σ hc]
  have:eA T d op σ.ev σ.h=(rd T d op σ.ev σ.h).map fun x=>(x.1,[],x.2):=by
   cases op<;>first|rfl|(simp[aC.dH] at hc)
  rw[this]
  cases rd T d op σ.ev σ.h with
  |none=>rfl
  |some x=>rfl
 ·cases op<;>simp[aC.dH] at hc<;>simp only[aC.jU] at hw
  case gI=>cases hw
  case copy sz x y=>
   simp only[aG,eA]
   cases σ.ev x with
   |one p=>cases p with
    |sl n s lo len=>
     cases σ.ev y with
     |one c=>
      simp only
      cases σ.h n with
      |none=>rfl
      |some b=>cases b with
       |box cs=>rfl
       |row gr m rs xs=>
        cases bR σ.h c with
        |none=>rfl
        |some q=>cases q with
         |list s' ys=>
          simp only
          split<;>rfl
         |_=>rfl
     |_=>rfl
    |_=>rfl
   |_=>rfl
  case kt z x=>
   simp only[aG,eA]
   cases σ.ev x with
   |one p=>cases p with
    |sl n s lo len=>
     simp only
     cases σ.h n with
     |none=>rfl
     |some b=>cases b with
      |box cs=>rfl
      |row gr m rs xs=>
       simp only
       split<;>rfl
    |_=>rfl
   |_=>rfl
  case tail=>cases hw
  case mw=>cases hw
  case dC f xs=>
   simp only[aG,eA,sj,Me]
   cases lb σ.h (xs.map σ.ev) with
   |none=>rfl
   |some x=>
    obtain⟨ds,ns,u⟩:=x
    simp only[Option.map_some]
    cases bj.nI T.vs f with
    |none=>rfl
    |some M=>
     simp only
     cases M ds with
     |none=>rfl
     |some z=>
      obtain⟨rs,out⟩:=z
      simp only[amZ,FL]
      cases u6 (df σ.h u) ns out with
      |none=>rfl
      |some u'=>
       simp only[Option.map_some,adk]
       cases zY d rs with
       |none=>rfl
       |some z=>
        obtain⟨v,is⟩:=z
        simp only[Option.bind_some,v8,CF]
  case dM sz ps=>
   simp only[aG,eA]
   rw[acy]
   cases d with
   |none=>rfl
   |some n=>
    cases ox sz σ.h (ps.map σ.ev) with
    |none=>rfl
    |some x=>
     obtain⟨es,o,u⟩:=x
     simp only[Option.map_some,Option.bind_some,v8,St.cH]
     cases (σ.cV u).ins n (.row true (if o=true then .ab else .aA) sz es)<;>rfl
  case append fl sz by_ x y=>
   simp only[aG,eA,ac5]
   cases d with
   |none=>rfl
   |some n=>
    simp only
    cases vM σ.h sz (σ.ev x) with
    |none=>rfl
    |some z=>
     obtain⟨xs,m,u1⟩:=z
     simp only[Option.map_some,ac7]
     have hh:(σ.cV u1).h=df σ.h u1:=by rw[kR]
     rw[hh]
     cases tY fl (df σ.h u1) sz m (σ.ev y) with
     |none=>rfl
     |some z=>
      obtain⟨ys,m2,u2⟩:=z
      simp only[Option.map_some]
      split
      ·simp only[Option.bind_some,v8,CF,St.cH]
       cases ((σ.cV u1).cV u2).ins n (.row true m2 sz (xs++ys))<;>rfl
      ·rfl
  case store sz x v=>
   have hd:=hd sz x v rfl
   subst hd
   simp only[aG,eA]
   split at hw
   ·rename_i n k az off hx
    simp only[hx]
    cases hv:(σ.ev v).cells? with
    |none=>rfl
    |some y=>
     obtain⟨ag,vs⟩:=y
     simp only
     split
     ·split at hw
      ·rename_i cs hn
       simp only[hn]
       split
       ·rfl
       ·rfl
      ·rename_i gr m rs xs hn
       simp only[hn]
       split
       ·cases xs[k]? with
        |none=>rfl
        |some e=>
         simp only
         rw[aoi]
         cases xr σ.h n gr m rs xs k off e vs with
         |none=>rfl
         |some b=>rfl
       ·rfl
      ·cases hw
     ·rfl
   ·rename_i n k az off s i hx
    simp only[hx]
    cases hv:(σ.ev v).cells? with
    |none=>rfl
    |some y=>
     obtain⟨ag,vs⟩:=y
     simp only
     split
     ·cases σ.h n with
      |none=>rfl
      |some b=>cases b with
       |box cs=>rfl
       |row gr m rs xs=>cases m with
        |live=>
         simp only
         split
         ·cases vg xs k off s i vs<;>rfl
         ·rfl
        |_=>rfl
     ·rfl
   ·cases hw
theorem Vz {T:bj} {d:Option Nat} {op:aC} {ev:MO->aj} {h:Nat->Option ar} {ws:List Nat} {p:LY} (hw:op.jU ev h=some ws) (ha:eA T d op ev h=some p):∀q∈p.2.1,q.1∈ws:=by
 by_cases hc:op.dH<=1
 ·have:eA T d op ev h=(rd T d op ev h).map fun x=>(x.1,[],x.2):=by
   cases op<;>first|rfl|(simp[aC.dH] at hc)
  rw[this,Option.map_eq_some_iff] at ha
  obtain⟨x,_,rfl⟩:=ha
  intro q hq
  cases hq
 ·cases op<;>simp[aC.dH] at hc<;>simp only[aC.jU] at hw
  case gI=>cases hw
  case copy sz x y=>
   simp only[eA] at ha
   split at ha
   ·rename_i n s lo len c hx hy
    simp only[hx] at hw
    injection hw with hw
    subst hw
    repeat' split at ha
    all_goals first|cases ha|skip
    intro q hq
    simp at hq
    subst hq
    simp
   ·cases ha
  case kt z x=>
   simp only[eA] at ha
   split at ha
   ·rename_i n s lo len hx
    simp only[hx] at hw
    injection hw with hw
    subst hw
    repeat' split at ha
    all_goals first|cases ha|skip
    intro q hq
    simp at hq
    subst hq
    simp
   ·cases ha
  case tail=>cases hw
  case mw=>cases hw
  case dC f xs=>
   injection hw with hw
   subst hw
   simp only[eA] at ha
   split at ha
   ·rename_i ds ns u M e1 e2
    split at ha
    ·rename_i rs out e3
     split at ha
     ·rename_i u' v is e4 e5
      injection ha with ha;subst ha
      obtain⟨i1,i2⟩:=HA e1
      intro q hq
      rw[List.flatMap_map] at i1 i2
      rcases List.mem_append.1 hq with hq|hq
      ·exact i1 q hq
      ·exact i2 _ (amY e4 q hq)
     ·cases ha
    ·cases ha
   ·cases ha
  case dM sz ps=>
   injection hw with hw
   subst hw
   simp only[eA] at ha
   split at ha
   ·rename_i n es o u e
    injection ha with ha;subst ha
    intro q hq
    have:=acx e q hq
    rw[List.flatMap_map] at this
    exact this
   ·cases ha
  case append fl sz by_ x y=>
   injection hw with hw
   subst hw
   simp only[eA] at ha
   split at ha
   ·cases ha
   ·split at ha
    ·cases ha
    ·rename_i xs m u1 e1
     split at ha
     ·cases ha
     ·rename_i ys m2 u2 e2
      split at ha
      ·injection ha with ha
       subst ha
       intro q hq
       rcases List.mem_append.1 hq with sE|sE
       ·clear hq
        refine List.mem_append.2 (.inl ?_)
        unfold vM at e1
        split at e1
        ·injection e1 with e1;injection e1 with _ e1;injection e1 with _ e1;subst e1;cases sE
        ·rename_i a s len hv
         split at e1
         ·split at e1
          ·injection e1 with e1;injection e1 with _ e1;injection e1 with _ e1;subst e1
           simp at sE;subst sE;simp[aj.ga,ai.nm,ai.rI,hv]
          ·cases e1
         ·cases e1
        ·cases e1
       ·clear hq
        refine List.mem_append.2 (.inr ?_)
        have AA:∀(b:Nat),u2=[]\/u2=[(b,none)]->b∈(ev y).ga->q.1∈(ev y).ga:=by
         intro b hb hm
         rcases hb with hb|hb
         ·subst hb;cases sE
         ·subst hb;simp at sE;subst sE;exact hm
        unfold tY at e2
        split at e2
        ·injection e2 with e2;injection e2 with _ e2;injection e2 with _ e2;subst e2;cases sE
        ·repeat' split at e2
         all_goals first|cases e2|skip
         all_goals (cases sE)
        ·rename_i b s lo len hv
         have hm:b∈(ev y).ga:=by simp[hv,aj.ga,ai.nm,ai.rI]
         refine AA b ?_ hm
         repeat' split at e2
         all_goals first|cases e2|skip
         all_goals first|exact .inl rfl|exact .inr rfl
        ·cases e2
      ·cases ha
  case store sz x v=>
   simp only[eA] at ha
   split at ha
   ·rename_i n k az off b vs hx hv
    simp only[hx] at hw
    split at ha
    ·split at ha
     ·rename_i cs hn
      simp only[hn] at hw
      split at ha
      ·injection ha with ha;subst ha;injection hw with hw;subst hw
       intro q hq;simp at hq;subst hq;simp
      ·cases ha
     ·rename_i gr m rs xs hn
      simp only[hn] at hw
      injection hw with hw
      subst hw
      split at ha
      ·split at ha
       ·split at ha
        ·rename_i u e0
         injection ha with ha;subst ha
         intro q hq
         have hq:q∈u:=hq
         have two:∀(u1:Us) (bb:Option ar),u=u1++[(n,bb)]->(∀q∈u1,q.1∈vs.flatMap ai.nm)->q.1∈n::(ev v).ga:=by
          intro u1 bb he AV
          rw[he] at hq
          rcases List.mem_append.1 hq with hq|hq
          ·exact List.mem_cons_of_mem _ (Aa hv▸AV q hq)
          ·simp at hq;subst hq;simp
         unfold xr at e0
         split at e0
         ·cases e0
         ·split at e0
          ·cases e0
          ·rename_i cs o u1 e1
           have AV:=Lg e1
           repeat' split at e0
           all_goals first|(injection e0 with e0;exact two _ _ e0.symm AV)|cases e0
        ·cases ha
       ·cases ha
      ·cases ha
     ·cases ha
    ·cases ha
   ·rename_i n k az off s i b vs hx hv
    simp only[hx] at hw
    injection hw with hw
    subst hw
    repeat' split at ha
    all_goals first|cases ha|skip
    intro q hq
    simp at hq
    subst hq
    simp
   ·cases ha
section
variable {T:bj} {d:Option Nat} {op:aC} {ev ev':MO->aj} {h h':Nat->Option ar}
theorem EQ (br:∀x∈op.args,ev' x=ev x):op.iJ ev'=op.iJ ev:=by
 unfold aC.iJ
 generalize op.args=l at br
 induction l with
 |nil=>rfl
 |cons x l ih=>simp only[List.flatMap_cons];rw[br x (by simp),ih fun y hy=>br y (List.mem_cons_of_mem _ hy)]
theorem VU:∀{l:List Nat} (_:∀n∈l,h' n=h n),z8 h' l=z8 h l
 |[],_=>rfl
 |n::l,hh=>by
  have:=VU (l:=l) fun m hm=>hh m (List.mem_cons_of_mem _ hm)
  simp only[z8,List.flatMap_cons] at this⊢
  rw[hh n (by simp),this]
theorem RT (br:∀x∈op.args,ev' x=ev x) (hh:∀n∈op.iJ ev,h' n=h n):op.lM ev' h'=op.lM ev h:=by
 unfold aC.lM
 rw[EQ br,VU hh]
theorem Lt (br:∀x∈op.args,ev' x=ev x) (hh:∀n∈op.iJ ev,h' n=h n):op.jU ev' h'=op.jU ev h:=by
 cases op<;>first|rfl|skip
 case store sz x v=>
  have h1:=br x (by simp[aC.args])
  have h2:=br v (by simp[aC.args])
  simp only[aC.jU,h1,h2]
  cases hv:ev x with
  |one p=>cases p with
   |ptr n k az off=>simp only;rw[hh n (oU.2 ⟨x,by simp[aC.args],by rw[hv];exact rfl⟩)]
   |_=>rfl
  |_=>rfl
 case copy sz x y=>
  simp only[aC.jU,br x (by simp[aC.args])]
 case kt z x=>
  simp only[aC.jU,br x (by simp[aC.args])]
 case dC f xs=>
  have:=EQ (op:=.dC f xs) br
  simp only[aC.iJ,aC.args] at this
  simp only[aC.jU,this]
 case dM sz ps=>
  have:=EQ (op:=.dM sz ps) br
  simp only[aC.iJ,aC.args] at this
  simp only[aC.jU,this]
 case append fl sz by_ x y=>
  simp only[aC.jU,br x (by simp[aC.args]),br y (by simp[aC.args])]
theorem Vy (br:∀x∈op.args,ev' x=ev x) (hh:∀n∈op.lM ev h,h' n=h n):eA T d op ev' h'=eA T d op ev h:=by
 have IG:∀n∈op.iJ ev,h' n=h n:=fun n hn=>hh n (Kl hn)
 have hn:∀a∈op.args,∀n,(ev a).ref n->h' n=h n:=fun a ha n hr=>IG n (oU.2 ⟨a,ha,hr⟩)
 have gen:rd T d op ev' h'=rd T d op ev h:=by
  rw[Ca T d op _ br]
  refine aaU (u:=fun n=>h' n=h n) (vv:=fun n=>n∈op.iJ ev) T d op ev (fun n hn=>hn) (fun hc m cs c n hm hb dP hr=>?_) (fun x hx m hm=>hn x hx m hm) (fun x hx m hm=>oU.2 ⟨x,hx,hm⟩)
  refine hh n ?_
  unfold aC.lM
  rw[hc]
  refine List.mem_append.2 (.inr ?_)
  unfold z8
  rw[List.mem_flatMap]
  exact⟨m,hm,by rw[hb];exact List.mem_flatMap.2 ⟨c,dP,ai.ER.2 hr⟩⟩
 cases op<;>first|(simp only[eA];rw[gen];done)|skip
 case store sz x v=>
  have h1:=br x (by simp[aC.args])
  have h2:=br v (by simp[aC.args])
  simp only[eA,h1,h2]
  have h3:=hn x (by simp[aC.args])
  cases hv:ev x with
  |one p=>cases p with
   |ptr n k az off=>
    rw[hv] at h3
    have h3:=h3 n rfl
    have h5:=hn v (by simp[aC.args])
    cases hc:(ev v).cells? with
    |none=>rfl
    |some y=>
     obtain⟨b,vs⟩:=y
     have h6:∀gr m rs xs e,xr h' n gr m rs xs k off e vs=xr h n gr m rs xs k off e vs:=by
      intro gr m rs xs e
      have h7:jz h' vs=jz h vs:=Lf fun q hq=>h5 q (aj.zb.1 (Aa hc▸hq))
      unfold xr
      rw[h7]
      cases jz h vs with
      |none=>rfl
      |some y=>
       obtain⟨cs,o,u⟩:=y
       simp only[FJ h3 u]
     simp only[h3,h6]
   |cD n k az off s i=>
    rw[hv] at h3
    have h3:=h3 n rfl
    cases hc:(ev v).cells? with
    |none=>rfl
    |some y=>
     simp only[h3]
   |_=>cases (ev v).cells?<;>rfl
  |_=>cases (ev v).cells?<;>rfl
 case copy sz x y=>
  have h1:=br x (by simp[aC.args])
  have h2:=br y (by simp[aC.args])
  have h3:=hn x (by simp[aC.args])
  have h4:=hn y (by simp[aC.args])
  simp only[eA,h1,h2]
  cases hv:ev x with
  |one p=>cases p with
   |sl n s lo len=>
    rw[hv] at h3
    have h3:=h3 n rfl
    cases hc:ev y with
    |one c=>
     rw[hc] at h4
     have h5:bR h' c=bR h c:=CH (u:=fun n=>h' n=h n) (fun n hn=>hn) fun m hm=>h4 m (ai.Cc hm)
     simp only[h3,h5]
    |_=>rfl
   |_=>rfl
  |_=>rfl
 case kt z x=>
  have h1:=br x (by simp[aC.args])
  have h3:=hn x (by simp[aC.args])
  simp only[eA,h1]
  cases hv:ev x with
  |one p=>cases p with
   |sl n s lo len=>
    rw[hv] at h3
    have h3:=h3 n rfl
    simp only[h3]
   |_=>rfl
  |_=>rfl
 case dC f xs=>
  have hl:xs.map ev'=xs.map ev:=List.map_congr_left br
  have h2:lb h' (xs.map ev)=lb h (xs.map ev):=Mc fun n bm=>by
   rw[List.flatMap_map] at bm
   exact IG n bm
  simp only[eA,hl,h2]
  cases e1:lb h (xs.map ev) with
  |none=>rfl
  |some x=>
   obtain⟨ds,ns,u⟩:=x
   try simp only
   cases bj.nI T.vs f with
   |none=>rfl
   |some M=>
    try simp only
    cases M ds with
    |none=>rfl
    |some z=>
     obtain⟨rs,out⟩:=z
     try simp only
     rw[amX (h:=df h u) (h':=df h' u) fun n bm=>FJ (IG n (by
      have:=(HA e1).2 n bm
      rw[List.flatMap_map] at this
      exact this)) u]
 case dM sz ps=>
  have hl:ps.map ev'=ps.map ev:=List.map_congr_left br
  have h2:ox sz h' (ps.map ev)=ox sz h (ps.map ev):=acw fun n bm=>by
   rw[List.flatMap_map] at bm
   exact IG n bm
  simp only[eA,hl,h2]
 case append fl sz by_ x y=>
  have h1:=br x (by simp[aC.args])
  have h2:=br y (by simp[aC.args])
  have h3:=hn x (by simp[aC.args])
  have h4:=hn y (by simp[aC.args])
  have e1:vM h' sz (ev x)=vM h sz (ev x):=by
   cases hv:ev x with
   |one p=>cases p with
    |sl a s lo len=>
     rw[hv] at h3
     cases lo with
     |zero=>simp only[vM,h3 a rfl]
     |succ lo=>rfl
    |_=>rfl
   |_=>rfl
  have e2:∀(us:List (Nat×Option ar)) (m:Mode),tY fl (df h' us) sz m (ev y)=tY fl (df h us) sz m (ev y):=by
   intro us m
   cases hv:ev y with
   |one p=>cases p with
    |sl b s lo len=>
     rw[hv] at h4
     have hb:df h' us b=df h us b:=by
      by_cases hu:∃p∈us,p.1=b
      ·exact FK hu
      ·rw[np fun p hp e=>hu ⟨p,hp,e⟩,np fun p hp e=>hu ⟨p,hp,e⟩]
       exact h4 b rfl
     simp only[tY,hb]
    |c x=>cases x<;>rfl
    |_=>rfl
   |_=>rfl
  simp only[eA,h1,h2,e1,e2]
end
theorem MP {f g:List Nat×List Nat} (h:De f g=true) {n:Nat} (h1:n∈f.2) (h2:n∈g.1):False:=by
 simp only[De,Bool.and_eq_true,List.all_eq_true] at h
 have:=h.1 n h1
 simp[h2] at this
theorem adQ {f g:List Nat×List Nat} (h:De f g=true) {n:Nat} (h1:n∈g.2) (h2:n∈f.1):False:=by
 simp only[De,Bool.and_eq_true,List.all_eq_true] at h
 have:=h.2 n h1
 simp[h2] at this
theorem BZ {σ:St} (W:Wf σ) {op:aC} (hf:∀a∈op.args,a.flat=true) {n:Nat} (hn:n∈op.iJ σ.ev):σ.used n=true:=by
 obtain⟨a,ha,hr⟩:=oU.1 hn
 exact W.arg (hf a ha) n hr
theorem aaS {σ:St} (W:Wf σ) {op:aC} (hf:∀a∈op.args,a.flat=true) {n:Nat} (hn:n∈op.lM σ.ev σ.h):σ.used n=true:=by
 unfold aC.lM at hn
 cases hc:op.Et with
 |true=>
  rw[hc] at hn
  rcases List.mem_append.1 hn with hn|hn
  ·exact BZ W hf hn
  ·unfold z8 at hn
   rw[List.mem_flatMap] at hn
   obtain⟨m,hm,hn⟩:=hn
   split at hn
   ·rename_i cs hb
    obtain⟨c,hc,hr⟩:=List.mem_flatMap.1 hn
    exact W.box m cs c n hb hc (ai.ER.1 hr)
   ·cases hn
 |false=>rw[hc] at hn;exact BZ W hf hn
section
variable {T:bj} {dx dy:Option Nat} {x y:aC} {σ σ1 σ2:St}
theorem Xw (W:Wf σ) (j5:∀n,dx=some n->MO.t n∉y.args) (yF:∀a∈y.args,a.flat=true) (uu:∀sz p v,x=.store sz p v->dx=none)
  (hc:x.dH<=1\/y.dH=0) (h1:aG T dx x σ=some σ1):y.fp σ1=y.fp σ:=by
 have rq:=v7 uu h1
 have br:∀a∈y.args,σ1.ev a=σ.ev a:=fun a ha=>by
  cases a with
  |t n=>show σ1.env n=σ.env n;rw[rq];exact qw fun oM=>j5 n oM ha
  |k v=>rfl
 rcases hc with hc|hc
 ·rw[pE T dx x σ hc] at h1
  have hh:∀n∈y.iJ σ.ev,σ1.h n=σ.h n:=by
   intro n hn
   cases hr:rd T dx x σ.ev σ.h with
   |none=>rw[hr] at h1;cases h1
   |some p=>
    rw[hr] at h1
    simp only[Option.bind_some,gB,Option.map_eq_some_iff] at h1
    obtain⟨A,hA,rfl⟩:=h1
    have:(A.put dx p.1).h=A.h:=by cases dx<;>rfl
    rw[this]
    exact((yT hA).1 n (BZ W yF hn)).2
  unfold aC.fp
  rw[Lt br hh,RT br hh]
 ·unfold aC.fp
  have c1:y.Et=false:=by cases y<;>first|rfl|(simp[aC.dH] at hc)
  have w:∀ev h,y.jU ev h=some []:=by intro ev h;cases y<;>first|rfl|(simp[aC.dH] at hc)
  simp only[w,aC.lM,c1,cond_false,EQ br]
theorem adH (W:Wf σ) (hd:∀n,dx=some n->dy≠some n) (j5:∀n,dx=some n->MO.t n∉y.args) (sI:∀n,dy=some n->MO.t n∉x.args)
  (IE:∀a∈x.args,a.flat=true) (yF:∀a∈y.args,a.flat=true)
  (uu:∀sz p v,x=.store sz p v->dx=none) (DN:∀sz p v,y=.store sz p v->dy=none) (hk:Df (x.fp σ) (y.fp σ1)=true)
  (h1:aG T dx x σ=some σ1) (h2:aG T dy y σ1=some σ2):∃τ,aG T dy y σ=some τ/\aG T dx x τ=some σ2/\y.fp σ1=y.fp σ/\x.fp τ=x.fp σ:=by
 unfold aC.fp at hk
 cases yk:x.jU σ.ev σ.h with
 |none=>rw[yk] at hk;cases hk
 |some wx=>
 cases yl:y.jU σ1.ev σ1.h with
 |none=>rw[yk,yl] at hk;cases hk
 |some wy=>
 rw[yk,yl] at hk
 simp only[Option.map_some,Df] at hk
 rw[Ie yk uu] at h1
 rw[Ie yl DN] at h2
 cases HY:eA T dx x σ.ev σ.h with
 |none=>rw[HY] at h1;cases h1
 |some px=>
 obtain⟨vx,ux,nx⟩:=px
 rw[HY] at h1
 simp only[Option.bind_some,v8,Option.map_eq_some_iff] at h1
 obtain⟨A,hA,rfl⟩:=h1
 have Lk:∀q∈ux,q.1∈wx:=Vz yk HY
 have U5:∀q∈ux,σ.used q.1=true:=fun q hq=>BZ W IE (acO yk (Lk q hq))
 obtain⟨A',XB,rfl⟩:=Ps U5 hA
 obtain⟨oa,ea⟩:=yT XB
 have pR:∀(s:St) (d:Option Nat) (v:aj),(s.put d v).h=s.h:=fun s d v=>by cases d<;>rfl
 have br:∀a∈y.args,((A'.cV ux).put dx vx).ev a=σ.ev a:=fun a ha=>by
  rw[n9,Ia fun n hn=>qw fun oM=>j5 n oM (hn▸ha)]
  cases a with
  |t n=>show(A'.cV ux).env n=σ.env n;rw[kR];show A'.env n=_;rw[ea]
  |k v=>rfl
 have agu:y.lM ((A'.cV ux).put dx vx).ev ((A'.cV ux).put dx vx).h=y.lM σ.ev σ.h/\y.jU ((A'.cV ux).put dx vx).ev ((A'.cV ux).put dx vx).h=y.jU σ.ev σ.h:=by
  have hh:∀n∈y.iJ σ.ev,((A'.cV ux).put dx vx).h n=σ.h n:=fun n hn=>by
   rw[pR,kR]
   show df A'.h ux n=_
   rw[np fun p hp e=>MP hk (Lk p hp) (by rw[e];exact Kl (by rw[EQ br];exact hn))]
   exact(oa n (BZ W yF hn)).2
  exact⟨RT br hh,Lt br hh⟩
 obtain⟨r1,r2⟩:=agu
 have hh:∀n∈y.lM σ.ev σ.h,((A'.cV ux).put dx vx).h n=σ.h n:=fun n hn=>by
  rw[pR,kR]
  show df A'.h ux n=_
  rw[np fun p hp e=>MP hk (Lk p hp) (by rw[e];show n∈y.lM _ _;rw[r1];exact hn)]
  exact(oa n (aaS W yF hn)).2
 have eay:eA T dy y ((A'.cV ux).put dx vx).ev ((A'.cV ux).put dx vx).h=eA T dy y σ.ev σ.h:=Vy br hh
 rw[eay] at h2
 rw[r2] at yl
 cases HZ:eA T dy y σ.ev σ.h with
 |none=>rw[HZ] at h2;cases h2
 |some py=>
 obtain⟨vy,uy,ny⟩:=py
 rw[HZ] at h2
 simp only[Option.bind_some,v8,Option.map_eq_some_iff] at h2
 obtain⟨D,hD,rfl⟩:=h2
 have uyw:∀q∈uy,q.1∈wy:=Vz yl HZ
 have uyn:∀q∈uy,q.1∈y.iJ σ.ev:=fun q hq=>acO yl (uyw q hq)
 have U6:∀q∈uy,σ.used q.1=true:=fun q hq=>BZ W yF (uyn q hq)
 have uyA:∀q∈uy,A'.used q.1=true:=fun q hq=>(oa _ (U6 q hq)).1
 have uxA:∀q∈ux,A'.used q.1=true:=fun q hq=>(oa _ (U5 q hq)).1
 have ur:∀p∈ux,∀q∈uy,p.1≠q.1:=fun p hp q hq e=>MP hk (Lk p hp) (by rw[e];show q.1∈y.lM _ _;rw[r1];exact Kl (uyn q hq))
 rw[n9,acE,yU,Option.map_eq_some_iff] at hD
 obtain⟨D0,hD0,rfl⟩:=hD
 obtain⟨D1,hD1,rfl⟩:=Ps (σ:=A'.cV ux) (fun q hq=>by rw[kR];exact uyA q hq) hD0
 obtain⟨F,hF,rfl⟩:=Ps uxA hD1
 obtain⟨C',hC,hCF⟩:=Pr XB hF
 obtain⟨oc,ec⟩:=yT hC
 have uyC:∀q∈uy,C'.used q.1=true:=fun q hq=>(oc _ (U6 q hq)).1
 have uxC:∀q∈ux,C'.used q.1=true:=fun q hq=>(oc _ (U5 q hq)).1
 have Iz:∀a∈x.args,((C'.cV uy).put dy vy).ev a=σ.ev a:=fun a ha=>by
  rw[n9,Ia fun n hn=>qw fun oM=>sI n oM (hn▸ha)]
  cases a with
  |t n=>show(C'.cV uy).env n=σ.env n;rw[kR];show C'.env n=_;rw[ec]
  |k v=>rfl
 have XY:∀n∈x.lM σ.ev σ.h,((C'.cV uy).put dy vy).h n=σ.h n:=fun n hn=>by
  rw[pR,kR]
  show df C'.h uy n=_
  rw[np fun p hp e=>adQ hk (uyw p hp) (by rw[e];exact hn)]
  exact(oc n (aaS W IE hn)).2
 have Ol:∀n∈x.iJ σ.ev,((C'.cV uy).put dy vy).h n=σ.h n:=fun n hn=>XY n (Kl hn)
 refine⟨(C'.cV uy).put dy vy,?_,?_,?_,?_⟩
 ·rw[Ie yl DN,HZ]
  simp only[Option.bind_some,v8,Er U6 hC,Option.map_some]
 ·rw[Ie (ws:=wx) (by rw[Lt Iz Ol];exact yk) uu,Vy Iz XY,HY]
  simp only[Option.bind_some,v8]
  rw[n9,acE,yU,Er (σ:=C'.cV uy) (fun q hq=>by rw[kR];exact uxC q hq) (Er uyC hCF)]
  simp only[Option.map_some]
  rw[n9,n9,aoE ur]
  congr 1
  have e1:(C'.cV uy).env=σ.env:=by rw[kR];exact ec
  have e2:(A'.cV ux).env=σ.env:=by rw[kR];exact ea
  show St.we _ (gX (gX (C'.cV uy).env dy vy) dx vx)=St.we _ (gX (gX (A'.cV ux).env dx vx) dy vy)
  rw[e1,e2,Kt σ.env _ _ hd]
  rfl
 ·unfold aC.fp
  rw[r1,r2]
 ·unfold aC.fp
  rw[Lt Iz Ol,RT Iz Ol]
end
end Go.Am
end
section
namespace Go.Am
def C9 (x y:bL):Bool:=x.op.dH==0||y.op.dH==0||(decide (x.op.dH<=1)&&decide (y.op.dH<=1))
def Da (x y:bL):Bool:=
 (match x.dst with|some d=>y.tA d&&(match y.dst with|some e=>e !=d|none=>true)|none=>true)&&
 (match y.dst with|some d=>x.tA d|none=>true)&&x.pF&&y.pF
theorem adI {T:bj} {x y:bL} {σ σ1 σ2:St} (W:Wf σ) (hc:Da x y=true) (hk:C9 x y=true\/Df (x.fp σ) (y.fp σ1)=true) (h1:eC T x σ=some σ1) (h2:eC T y σ1=some σ2):
  ∃τ,eC T y σ=some τ/\eC T x τ=some σ2/\y.fp σ1=y.fp σ/\x.fp τ=x.fp σ:=by
 simp only[Da,Bool.and_eq_true] at hc
 obtain⟨⟨⟨c1,c2⟩,c3⟩,c4⟩:=hc
 rw[Aq] at h1 h2
 cases ex:lV x σ.env with
 |none=>rw[ex] at h1;cases h1
 |some je=>
  rw[ex] at h1
  have h1:aG T x.dst je σ=some σ1:=h1
  have jx:je=x.op\/je=.mv (.k (.bn [])):=H4 ex
  have zv:∀sz p v,je=.store sz p v->x.dst=none:=by
   intro sz p v he
   rcases jx with rfl|rfl
   ·simp only[bL.pF,Bool.and_eq_true,he] at c3;simpa using c3.2
   ·cases he
  have rq:=v7 zv h1
  have O2:∀s w,y.guard=some (s,w)->x.dst≠some s:=by
   intro s w hg hd
   rw[hd] at c1
   simp[bL.tA,hg] at c1
  have IX:∀s w,x.guard=some (s,w)->y.dst≠some s:=by
   intro s w hg hd
   rw[hd] at c2
   simp[bL.tA,hg] at c2
  have Ig:lV y σ1.env=lV y σ.env:=Dg fun s w hg=>by rw[rq];exact qw (O2 s w hg)
  rw[Ig] at h2
  cases ey:lV y σ.env with
  |none=>rw[ey] at h2;cases h2
  |some iL=>
   rw[ey] at h2
   have h2:aG T y.dst iL σ1=some σ2:=h2
   have jy:iL=y.op\/iL=.mv (.k (.bn [])):=H4 ey
   have xt:∀sz p v,iL=.store sz p v->y.dst=none:=by
    intro sz p v he
    rcases jy with rfl|rfl
    ·simp only[bL.pF,Bool.and_eq_true,he] at c4;simpa using c4.2
    ·cases he
   have Dq:∀a∈je.args,a.flat=true:=by
    rcases jx with rfl|rfl
    ·simp only[bL.pF,Bool.and_eq_true,List.all_eq_true] at c3;exact c3.1
    ·intro a ha;simp[aC.args] at ha;subst ha;rfl
   have Dr:∀a∈iL.args,a.flat=true:=by
    rcases jy with rfl|rfl
    ·simp only[bL.pF,Bool.and_eq_true,List.all_eq_true] at c4;exact c4.1
    ·intro a ha;simp[aC.args] at ha;subst ha;rfl
   have j5:∀n,x.dst=some n->MO.t n∉iL.args:=by
    intro n hd
    rcases jy with rfl|rfl
    ·rw[hd] at c1
     simp only[Bool.and_eq_true] at c1
     exact bL.Km c1.1
    ·simp[aC.args]
   have sI:∀n,y.dst=some n->MO.t n∉je.args:=by
    intro n hd
    rcases jx with rfl|rfl
    ·rw[hd] at c2
     exact bL.Km c2
    ·simp[aC.args]
   have ur:∀n,x.dst=some n->y.dst≠some n:=by
    intro n hd he
    rw[hd,he] at c1
    simp at c1
   have yfp:y.fp σ1=iL.fp σ1:=by unfold bL.fp;rw[Ig,ey]
   have aoS:y.fp σ=iL.fp σ:=by unfold bL.fp;rw[ey]
   have acQ:x.fp σ=je.fp σ:=by unfold bL.fp;rw[ex]
   have xfp:∀τ,aG T y.dst iL σ=some τ->x.fp τ=je.fp τ:=by
    intro τ t1
    unfold bL.fp
    rw[Dg (e:=σ.env) (fun s w hg=>by rw[v7 xt t1];exact qw (IX s w hg)),ex]
   have gB:(∃τ,aG T y.dst iL σ=some τ/\aG T x.dst je τ=some σ2/\iL.fp σ1=iL.fp σ/\je.fp τ=je.fp σ)->∃τ,eC T y σ=some τ/\eC T x τ=some σ2/\y.fp σ1=y.fp σ/\x.fp τ=x.fp σ:=by
    rintro⟨τ,t1,t2,t3,t4⟩
    refine⟨τ,?_,?_,?_,?_⟩
    ·rw[Aq,ey];exact t1
    ·rw[Aq,Dg (e:=σ.env) (fun s w hg=>by rw[v7 xt t1];exact qw (IX s w hg)),ex];exact t2
    ·rw[yfp,aoS,t3]
    ·rw[xfp τ t1,acQ,t4]
   apply gB
   rcases hk with c5|hk
   ·have bN:je.dH=0\/iL.dH=0\/(je.dH<=1/\iL.dH<=1):=by
     rcases jx with rfl|rfl
     ·rcases jy with rfl|rfl
      ·simp only[C9,Bool.or_eq_true,beq_iff_eq,Bool.and_eq_true,decide_eq_true_eq,or_assoc] at c5
       exact c5
      ·exact .inr (.inl rfl)
     ·exact .inl rfl
    obtain⟨τ,t1,t2⟩:=Wi W ur j5 sI Dq Dr zv xt bN h1 h2
    refine⟨τ,t1,t2,Xw W j5 Dr zv (by omega) h1,Xw W sI Dq xt (by omega) t1⟩
   ·rw[yfp,acQ] at hk
    exact adH W ur j5 sI Dq Dr zv xt hk h1 h2
def CX (T:bj) (ms:List bL) (F:Nat->Option FP):List Nat->St->St->Prop
 |[],σ,iO=>σ=iO
 |i::L,σ,iO=>∃m σ1,ms[i]? =some m/\F i=m.fp σ/\eC T m σ=some σ1/\CX T ms F L σ1 iO
def Vq (F:Nat->Option FP) (ms:List bL) (i j:Nat) (m:bL):Prop:=∃mj,ms[j]? =some mj/\Da mj m=true/\(C9 mj m=true\/Df (F j) (F i)=true)
structure Vk (F:Nat->Option FP) (ops:Array Oper) (ms:List bL):Prop where
 back:∀(i:Nat) (o:Oper),ops[i]? =some o->∀e∈o.after,Region.binds .any e=true->e.on<i
 pair:∀(i j:Nat) (o:Oper) (m:bL),ops[i]? =some o->ms[i]? =some m->j<i->vu ops i j\/Vq F ms i j m
section
variable {B:Nat} {E:Ex} {w0 w w':World} {G G':Gh} {N:Nat}
variable {P:Program} {T:bj} {o:Oper} {mo:bL} {a:Act} {σ σ':St} {Q:Exit->Act->World->Prop} {ops:Array Oper}
theorem abb (hT:nu P T) {ms:List bL} {F:Nat->Option FP} (rc:∀(i:Nat) (m:bL),ms[i]? =some m->∃o,ops[i]? =some o/\ua P N ops o m=true) {i:Nat} {mi:bL} (hi:ms[i]? =some mi) {post:List Nat} {iO:St}:
  ∀{pre:List Nat} {σ:St},Gq B E w0 N σ->CX T ms F (pre++i::post) σ iO->(∀j∈pre,Vq F ms i j mi)->
  ∃τ,F i=mi.fp σ/\eC T mi σ=some τ/\CX T ms F (pre++post) τ iO
 |[],σ,hr,hx,hc=>by
  obtain⟨m,σ1,h1,h2,h3,h4⟩:=hx
  rw[hi] at h1
  injection h1 with h1
  subst h1
  exact⟨σ1,h2,h3,h4⟩
 |j::pre,σ,hr,hx,hc=>by
  obtain⟨mj,σ1,k1,k2,k3,k4⟩:=hx
  obtain⟨mj',hj,mK,bN⟩:=hc j (by simp)
  rw[k1] at hj
  injection hj with hj
  subst hj
  obtain⟨oj,_,fU⟩:=rc j mj k1
  obtain⟨oy,t0,t1,t2⟩:=abb hT rc hi (aa1 hr hT fU k3) k4 (fun k hk=>hc k (by simp[hk]))
  obtain⟨a,w,G,r⟩:=hr
  rw[k2,t0] at bN
  obtain⟨τ,s1,s2,s3,s4⟩:=adI r.wf mK bN k3 t1
  exact⟨τ,by rw[t0,s3],s1,mj,oy,k1,by rw[s4];exact k2,s2,t2⟩
theorem aoQ (hT:nu P T) {ms:List bL} {F:Nat->Option FP} (rc:∀(i:Nat) (m:bL),ms[i]? =some m->∃o,ops[i]? =some o/\ua P N ops o m=true) (hlen:ms.length=ops.size) (hd:Vk F ops ms) {iO:St}
  (hQ:∀a w G,R B E w0 N iO a w G->Q .normal a w):
  ∀(ia:Nat) (L:List Nat) (cK:Array Bool) (σ:St) (a:Act) (w:World) (G:Gh),R B E w0 N σ a w G->CX T ms F L σ iO->L.Pairwise (·<·)->L.length<=ia->cK.size=ops.size->
   (∀j,j∈L↔cK.getD j true=false)->Lx ops cK->wpAny P .any ops Q ia cK a w:=by
 have first:∀(L:List Nat) (cK:Array Bool),L.Pairwise (·<·)->cK.size=ops.size->(∀j,j∈L↔cK.getD j true=false)->Region.ready .any ops cK=[]->L=[]:=by
  intro L cK hp hs hL hr
  cases L with
  |nil=>rfl
  |cons j L=>
   exfalso
   have hj:=(hL j).1 (by simp)
   have kv:j<ops.size:=by
    rw[<-hs]
    rcases Nat.lt_or_ge j cK.size with h|h
    ·exact h
    ·simp[Array.getElem?_eq_none h] at hj
   have ho:ops[j]? =some ops[j]:=Array.getElem?_eq_getElem kv
   have:j∈Region.ready .any ops cK:=by
    rw[mem_ready]
    refine⟨hj,_,ho,fun e he hb=>?_⟩
    have bH:=hd.back j _ ho e he hb
    have nM:e.on∉j::L:=by
     intro hm
     cases hm with
     |head=>omega
     |tail _ hm=>have:=(List.pairwise_cons.1 hp).1 _ hm;omega
    have ax:cK.getD e.on true≠false:=fun h=>nM ((hL e.on).2 h)
    have oN:e.on<cK.size:=by omega
    simp[oN] at ax⊢
    exact ax
   rw[hr] at this
   cases this
 intro ia
 induction ia with
 |zero=>
  intro L cK σ a w G r hx hp hl hs hL hC
  have ra:L=[]:=List.eq_nil_of_length_eq_zero (by omega)
  subst ra
  have hx:σ=iO:=hx
  subst hx
  refine⟨?_,hQ _ _ _ r⟩
  cases hr:Region.ready .any ops cK with
  |nil=>rfl
  |cons i l=>
   have hm:i∈Region.ready .any ops cK:=by rw[hr];simp
   have:=(hL i).2 (mem_ready.1 hm).1
   cases this
 |succ ia ih=>
  intro L cK σ a w G r hx hp hl hs hL hC
  refine⟨fun hr=>?_,fun i hi=>?_⟩
  ·have ra:=first L cK hp hs hL hr
   subst ra
   have hx:σ=iO:=hx
   subst hx
   exact hQ _ _ _ r
  ·obtain⟨Oo,oi,jJ,DG⟩:=mem_ready.1 hi
   have pM:i∈L:=(hL i).2 Oo
   obtain⟨pre,post,rfl⟩:=List.append_of_mem pM
   have his:i<ops.size:=(Array.getElem?_eq_some_iff.1 jJ).1
   have yI:ms[i]? =some ms[i]:=List.getElem?_eq_getElem (by omega)
   obtain⟨o',gh,N9⟩:=rc i _ yI
   rw[jJ] at gh
   injection gh with gh
   subst gh
   have fQ:=List.pairwise_append.1 hp
   obtain⟨τ,t0,t1,t2⟩:=abb (ops:=ops) hT rc yI ⟨a,w,G,r⟩ hx (fun j hj=>by
    have oO:j<i:=fQ.2.2 j hj i (by simp)
    rcases hd.pair i j oi _ jJ yI oO with NZ|h
    ·have h1:=VR hC NZ (fun o ho e he hb=>by
      rw[jJ] at ho
      injection ho with ho
      subst ho
      have h1:=DG e he hb
      have bH:=hd.back i _ jJ e he hb
      have oN:e.on<cK.size:=by omega
      simp[oN] at h1⊢
      exact h1)
     have h2:=(hL j).1 (by simp[hj])
     rw[h1] at h2
     cases h2
    ·exact h)
   have D8:∀a' w',Nx B E w0 N τ a' w'->wpAny P .any ops Q ia (cK.setIfInBounds i true) a' w':=by
    rintro a' w' ⟨G',r'⟩
    refine ih (pre++post) _ τ a' w' G' r' t2 ?_ (by simp at hl⊢;omega) (by simpa using hs) (fun j=>?_) (fun k o ho hk e he hb=>?_)
    ·rw[List.pairwise_append]
     exact⟨fQ.1,(List.pairwise_cons.1 fQ.2.1).2,fun x hx y hy=>fQ.2.2 x hx y (by simp[hy])⟩
    ·by_cases oO:j=i
     ·subst oO
      have kv:j<cK.size:=by omega
      simp only[List.mem_append]
      constructor
      ·rintro(h|h)
       ·have:=fQ.2.2 j h j (by simp);omega
       ·have:=(List.pairwise_cons.1 fQ.2.1).1 j h;omega
      ·intro h
       simp[kv] at h
     ·rw[getD_set_ne true (Ne.symm oO),<-hL j]
      simp[oO]
    ·have DW:∀q,cK.getD q true=true->(cK.setIfInBounds i true).getD q true=true:=by
      intro q hq
      by_cases oQ:q=i
      ·subst oQ
       have:q<cK.size:=by omega
       simp[this]
      ·rw[getD_set_ne true (Ne.symm oQ)];exact hq
     by_cases DT:k=i
     ·subst DT
      rw[jJ] at ho
      injection ho with ho
      subst ho
      have h1:=DG e he hb
      have bH:=hd.back k _ jJ e he hb
      have oN:e.on<cK.size:=by omega
      refine DW _ ?_
      simp[oN] at h1⊢
      exact h1
     ·rw[getD_set_ne true (Ne.symm DT)] at hk
      exact DW _ (hC k o ho hk e he hb)
   unfold wpOp
   rw[jJ]
   simp only
   rcases Ic (Q:=Q) r hT N9 t1 with⟨hw,h⟩|⟨hw,h⟩
   ·rw[if_pos hw]
    exact .inl (Oper.wp_mono D8 h)
   ·rw[if_neg (by simp[hw])]
    exact D8 _ _ h
def HJ (ps:List (Nat×Nat)) (ops:List Oper) (ms:List bL):Bool:=
 (fun ks:List Nat=>(List.range ops.length).all fun i=>match ops[i]?,ms[i]? with
  |some o,some m=>(o.after.toList.all fun e=> !Region.binds .any e||decide (e.on<i))&&
   (List.range i).all fun j=>(ks.getD i 0).testBit j||(match ms[j]? with|some mj=>Da mj m&&(C9 mj m||ps.contains (j,i))|none=>false)
  |_,_=>false) (BT ops [])
theorem adz {ps:List (Nat×Nat)} {ms:List bL} {fs:List (Option FP)} (h:HJ ps ops.toList ms=true) (hp:xa ps fs=true):Vk (fun i=>fs.getD i none) ops ms:=by
  simp only[HJ,List.all_eq_true,List.mem_range] at h
  have cr:∀(i:Nat) (o:Oper),ops[i]? =some o->∃m,ms[i]? =some m/\(o.after.toList.all fun e=> !Region.binds .any e||decide (e.on<i))=true/\
        ∀j,j<i->(((BT ops.toList []).getD i 0).testBit j||(match ms[j]? with|some mj=>Da mj m&&(C9 mj m||ps.contains (j,i))|none=>false))=true:=by
    intro i o ho
    have hi:i<ops.toList.length:=by simpa using(Array.getElem?_eq_some_iff.1 ho).1
    have hi':=h i hi
    have gh:ops.toList[i]? =some o:=by simpa using ho
    rw[gh] at hi'
    cases hm:ms[i]? with
    |none=>rw[hm] at hi';cases hi'
    |some m=>
     rw[hm] at hi'
     simp only[Bool.and_eq_true,List.all_eq_true,List.mem_range] at hi'
     exact⟨m,rfl,by rw[List.all_eq_true];exact hi'.1,hi'.2⟩
  refine⟨fun i o ho e he hb=>?_,fun i j o m ho hm hj=>?_⟩
  · obtain⟨m,_,k1,_⟩:=cr i o ho
    have:=List.all_eq_true.1 k1 e (Array.mem_toList_iff.2 he)
    simp[hb] at this
    exact this
  · obtain⟨m',bB,_,k2⟩:=cr i o ho
    rw[hm] at bB
    injection bB with bB
    subst bB
    have:=k2 j hj
    rw[Bool.or_eq_true] at this
    rcases this with h1|h1
    · exact .inl (Qy ops.toList [] [] rfl rfl (by intro i k hb;simp at hb) i j h1)
    · cases AJ:ms[j]? with
      |none=>rw[AJ] at h1;cases h1
      |some mj=>
       rw[AJ] at h1
       simp only[Bool.and_eq_true,Bool.or_eq_true] at h1
       refine .inr ⟨mj,AJ,h1.1,?_⟩
       rcases h1.2 with h2|h2
       · exact .inl h2
       · refine .inr ?_
         have:=List.all_eq_true.1 hp (j,i) (by simpa using h2)
         exact this
theorem W3 {ms:List bL}:∀(post pre:List bL) (σ iO:St) (fs cL:List (Option FP)),ms=pre++post->cL.length=pre.length->qU T post cL σ=some (fs,iO)->
  cL=fs.take cL.length/\CX T ms (fun i=>fs.getD i none) (List.range' pre.length post.length) σ iO
 |[],pre,σ,iO,fs,cL,he,hl,hx=>by
  simp only[qU] at hx
  injection hx with hx
  injection hx with h1 h2
  subst h1 h2
  exact⟨by simp,rfl⟩
 |m::post,pre,σ,iO,fs,cL,he,hl,hx=>by
  simp only[qU] at hx
  split at hx
  ·rename_i σ1 e1
   obtain⟨h1,h2⟩:=W3 (ms:=ms) post (pre++[m]) σ1 iO fs (cL++[m.fp σ]) (by simp[he]) (by simp[hl]) hx
   have h3:fs[cL.length]? =some (m.fp σ):=by
    have:(fs.take (cL++[m.fp σ]).length)[cL.length]? =some (m.fp σ):=by rw[<-h1];simp
    rw[List.getElem?_take] at this
    split at this
    ·exact this
    ·cases this
   have h4:cL=fs.take cL.length:=by
    have:=congrArg (List.take cL.length) h1
    simpa[List.take_take] using this
   refine⟨h4,m,σ1,?_,?_,e1,?_⟩
   ·rw[he,List.getElem?_append_right (Nat.le_refl _),Nat.sub_self];rfl
   ·show fs.getD pre.length none=_
    rw[<-hl,List.getD_eq_getElem?_getD,h3];rfl
   ·simpa using h2
  ·cases hx
theorem am6 (hT:nu P T) (hm:P.follows .mixedOrders=true) {id:Nat} {ps:List (Nat×Nat)} {ms:List bL} {fs:List (Option FP)} (hc:oH P N ops ops.toList ms=true) (hd:HJ ps ops.toList ms=true)
  (hx:qU T ms [] σ=some (fs,σ')) (hp:xa ps fs=true) (r:R B E w0 N σ a w G) (hQ:∀a w G,R B E w0 N σ' a w G->Q .normal a w):(Code.region id ops true).wp P Q a w:=by
 obtain⟨k1,k2⟩:=Mr hc
 have hlen:ms.length=ops.size:=by simpa using k1
 refine wp_region_any hm (aoQ (B:=B) (E:=E) (w0:=w0) (N:=N) hT (fun i m h=>by
  obtain⟨o,h1,h2⟩:=k2 i m h;exact⟨o,by simpa using h1,h2⟩) hlen (adz hd hp) hQ ops.size (List.range ops.size) _ σ a _ G (r.drawn _) ?_ ?_ (by simp) (by simp) (fun j=>?_) (fun k o ho hk=>?_))
 ·have:=(W3 (T:=T) (ms:=ms) ms [] σ σ' fs [] rfl rfl hx).2
  simp only[List.length_nil,hlen,<-List.range_eq_range'] at this
  exact this
 ·exact List.pairwise_lt_range
 ·rw[List.mem_range]
  constructor
  ·intro h;simp[h]
  ·intro h
   rcases Nat.lt_or_ge j ops.size with h'|h'
   ·exact h'
   ·simp[Array.getElem?_eq_none (show(Array.replicate ops.size false).size<=j by simpa using h')] at h
 ·exfalso
  have Oy:k<ops.size:=(Array.getElem?_eq_some_iff.1 ho).1
  simp[Oy] at hk
end
end Go.Am
end
