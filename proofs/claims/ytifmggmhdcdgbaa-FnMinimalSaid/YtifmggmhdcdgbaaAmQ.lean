/- AmP, AmQ: parts of the proof. No condition. -/
import Derived.Test.YtifmggmhdcdgbaaAm21
set_option linter.unusedVariables false
set_option linter.unusedSimpArgs false
section
namespace Go.Am
theorem ai.ah6 {c:ai} {m:Nat}:m∈c.qT↔c.g7 m:=by
 cases c<;>simp[ai.qT,ai.g7]
theorem ai.Dz {c:ai} {m:Nat}:m∈c.nm↔c.ref m:=by
 cases c with
 |fn f bY=>simp[ai.nm,ai.ref,List.mem_flatMap,ai.ah6]
 |_=>simp[ai.nm,ai.qT,ai.ref,ai.g7]
theorem ak.ym {v:ak} {m:Nat}:m∈v.fQ↔v.ref m:=by
 cases v with
 |one c=>exact ai.Dz
 |agg cs=>simp[ak.fQ,ak.ref,List.mem_flatMap,ai.Dz]
 |bn xs=>simp only[ak.fQ,ak.ref,List.mem_flatMap,ai.Dz]
theorem oz {op:aC} {ev:MO->ak} {n:Nat}:n∈op.iq ev↔∃a∈op.args,(ev a).ref n:=by
 simp[aC.iq,List.mem_flatMap,ak.ym]
theorem H6 {op:aC} {ev:MO->ak} {h:Nat->Option aq} {n:Nat} (hn:n∈op.iq ev):n∈op.lB ev h:=by
 unfold aC.lB
 cases op.Dh with
 |true=>exact List.mem_append.2 (.inl hn)
 |false=>exact hn
theorem Z7 {op:aC} {ev:MO->ak} {h:Nat->Option aq} {ws:List Nat} (hw:op.jF ev h=some ws) {n:Nat} (hn:n∈ws):n∈op.iq ev:=by
 cases op<;>simp only[aC.jF] at hw<;>first|(cases hw;cases hn)|(cases hw;done)|skip
 case store sz x v=>
  split at hw
  ·rename_i q _ _ _ hx
   have hq:q∈(aC.store sz x v).iq ev:=oz.2 ⟨x,by simp[aC.args],by rw[hx];exact rfl⟩
   split at hw
   ·injection hw with hw;subst hw;simp at hn;subst hn;exact hq
   ·injection hw with hw;subst hw
    rcases List.mem_cons.1 hn with rfl|hn
    ·exact hq
    ·exact oz.2 ⟨v,by simp[aC.args],ak.ym.1 hn⟩
   ·cases hw
  ·rename_i q _ _ _ _ _ hx
   have hq:q∈(aC.store sz x v).iq ev:=oz.2 ⟨x,by simp[aC.args],by rw[hx];exact rfl⟩
   injection hw with hw;subst hw;simp at hn;subst hn;exact hq
  ·cases hw
 case copy sz x y=>
  split at hw
  ·rename_i q _ _ _ hx
   injection hw with hw;subst hw;simp at hn;subst hn
   exact oz.2 ⟨x,by simp[aC.args],by rw[hx];exact rfl⟩
  ·cases hw
 case ki z x=>
  split at hw
  ·rename_i q _ _ _ hx
   injection hw with hw;subst hw;simp at hn;subst hn
   exact oz.2 ⟨x,by simp[aC.args],by rw[hx];exact rfl⟩
  ·cases hw
 case fg sz ps=>
  injection hw with hw
  subst hw
  obtain⟨a,ha,hn⟩:=List.mem_flatMap.1 hn
  exact oz.2 ⟨a,ha,ak.ym.1 hn⟩
 case dn f xs=>
  injection hw with hw
  subst hw
  obtain⟨a,ha,hn⟩:=List.mem_flatMap.1 hn
  exact oz.2 ⟨a,ha,ak.ym.1 hn⟩
 case append fl sz by_ x y=>
  injection hw with hw
  subst hw
  rcases List.mem_append.1 hn with hn|hn
  ·exact oz.2 ⟨x,by simp[aC.args],ak.ym.1 hn⟩
  ·exact oz.2 ⟨y,by simp[aC.args],ak.ym.1 hn⟩
def St.cU (σ:St):List (Nat×Option aq)->St
 |[]=>σ
 |(n,b)::l=>St.cU {σ with h:=au σ.h n b} l
def df (h:Nat->Option aq):List (Nat×Option aq)->(Nat->Option aq)
 |[]=>h
 |(n,b)::l=>df (au h n b) l
theorem kJ:∀(l:List (Nat×Option aq)) (σ:St),σ.cU l={σ with h:=df σ.h l}
 |[],σ=>rfl
 |(n,b)::l,σ=>by simp only[St.cU,df];rw[kJ l]
theorem mY:∀{l:List (Nat×Option aq)} {h:Nat->Option aq} {n:Nat},(∀p∈l,p.1≠n)->df h l n=h n
 |[],h,n,_=>rfl
 |(m,b)::l,h,n,hn=>by
  simp only[df]
  rw[mY fun p hp=>hn p (List.mem_cons_of_mem _ hp)]
  exact cb _ _ _ _ (fun e=>hn (m,b) (by simp) e.symm)
theorem ak7 (h:Nat->Option aq) (l l':List (Nat×Option aq)):df h (l++l')=df (df h l) l':=by
 induction l generalizing h with
 |nil=>rfl
 |cons x l ih=>obtain⟨n,b⟩:=x;exact ih _
theorem BA (σ:St) (l l':List (Nat×Option aq)):σ.cU (l++l')=(σ.cU l).cU l':=by
 simp only[kJ,ak7]
theorem Er:∀{l:List (Nat×Option aq)} {h h':Nat->Option aq} {n:Nat},(∃p∈l,p.1=n)->df h l n=df h' l n
 |[],h,h',n,hn=>by obtain⟨p,hp,_⟩:=hn;cases hp
 |(m,b)::l,h,h',n,hn=>by
  simp only[df]
  by_cases hl:∃p∈l,p.1=n
  ·exact Er hl
  ·have cf:∀p∈l,p.1≠n:=fun p hp e=>hl ⟨p,hp,e⟩
   rw[mY cf,mY cf]
   obtain⟨p,hp,e⟩:=hn
   rcases List.mem_cons.1 hp with rfl|hp
   ·simp only at e;subst e;rw[bC,bC]
   ·exact absurd e (cf p hp)
theorem ZR {u v:List (Nat×Option aq)} (hd:∀p∈u,∀q∈v,p.1≠q.1) (h:Nat->Option aq):df (df h u) v=df (df h v) u:=by
 funext n
 by_cases hu:∃p∈u,p.1=n
 ·obtain⟨p,hp,rfl⟩:=hu
  rw[mY (l:=v) fun q hq e=>hd p hp q hq e.symm]
  exact Er ⟨p,hp,rfl⟩
 ·rw[mY (l:=u) (h:=df h v) fun p hp e=>hu ⟨p,hp,e⟩]
  by_cases hv:∃q∈v,q.1=n
  ·exact Er hv
  ·rw[mY fun q hq e=>hv ⟨q,hq,e⟩,mY fun p hp e=>hu ⟨p,hp,e⟩,mY fun q hq e=>hv ⟨q,hq,e⟩]
theorem ak9 {u v:List (Nat×Option aq)} (hd:∀p∈u,∀q∈v,p.1≠q.1) (σ:St):(σ.cU u).cU v=(σ.cU v).cU u:=by
 simp only[kJ,ZR hd]
theorem ZS (σ:St) (e:Nat->ak) (l:List (Nat×Option aq)):(σ.we e).cU l=(σ.cU l).we e:=by
 simp only[kJ];rfl
theorem ak8 {l:List (Nat×Option aq)} {h:Nat->Option aq} {n:Nat} {b:Option aq} (hn:∀p∈l,p.1≠n):df (au h n b) l=au (df h l) n b:=by
 have:=ZR (u:=l) (v:=[(n,b)]) (fun p hp q hq=>by simp at hq;subst hq;exact hn p hp) h
 exact this.symm
theorem aeR {σ σ1:St} {l:List (Nat×Option aq)} {n:Nat} {b:aq} (hl:∀p∈l,σ.used p.1=true) (h:σ.ins n b=some σ1):(σ.cU l).ins n b=some (σ1.cU l):=by
 obtain⟨u1,rfl⟩:=lW h
 unfold St.ins
 rw[kJ,kJ]
 rw[if_neg (show¬σ.used n=true by rw[u1];simp)]
 simp only
 rw[ak8 fun p hp e=>by rw[<-e,hl p hp] at u1;cases u1]
theorem Df:∀{A:List (Nat×aq)} {σ σ1:St} {l:List (Nat×Option aq)},(∀p∈l,σ.used p.1=true)->σ.cF A=some σ1->(σ.cU l).cF A=some (σ1.cU l)
 |[],σ,σ1,l,hl,h=>by
  simp only[St.cF] at h⊢
  injection h with h
  rw[h]
 |(n,b)::A,σ,σ1,l,hl,h=>by
  simp only[St.cF] at h⊢
  split at h
  ·rename_i je e
   rw[aeR hl e]
   obtain⟨u1,rfl⟩:=lW e
   exact Df (fun p hp=>qc _ _ (hl p hp)) h
  ·cases h
theorem WJ:∀{A:List (Nat×aq)} {σ σ':St},σ.used=σ'.used->(σ.cF A).isSome=true->(σ'.cF A).isSome=true
 |[],σ,σ',hu,h=>rfl
 |(n,b)::A,σ,σ',hu,h=>by
  simp only[St.cF,St.ins] at h⊢
  rw[<-hu]
  split at h
  ·rename_i je e
   split at e
   ·cases e
   ·rename_i hn
    injection e with e
    subst e
    rw[if_neg hn]
    simp only
    exact WJ (by rfl) h
  ·cases h
theorem Nf {A:List (Nat×aq)} {σ B:St} {l:List (Nat×Option aq)} (hl:∀p∈l,σ.used p.1=true) (h:(σ.cU l).cF A=some B):∃B',σ.cF A=some B'/\B=B'.cU l:=by
 have hs:(σ.cF A).isSome=true:=WJ (A:=A) (σ:=σ.cU l) (σ':=σ) (by rw[kJ]) (by rw[h];rfl)
 cases e:σ.cF A with
 |none=>rw[e] at hs;cases hs
 |some B'=>
  refine⟨B',rfl,?_⟩
  have:=Df hl e
  rw[h] at this
  injection this
abbrev Us:=List (Nat×Option aq)
def rc (h:Nat->Option aq):ai->Option (C×Bool×Us)
 |.c x=>some (x,x.dT,[])
 |.nil sz=>if 0<sz then some (.list sz [],true,[]) else none
 |.sl n sz lo len=>
  match h n with
  |some (.row _ m rs xs)=>if rs=sz/\lo=0/\len<=xs.length then some (.list sz (xs.take len),decide (m≠ .aA),[(n,none)]) else none
  |_=>none
 |_=>none
def jb (h:Nat->Option aq):List ai->Option (List C×Bool×Us)
 |[]=>some ([],true,[])
 |c::cs=>match rc h c with
  |some (x,o,u)=>match jb (df h u) cs with
   |some (xs,o',u')=>some (x::xs,o&&o',u++u')
   |none=>none
  |none=>none
def nN (sz:Nat) (h:Nat->Option aq):List ak->Option (List (List C)×Bool×Us)
 |[]=>some ([],true,[])
 |v::vs=>match v.cells? with
  |some (_,cs)=>if cs.length=sz then
   match jb h cs with
   |some (e,o,u)=>match nN sz (df h u) vs with
    |some (es,o',u')=>some (e::es,o&&o',u++u')
    |none=>none
   |none=>none
   else none
  |none=>none
theorem Es (σ:St) (l:Us):(σ.cU l).h=df σ.h l:=by rw[kJ]
theorem ak0 (σ:St) (c:ai):σ.fC c=(rc σ.h c).map fun x=>(x.1,x.2.1,σ.cU x.2.2):=by
 cases c with
 |sl n sz lo len=>
  simp only[St.fC,rc]
  cases σ.h n with
  |none=>rfl
  |some b=>cases b with
   |box cs=>rfl
   |row gr m rs xs=>simp only;split<;>rfl
 |nil sz=>simp only[St.fC,rc];split<;>rfl
 |_=>rfl
theorem I9:∀(cs:List ai) (σ:St),σ.fc cs=(jb σ.h cs).map fun x=>(x.1,x.2.1,σ.cU x.2.2)
 |[],σ=>rfl
 |c::cs,σ=>by
  simp only[St.fc,jb,ak0]
  cases rc σ.h c with
  |none=>rfl
  |some x=>
   obtain⟨x,o,u⟩:=x
   simp only[Option.map_some,I9 cs,Es]
   cases jb (df σ.h u) cs with
   |none=>rfl
   |some y=>obtain⟨xs,o',u'⟩:=y;simp only[Option.map_some,BA]
theorem ZI (sz:Nat):∀(vs:List ak) (σ:St),σ.kH sz vs=(nN sz σ.h vs).map fun x=>(x.1,x.2.1,σ.cU x.2.2)
 |[],σ=>rfl
 |v::vs,σ=>by
  simp only[St.kH,nN]
  cases v.cells? with
  |none=>rfl
  |some x=>
   obtain⟨b,cs⟩:=x
   simp only
   split
   ·rw[I9]
    cases jb σ.h cs with
    |none=>rfl
    |some y=>
     obtain⟨e,o,u⟩:=y
     simp only[Option.map_some,ZI sz vs,Es]
     cases nN sz (df σ.h u) vs with
     |none=>rfl
     |some y=>obtain⟨es,o',u'⟩:=y;simp only[Option.map_some,BA]
   ·rfl
theorem akY {h:Nat->Option aq} {c:ai} {x:C} {o:Bool} {u:Us} (e:rc h c=some (x,o,u)):∀q∈u,q.1∈c.nm:=by
 unfold rc at e
 split at e
 ·injection e with e;injection e with _ e;injection e with _ e;subst e;intro q hq;cases hq
 ·split at e
  ·injection e with e;injection e with _ e;injection e with _ e;subst e;intro q hq;cases hq
  ·cases e
 ·split at e
  ·split at e
   ·injection e with e;injection e with _ e;injection e with _ e;subst e;intro q hq;simp at hq;subst hq;simp[ai.nm,ai.qT]
   ·cases e
  ·cases e
 ·cases e
theorem I8:∀{cs:List ai} {h:Nat->Option aq} {xs:List C} {o:Bool} {u:Us},jb h cs=some (xs,o,u)->∀q∈u,q.1∈cs.flatMap ai.nm
 |[],h,xs,o,u,e=>by
  simp only[jb] at e
  injection e with e;injection e with _ e;injection e with _ e;subst e;intro q hq;cases hq
 |c::cs,h,xs,o,u,e=>by
  simp only[jb] at e
  split at e
  ·rename_i x o1 u1 e1
   split at e
   ·rename_i gR o2 u2 e2
    injection e with e;injection e with _ e;injection e with _ e;subst e
    intro q hq
    rw[List.flatMap_cons]
    rcases List.mem_append.1 hq with hq|hq
    ·exact List.mem_append.2 (.inl (akY e1 q hq))
    ·exact List.mem_append.2 (.inr (I8 e2 q hq))
   ·cases e
  ·cases e
theorem zj {v:ak} {b:Bool} {cs:List ai} (h:v.cells?=some (b,cs)):cs.flatMap ai.nm=v.fQ:=by
 cases v with
 |one c=>cases c<;>simp[ak.cells?] at h<;>(obtain⟨_,rfl⟩:=h;simp[ak.fQ])
 |agg cs'=>simp[ak.cells?] at h;obtain⟨_,rfl⟩:=h;rfl
 |bn xs=>simp[ak.cells?] at h
theorem ZH {sz:Nat}:∀{vs:List ak} {h:Nat->Option aq} {xs:List (List C)} {o:Bool} {u:Us},nN sz h vs=some (xs,o,u)->∀q∈u,q.1∈vs.flatMap ak.fQ
 |[],h,xs,o,u,e=>by
  simp only[nN] at e
  injection e with e;injection e with _ e;injection e with _ e;subst e;intro q hq;cases hq
 |v::vs,h,xs,o,u,e=>by
  simp only[nN] at e
  split at e
  ·rename_i b cs hv
   split at e
   ·split at e
    ·rename_i x o1 u1 e1
     split at e
     ·rename_i gR o2 u2 e2
      injection e with e;injection e with _ e;injection e with _ e;subst e
      intro q hq
      rw[List.flatMap_cons]
      rcases List.mem_append.1 hq with hq|hq
      ·exact List.mem_append.2 (.inl (zj hv▸I8 e1 q hq))
      ·exact List.mem_append.2 (.inr (ZH e2 q hq))
     ·cases e
    ·cases e
   ·cases e
  ·cases e
theorem Ep {h h':Nat->Option aq} {n:Nat} (hh:h' n=h n) (u:Us):df h' u n=df h u n:=by
 by_cases hu:∃p∈u,p.1=n
 ·exact Er hu
 ·rw[mY fun p hp e=>hu ⟨p,hp,e⟩,mY fun p hp e=>hu ⟨p,hp,e⟩,hh]
theorem akX {h h':Nat->Option aq} {c:ai} (hh:∀n∈c.nm,h' n=h n):rc h' c=rc h c:=by
 cases c with
 |sl n sz lo len=>simp only[rc];rw[hh n (by simp[ai.nm,ai.qT])]
 |_=>rfl
theorem I7:∀{cs:List ai} {h h':Nat->Option aq},(∀n∈cs.flatMap ai.nm,h' n=h n)->jb h' cs=jb h cs
 |[],h,h',_=>rfl
 |c::cs,h,h',hh=>by
  simp only[jb]
  rw[akX fun n hn=>hh n (by rw[List.flatMap_cons];exact List.mem_append.2 (.inl hn))]
  cases rc h c with
  |none=>rfl
  |some x=>
   obtain⟨x,o,u⟩:=x
   simp only
   rw[I7 (cs:=cs) (h:=df h u) (h':=df h' u) fun n hn=>Ep (hh n (by rw[List.flatMap_cons];exact List.mem_append.2 (.inr hn))) u]
theorem ZG {sz:Nat}:∀{vs:List ak} {h h':Nat->Option aq},(∀n∈vs.flatMap ak.fQ,h' n=h n)->nN sz h' vs=nN sz h vs
 |[],h,h',_=>rfl
 |v::vs,h,h',hh=>by
  simp only[nN]
  cases hv:v.cells? with
  |none=>rfl
  |some x=>
   obtain⟨b,cs⟩:=x
   simp only
   rw[I7 (cs:=cs) fun n hn=>hh n (by rw[List.flatMap_cons];exact List.mem_append.2 (.inl (zj hv▸hn)))]
   cases jb h cs with
   |none=>rfl
   |some y=>
    obtain⟨e,o,u⟩:=y
    simp only
    rw[ZG (vs:=vs) (h:=df h u) (h':=df h' u) fun n hn=>Ep (hh n (by rw[List.flatMap_cons];exact List.mem_append.2 (.inr hn))) u]
def wi (h:Nat->Option aq) (n:Nat) (gr:Bool) (m:Mode) (rs:Nat) (xs:List (List C)) (k off:Nat) (e:List C) (vs:List ai):Option Us:=
 match sub e off vs.length with
 |none=>none
 |some eR=>match jb h vs with
  |none=>none
  |some (cs,o,u)=>
   if m=.live then
    if eW cs=true/\eW eR=true/\(df h u n).isSome=true then some (u++[(n,some (.row gr m rs (xs.set k (bW e off cs))))]) else none
   else if(df h u n).isSome=true then some (u++[(n,some (.row gr (if o=true then m else .aA) rs (xs.set k (bW e off cs))))])
   else none
theorem akz (σ:St) (n:Nat) (gr:Bool) (m:Mode) (rs:Nat) (xs:List (List C)) (k off:Nat) (e:List C) (vs:List ai):
  mn σ n gr m rs xs k off e vs=(wi σ.h n gr m rs xs k off e vs).map fun u=>σ.cU u:=by
 unfold mn wi
 cases sub e off vs.length with
 |none=>rfl
 |some eR=>
  simp only[I9]
  cases jb σ.h vs with
  |none=>rfl
  |some x=>
   obtain⟨cs,o,u⟩:=x
   simp only[Option.map_some,Es]
   repeat' split
   all_goals first|rfl|(simp only[Option.map_some,BA];rfl)
def uF (h:Nat->Option aq) (sz:Nat):ak->Option (List (List C)×Mode×List (Nat×Option aq))
 |.one (.nil _)=>some ([],.ae,[])
 |.one (.sl a s 0 len)=>match h a with
  |some (.row true m rs xs)=>if rs=sz/\s=sz/\len=xs.length then some (xs,m,[(a,none)]) else none
  |_=>none
 |_=>none
def sW (fl:Bool) (h:Nat->Option aq) (sz:Nat) (m:Mode):ak->Option (List (List C)×Mode×List (Nat×Option aq))
  |.one (.nil _)=>some ([],m,[])
  |.one (.c (.list s ys))=>if s=sz then(if(fl&&fB ys)=true then some (ys,m,[]) else if m=.live then none else some (ys,.aA,[])) else none
  |.one (.sl b s lo len)=>match h b with
   |some (.row _ m' rs ys)=>if rs=sz/\s=sz/\lo+len<=ys.length then
       (if(fl&&fB ((ys.drop lo).take len))=true then some ((ys.drop lo).take len,m,[])
        else if lo=0/\len=ys.length then(if m=m' then some (ys,m,[(b,none)]) else if m=.live\/m'=.live then none else some (ys,.aA,[(b,none)])) else none)
    else none
   |_=>none
  |_=>none
theorem aan (σ:St) (sz:Nat) (v:ak):oU σ sz v=(uF σ.h sz v).map fun x=>(x.1,x.2.1,σ.cU x.2.2):=by
 cases v with
 |one v=>cases v with
  |sl a s lo len=>cases lo with
   |zero=>
    simp only[oU,uF]
    cases σ.h a with
    |none=>rfl
    |some b=>cases b with
     |box cs=>rfl
     |row gr m rs xs=>cases gr with
      |true=>simp only;split<;>rfl
      |false=>rfl
   |succ lo=>rfl
  |_=>rfl
 |_=>rfl
theorem aap (fl:Bool) (σ:St) (sz:Nat) (m:Mode) (v:ak):kQ fl σ sz m v=(sW fl σ.h sz m v).map fun x=>(x.1,x.2.1,σ.cU x.2.2):=by
 cases v with
 |one v=>cases v with
  |sl b s lo len=>
   simp only[kQ,sW]
   cases σ.h b with
   |none=>rfl
   |some b=>cases b with
    |box cs=>rfl
    |row gr m rs xs=>
     simp only
     repeat' split
     all_goals rfl
  |c x=>cases x with
   |list s ys=>
    simp only[kQ,sW]
    repeat' split
    all_goals rfl
   |_=>rfl
  |_=>rfl
 |_=>rfl
def kR (h:Nat->Option aq):List ak->Option (List Dv×List Nat×Us)
 |[]=>some ([],[],[])
 |v::vs=>match mr h v with
  |some (n,xs)=>match kR h vs with
   |some (ds,ns,u)=>some ((.ptr,xs)::ds,n::ns,u)
   |none=>none
  |none=>match v.cells? with
   |some (ag,cs)=>match jb h cs with
    |some (xs,_,u)=>match kR (df h u) vs with
     |some (ds,ns,u')=>some ((if ag=true then .agg else .one,xs)::ds,ns,u++u')
     |none=>none
    |none=>none
   |none=>none
theorem JZ:∀(vs:List ak) (σ:St),σ.gV vs=(kR σ.h vs).map fun x=>(x.1,x.2.1,σ.cU x.2.2)
 |[],σ=>rfl
 |v::vs,σ=>by
  simp only[St.gV,kR]
  cases mr σ.h v with
  |some x=>
   obtain⟨n,xs⟩:=x
   simp only[JZ vs σ]
   cases kR σ.h vs<;>rfl
  |none=>
   simp only
   cases v.cells? with
   |none=>rfl
   |some x=>
    obtain⟨ag,cs⟩:=x
    simp only
    rw[I9]
    cases jb σ.h cs with
    |none=>rfl
    |some y=>
     obtain⟨e,o,u⟩:=y
     simp only[Option.map_some,JZ vs,Es]
     cases kR (df σ.h u) vs with
     |none=>rfl
     |some y=>obtain⟨ds,ns,u'⟩:=y;simp only[Option.map_some,BA]
theorem aay {h:Nat->Option aq} {v:ak} {n:Nat} {xs:List C} (e:mr h v=some (n,xs)):n∈v.fQ:=by
 obtain⟨sz,cs,rfl,_⟩:=J3 e
 simp[ak.fQ,ai.nm,ai.qT]
theorem FR:∀{vs:List ak} {h:Nat->Option aq} {ds:List Dv} {ns:List Nat} {u:Us},kR h vs=some (ds,ns,u)->(∀q∈u,q.1∈vs.flatMap ak.fQ)/\∀n∈ns,n∈vs.flatMap ak.fQ
 |[],h,ds,ns,u,e=>by
  simp only[kR] at e
  injection e with e;injection e with _ e;injection e with e1 e;subst e e1;exact⟨fun q hq=>(by cases hq),fun q hq=>(by cases hq)⟩
 |v::vs,h,ds,ns,u,e=>by
  simp only[kR] at e
  split at e
  ·rename_i n xs hp
   split at e
   ·rename_i xa jB u' e2
    injection e with e;injection e with _ e;injection e with e1 e;subst e e1
    obtain⟨i1,i2⟩:=FR e2
    rw[List.flatMap_cons]
    refine⟨fun q hq=>List.mem_append.2 (.inr (i1 q hq)),fun m hm=>?_⟩
    rcases List.mem_cons.1 hm with rfl|hm
    ·exact List.mem_append.2 (.inl (aay hp))
    ·exact List.mem_append.2 (.inr (i2 m hm))
   ·cases e
  ·split at e
   ·rename_i b cs hv
    split at e
    ·rename_i x o1 u1 e1
     split at e
     ·rename_i ds2 XZ u2 e2
      injection e with e;injection e with _ e;injection e with e3 e;subst e e3
      obtain⟨i1,i2⟩:=FR e2
      rw[List.flatMap_cons]
      refine⟨fun q hq=>?_,fun m hm=>List.mem_append.2 (.inr (i2 m hm))⟩
      rcases List.mem_append.1 hq with hq|hq
      ·exact List.mem_append.2 (.inl (zj hv▸I8 e1 q hq))
      ·exact List.mem_append.2 (.inr (i1 q hq))
     ·cases e
    ·cases e
   ·cases e
theorem aax {h h':Nat->Option aq} {v:ak} (hh:∀n∈v.fQ,h' n=h n):mr h' v=mr h v:=by
 cases v with
 |one c=>cases c with
  |ptr n k sz off=>simp only[mr];rw[hh n (by simp[ak.fQ,ai.nm,ai.qT])]
  |_=>rfl
 |_=>rfl
theorem JX:∀{vs:List ak} {h h':Nat->Option aq},(∀n∈vs.flatMap ak.fQ,h' n=h n)->kR h' vs=kR h vs
 |[],h,h',_=>rfl
 |v::vs,h,h',hh=>by
  have h1:∀n∈v.fQ,h' n=h n:=fun n hn=>hh n (by rw[List.flatMap_cons];exact List.mem_append.2 (.inl hn))
  have h2:∀n∈vs.flatMap ak.fQ,h' n=h n:=fun n hn=>hh n (by rw[List.flatMap_cons];exact List.mem_append.2 (.inr hn))
  simp only[kR]
  rw[aax h1]
  cases mr h v with
  |some x=>
   obtain⟨n,xs⟩:=x
   simp only
   rw[JX h2]
  |none=>
   simp only
   cases hv:v.cells? with
   |none=>rfl
   |some x=>
    obtain⟨b,cs⟩:=x
    simp only
    rw[I7 (cs:=cs) fun n hn=>h1 n (zj hv▸hn)]
    cases jb h cs with
    |none=>rfl
    |some y=>
     obtain⟨e,o,u⟩:=y
     simp only
     rw[JX (vs:=vs) (h:=df h u) (h':=df h' u) fun n hn=>Ep (h2 n hn) u]
def tY (h:Nat->Option aq):List Nat->List C->Option Us
 |[],[]=>some []
 |[n],out=>match h n with
  |some (.box cs)=>if cs.length=out.length then some [(n,some (.box (out.map .c)))] else none
  |_=>none
 |_,_=>none
theorem ai1 (σ:St) (ns:List Nat) (out:List C):σ.qU ns out=(tY σ.h ns out).map σ.cU:=by
 match ns,out with
 |[],[]=>rfl
 |[],_::_=>rfl
 |[n],out=>
  simp only[St.qU,tY]
  cases σ.h n with
  |none=>rfl
  |some b=>
   cases b with
   |box cs=>simp only;split<;>rfl
   |row gr m rs xs=>rfl
 |_::_::_,out=>rfl
theorem ai0 {h:Nat->Option aq} {ns:List Nat} {out:List C} {u:Us} (e:tY h ns out=some u):∀q∈u,q.1∈ns:=by
 unfold tY at e
 split at e
 ·injection e with e;subst e;intro q hq;cases hq
 ·split at e
  ·split at e
   ·injection e with e;subst e;intro q hq;simp at hq;subst hq;simp
   ·cases e
  ·cases e
 ·cases e
theorem aiZ {h h':Nat->Option aq} {ns:List Nat} {out:List C} (hh:∀n∈ns,h' n=h n):tY h' ns out=tY h ns out:=by
 match ns,out with
 |[],[]=>rfl
 |[],_::_=>rfl
 |[n],out=>simp only[tY];rw[hh n (by simp)]
 |_::_::_,out=>rfl
def zb (d:Option Nat):List Dv->Option (ak×List (Nat×aq))
 |[(.ptr,cs)]=>match d with
  |some q=>some (.one (.ptr q 0 0 0),[(q,.box (cs.map .c))])
  |none=>none
 |rs=>match gz rs with
  |some ls=>some (lC ls,[])
  |none=>none
theorem aaz (σ:St) (d:Option Nat) (rs:List Dv):qi σ d rs=(zb d rs).bind fun x=>(σ.cF x.2).map (·.put d x.1):=by
 unfold qi
 split
 ·cases d with
  |none=>rfl
  |some q=>
   simp only[zb,Option.bind_some,St.cF]
   cases σ.ins q _<;>rfl
 ·rename_i aw
  have e:zb d rs=match gz rs with
    |some ls=>some (lC ls,[])
    |none=>none:=by
   unfold zb
   split
   ·exact absurd rfl (aw _)
   ·rfl
  rw[e]
  cases gz rs with
  |none=>rfl
  |some ls=>rfl
abbrev JL:=ak×List (Nat×Option aq)×List (Nat×aq)
def ef (T:bg) (d:Option Nat) (op:aC) (ev:MO->ak) (h:Nat->Option aq):Option JL:=
 match op with
 |.store sz x v=>match ev x,(ev v).cells? with
  |.one (.ptr n k ax off),some (_,vs)=>if vs.length=sz then
   match h n with
   |some (.box cs)=>if k=0/\off+sz<=cs.length then some (.one .bf,[(n,some (.box (bW cs off vs)))],[]) else none
   |some (.row gr m rs xs)=>if ax=rs then
    match xs[k]? with
    |some e=>match wi h n gr m rs xs k off e vs with
     |some u=>some (.one .bf,u,[])
     |none=>none
    |none=>none
    else none
   |none=>none
   else none
  |.one (.cD n k ax off s i),some (_,vs)=>if vs.length=sz then
   match h n with
   |some (.row gr .live rs xs)=>if ax=rs then
    match ua xs k off s i vs with
    |some ar=>some (.one .bf,[(n,some (.row gr .live rs ar))],[])
    |none=>none
    else none
   |_=>none
   else none
  |_,_=>none
 |.fg sz ps=>match d,nN sz h (ps.map ev) with
  |some n,some (es,o,u)=>some (.one (.sl n sz 0 es.length),u,[(n,.row true (if o=true then .ae else .aA) sz es)])
  |_,_=>none
 |.append fl sz by_ x y=>match d with
  |none=>none
  |some n=>match uF h sz (ev x) with
   |none=>none
   |some (xs,m,u1)=>match sW fl (df h u1) sz m (ev y) with
    |none=>none
    |some (ys,m2,u2)=>if(xs.length+ys.length)*by_<=eK then some (.one (.sl n sz 0 (xs.length+ys.length)),u1++u2,[(n,.row true m2 sz (xs++ys))]) else none
 |.dn f xs=>match kR h (xs.map ev),bg.ni T.vs f with
  |some (ds,ns,u),some M=>match M ds with
   |some (rs,out)=>match tY (df h u) ns out,zb d rs with
    |some u',some (v,is)=>some (v,u++u',is)
    |_,_=>none
   |none=>none
  |_,_=>none
 |.copy sz x y=>match ev x,ev y with
  |.one (.sl n s lo len),.one c=>match h n,bU h c with
   |some (.row gr m rs xs),some (.list s' ys)=>if sz=1/\s=1/\rs=1/\s'=1/\m≠ .aA/\fB xs=true/\fB ys=true/\lo+len<=xs.length then
    some (.one (.c (.int .i64 (Nat.min ys.length len:Nat))),[(n,some (.row gr m 1 (bW xs lo (ys.take len))))],[]) else none
   |_,_=>none
  |_,_=>none
 |.ki z x=>match ev x with
  |.one (.sl n s lo len)=>match h n with
   |some (.row gr m rs xs)=>if s=1/\rs=1/\z.dT=true/\m≠ .aA/\fB xs=true/\lo+len<=xs.length then
    some (.bn [],[(n,some (.row gr m 1 (bW xs lo (List.replicate len [z]))))],[]) else none
   |_=>none
  |_=>none
 |op=>(rd T d op ev h).map fun x=>(x.1,[],x.2)
def uS (d:Option Nat) (σ:St) (p:JL):Option St:=((σ.cU p.2.1).cF p.2.2).map (·.put d p.1)
theorem Gv {T:bg} {d:Option Nat} {op:aC} {σ:St} {ws:List Nat} (hw:op.jF σ.ev σ.h=some ws) (hd:∀sz x v,op=.store sz x v->d=none):
  aE T d op σ=(ef T d op σ.ev σ.h).bind (uS d σ):=by
 by_cases hc:op.dE<=1
 ·rw[o9 T d op σ hc]
  have:ef T d op σ.ev σ.h=(rd T d op σ.ev σ.h).map fun x=>(x.1,[],x.2):=by
   cases op<;>first|rfl|(simp[aC.dE] at hc)
  rw[this]
  cases rd T d op σ.ev σ.h with
  |none=>rfl
  |some x=>rfl
 ·cases op<;>simp[aC.dE] at hc<;>simp only[aC.jF] at hw
  case fT=>cases hw
  case copy sz x y=>
   simp only[aE,ef]
   cases σ.ev x with
   |one p=>cases p with
    |sl n s lo len=>
     cases σ.ev y with
     |one c=>
      simp only
      cases σ.h n with
      |none=>rfl
      |some b=>cases b with
       |box cs=>rfl
       |row gr m rs xs=>
        cases bU σ.h c with
        |none=>rfl
        |some q=>cases q with
         |list s' ys=>
          simp only
          split<;>rfl
         |_=>rfl
     |_=>rfl
    |_=>rfl
   |_=>rfl
  case ki z x=>
   simp only[aE,ef]
   cases σ.ev x with
   |one p=>cases p with
    |sl n s lo len=>
     simp only
     cases σ.h n with
     |none=>rfl
     |some b=>cases b with
      |box cs=>rfl
      |row gr m rs xs=>
       simp only
       split<;>rfl
    |_=>rfl
   |_=>rfl
  case tail=>cases hw
  case mQ=>cases hw
  case dn f xs=>
   simp only[aE,ef,rG,JZ]
   cases kR σ.h (xs.map σ.ev) with
   |none=>rfl
   |some x=>
    obtain⟨ds,ns,u⟩:=x
    simp only[Option.map_some]
    cases bg.ni T.vs f with
    |none=>rfl
    |some M=>
     simp only
     cases M ds with
     |none=>rfl
     |some z=>
      obtain⟨rs,out⟩:=z
      simp only[ai1,Es]
      cases tY (df σ.h u) ns out with
      |none=>rfl
      |some u'=>
       simp only[Option.map_some,aaz]
       cases zb d rs with
       |none=>rfl
       |some z=>
        obtain⟨v,is⟩:=z
        simp only[Option.bind_some,uS,BA]
  case fg sz ps=>
   simp only[aE,ef]
   rw[ZI]
   cases d with
   |none=>rfl
   |some n=>
    cases nN sz σ.h (ps.map σ.ev) with
    |none=>rfl
    |some x=>
     obtain⟨es,o,u⟩:=x
     simp only[Option.map_some,Option.bind_some,uS,St.cF]
     cases (σ.cU u).ins n (.row true (if o=true then .ae else .aA) sz es)<;>rfl
  case append fl sz by_ x y=>
   simp only[aE,ef,aan]
   cases d with
   |none=>rfl
   |some n=>
    simp only
    cases uF σ.h sz (σ.ev x) with
    |none=>rfl
    |some z=>
     obtain⟨xs,m,u1⟩:=z
     simp only[Option.map_some,aap]
     have hh:(σ.cU u1).h=df σ.h u1:=by rw[kJ]
     rw[hh]
     cases sW fl (df σ.h u1) sz m (σ.ev y) with
     |none=>rfl
     |some z=>
      obtain⟨ys,m2,u2⟩:=z
      simp only[Option.map_some]
      split
      ·simp only[Option.bind_some,uS,BA,St.cF]
       cases ((σ.cU u1).cU u2).ins n (.row true m2 sz (xs++ys))<;>rfl
      ·rfl
  case store sz x v=>
   have hd:=hd sz x v rfl
   subst hd
   simp only[aE,ef]
   split at hw
   ·rename_i n k ax off hx
    simp only[hx]
    cases hv:(σ.ev v).cells? with
    |none=>rfl
    |some y=>
     obtain⟨ag,vs⟩:=y
     simp only
     split
     ·split at hw
      ·rename_i cs hn
       simp only[hn]
       split
       ·rfl
       ·rfl
      ·rename_i gr m rs xs hn
       simp only[hn]
       split
       ·cases xs[k]? with
        |none=>rfl
        |some e=>
         simp only
         rw[akz]
         cases wi σ.h n gr m rs xs k off e vs with
         |none=>rfl
         |some b=>rfl
       ·rfl
      ·cases hw
     ·rfl
   ·rename_i n k ax off s i hx
    simp only[hx]
    cases hv:(σ.ev v).cells? with
    |none=>rfl
    |some y=>
     obtain⟨ag,vs⟩:=y
     simp only
     split
     ·cases σ.h n with
      |none=>rfl
      |some b=>cases b with
       |box cs=>rfl
       |row gr m rs xs=>cases m with
        |live=>
         simp only
         split
         ·cases ua xs k off s i vs<;>rfl
         ·rfl
        |_=>rfl
     ·rfl
   ·cases hw
theorem S1 {T:bg} {d:Option Nat} {op:aC} {ev:MO->ak} {h:Nat->Option aq} {ws:List Nat} {p:JL} (hw:op.jF ev h=some ws) (ha:ef T d op ev h=some p):∀q∈p.2.1,q.1∈ws:=by
 by_cases hc:op.dE<=1
 ·have:ef T d op ev h=(rd T d op ev h).map fun x=>(x.1,[],x.2):=by
   cases op<;>first|rfl|(simp[aC.dE] at hc)
  rw[this,Option.map_eq_some_iff] at ha
  obtain⟨x,_,rfl⟩:=ha
  intro q hq
  cases hq
 ·cases op<;>simp[aC.dE] at hc<;>simp only[aC.jF] at hw
  case fT=>cases hw
  case copy sz x y=>
   simp only[ef] at ha
   split at ha
   ·rename_i n s lo len c hx hy
    simp only[hx] at hw
    injection hw with hw
    subst hw
    repeat' split at ha
    all_goals first|cases ha|skip
    intro q hq
    simp at hq
    subst hq
    simp
   ·cases ha
  case ki z x=>
   simp only[ef] at ha
   split at ha
   ·rename_i n s lo len hx
    simp only[hx] at hw
    injection hw with hw
    subst hw
    repeat' split at ha
    all_goals first|cases ha|skip
    intro q hq
    simp at hq
    subst hq
    simp
   ·cases ha
  case tail=>cases hw
  case mQ=>cases hw
  case dn f xs=>
   injection hw with hw
   subst hw
   simp only[ef] at ha
   split at ha
   ·rename_i ds ns u M e1 e2
    split at ha
    ·rename_i rs out e3
     split at ha
     ·rename_i u' v is e4 e5
      injection ha with ha;subst ha
      obtain⟨i1,i2⟩:=FR e1
      intro q hq
      rw[List.flatMap_map] at i1 i2
      rcases List.mem_append.1 hq with hq|hq
      ·exact i1 q hq
      ·exact i2 _ (ai0 e4 q hq)
     ·cases ha
    ·cases ha
   ·cases ha
  case fg sz ps=>
   injection hw with hw
   subst hw
   simp only[ef] at ha
   split at ha
   ·rename_i n es o u e
    injection ha with ha;subst ha
    intro q hq
    have:=ZH e q hq
    rw[List.flatMap_map] at this
    exact this
   ·cases ha
  case append fl sz by_ x y=>
   injection hw with hw
   subst hw
   simp only[ef] at ha
   split at ha
   ·cases ha
   ·split at ha
    ·cases ha
    ·rename_i xs m u1 e1
     split at ha
     ·cases ha
     ·rename_i ys m2 u2 e2
      split at ha
      ·injection ha with ha
       subst ha
       intro q hq
       rcases List.mem_append.1 hq with tC|tC
       ·clear hq
        refine List.mem_append.2 (.inl ?_)
        unfold uF at e1
        split at e1
        ·injection e1 with e1;injection e1 with _ e1;injection e1 with _ e1;subst e1;cases tC
        ·rename_i a s len hv
         split at e1
         ·split at e1
          ·injection e1 with e1;injection e1 with _ e1;injection e1 with _ e1;subst e1
           simp at tC;subst tC;simp[ak.fQ,ai.nm,ai.qT,hv]
          ·cases e1
         ·cases e1
        ·cases e1
       ·clear hq
        refine List.mem_append.2 (.inr ?_)
        have zG:∀(b:Nat),u2=[]\/u2=[(b,none)]->b∈(ev y).fQ->q.1∈(ev y).fQ:=by
         intro b hb hm
         rcases hb with hb|hb
         ·subst hb;cases tC
         ·subst hb;simp at tC;subst tC;exact hm
        unfold sW at e2
        split at e2
        ·injection e2 with e2;injection e2 with _ e2;injection e2 with _ e2;subst e2;cases tC
        ·repeat' split at e2
         all_goals first|cases e2|skip
         all_goals (cases tC)
        ·rename_i b s lo len hv
         have hm:b∈(ev y).fQ:=by simp[hv,ak.fQ,ai.nm,ai.qT]
         refine zG b ?_ hm
         repeat' split at e2
         all_goals first|cases e2|skip
         all_goals first|exact .inl rfl|exact .inr rfl
        ·cases e2
      ·cases ha
  case store sz x v=>
   simp only[ef] at ha
   split at ha
   ·rename_i n k ax off b vs hx hv
    simp only[hx] at hw
    split at ha
    ·split at ha
     ·rename_i cs hn
      simp only[hn] at hw
      split at ha
      ·injection ha with ha;subst ha;injection hw with hw;subst hw
       intro q hq;simp at hq;subst hq;simp
      ·cases ha
     ·rename_i gr m rs xs hn
      simp only[hn] at hw
      injection hw with hw
      subst hw
      split at ha
      ·split at ha
       ·split at ha
        ·rename_i u e0
         injection ha with ha;subst ha
         intro q hq
         have hq:q∈u:=hq
         have two:∀(u1:Us) (bb:Option aq),u=u1++[(n,bb)]->(∀q∈u1,q.1∈vs.flatMap ai.nm)->q.1∈n::(ev v).fQ:=by
          intro u1 bb he z5
          rw[he] at hq
          rcases List.mem_append.1 hq with hq|hq
          ·exact List.mem_cons_of_mem _ (zj hv▸z5 q hq)
          ·simp at hq;subst hq;simp
         unfold wi at e0
         split at e0
         ·cases e0
         ·split at e0
          ·cases e0
          ·rename_i cs o u1 e1
           have z5:=I8 e1
           repeat' split at e0
           all_goals first|(injection e0 with e0;exact two _ _ e0.symm z5)|cases e0
        ·cases ha
       ·cases ha
      ·cases ha
     ·cases ha
    ·cases ha
   ·rename_i n k ax off s i b vs hx hv
    simp only[hx] at hw
    injection hw with hw
    subst hw
    repeat' split at ha
    all_goals first|cases ha|skip
    intro q hq
    simp at hq
    subst hq
    simp
   ·cases ha
section
variable {T:bg} {d:Option Nat} {op:aC} {ev ev':MO->ak} {h h':Nat->Option aq}
theorem Dy (br:∀x∈op.args,ev' x=ev x):op.iq ev'=op.iq ev:=by
 unfold aC.iq
 generalize op.args=l at br
 induction l with
 |nil=>rfl
 |cons x l ih=>simp only[List.flatMap_cons];rw[br x (by simp),ih fun y hy=>br y (List.mem_cons_of_mem _ hy)]
theorem Tr:∀{l:List Nat} (_:∀n∈l,h' n=h n),zh h' l=zh h l
 |[],_=>rfl
 |n::l,hh=>by
  have:=Tr (l:=l) fun m hm=>hh m (List.mem_cons_of_mem _ hm)
  simp only[zh,List.flatMap_cons] at this⊢
  rw[hh n (by simp),this]
theorem PD (br:∀x∈op.args,ev' x=ev x) (hh:∀n∈op.iq ev,h' n=h n):op.lB ev' h'=op.lB ev h:=by
 unfold aC.lB
 rw[Dy br,Tr hh]
theorem Jl (br:∀x∈op.args,ev' x=ev x) (hh:∀n∈op.iq ev,h' n=h n):op.jF ev' h'=op.jF ev h:=by
 cases op<;>first|rfl|skip
 case store sz x v=>
  have h1:=br x (by simp[aC.args])
  have h2:=br v (by simp[aC.args])
  simp only[aC.jF,h1,h2]
  cases hv:ev x with
  |one p=>cases p with
   |ptr n k ax off=>simp only;rw[hh n (oz.2 ⟨x,by simp[aC.args],by rw[hv];exact rfl⟩)]
   |_=>rfl
  |_=>rfl
 case copy sz x y=>
  simp only[aC.jF,br x (by simp[aC.args])]
 case ki z x=>
  simp only[aC.jF,br x (by simp[aC.args])]
 case dn f xs=>
  have:=Dy (op:=.dn f xs) br
  simp only[aC.iq,aC.args] at this
  simp only[aC.jF,this]
 case fg sz ps=>
  have:=Dy (op:=.fg sz ps) br
  simp only[aC.iq,aC.args] at this
  simp only[aC.jF,this]
 case append fl sz by_ x y=>
  simp only[aC.jF,br x (by simp[aC.args]),br y (by simp[aC.args])]
theorem S0 (br:∀x∈op.args,ev' x=ev x) (hh:∀n∈op.lB ev h,h' n=h n):ef T d op ev' h'=ef T d op ev h:=by
 have GX:∀n∈op.iq ev,h' n=h n:=fun n hn=>hh n (H6 hn)
 have hn:∀a∈op.args,∀n,(ev a).ref n->h' n=h n:=fun a ha n hr=>GX n (oz.2 ⟨a,ha,hr⟩)
 have gen:rd T d op ev' h'=rd T d op ev h:=by
  rw[A6 T d op _ br]
  refine Yu (u:=fun n=>h' n=h n) (vv:=fun n=>n∈op.iq ev) T d op ev (fun n hn=>hn) (fun hc m cs c n hm hb dL hr=>?_) (fun x hx m hm=>hn x hx m hm) (fun x hx m hm=>oz.2 ⟨x,hx,hm⟩)
  refine hh n ?_
  unfold aC.lB
  rw[hc]
  refine List.mem_append.2 (.inr ?_)
  unfold zh
  rw[List.mem_flatMap]
  exact⟨m,hm,by rw[hb];exact List.mem_flatMap.2 ⟨c,dL,ai.Dz.2 hr⟩⟩
 cases op<;>first|(simp only[ef];rw[gen];done)|skip
 case store sz x v=>
  have h1:=br x (by simp[aC.args])
  have h2:=br v (by simp[aC.args])
  simp only[ef,h1,h2]
  have h3:=hn x (by simp[aC.args])
  cases hv:ev x with
  |one p=>cases p with
   |ptr n k ax off=>
    rw[hv] at h3
    have h3:=h3 n rfl
    have h5:=hn v (by simp[aC.args])
    cases hc:(ev v).cells? with
    |none=>rfl
    |some y=>
     obtain⟨b,vs⟩:=y
     have h6:∀gr m rs xs e,wi h' n gr m rs xs k off e vs=wi h n gr m rs xs k off e vs:=by
      intro gr m rs xs e
      have h7:jb h' vs=jb h vs:=I7 fun q hq=>h5 q (ak.ym.1 (zj hc▸hq))
      unfold wi
      rw[h7]
      cases jb h vs with
      |none=>rfl
      |some y=>
       obtain⟨cs,o,u⟩:=y
       simp only[Ep h3 u]
     simp only[h3,h6]
   |cD n k ax off s i=>
    rw[hv] at h3
    have h3:=h3 n rfl
    cases hc:(ev v).cells? with
    |none=>rfl
    |some y=>
     simp only[h3]
   |_=>cases (ev v).cells?<;>rfl
  |_=>cases (ev v).cells?<;>rfl
 case copy sz x y=>
  have h1:=br x (by simp[aC.args])
  have h2:=br y (by simp[aC.args])
  have h3:=hn x (by simp[aC.args])
  have h4:=hn y (by simp[aC.args])
  simp only[ef,h1,h2]
  cases hv:ev x with
  |one p=>cases p with
   |sl n s lo len=>
    rw[hv] at h3
    have h3:=h3 n rfl
    cases hc:ev y with
    |one c=>
     rw[hc] at h4
     have h5:bU h' c=bU h c:=BC (u:=fun n=>h' n=h n) (fun n hn=>hn) fun m hm=>h4 m (ai.A8 hm)
     simp only[h3,h5]
    |_=>rfl
   |_=>rfl
  |_=>rfl
 case ki z x=>
  have h1:=br x (by simp[aC.args])
  have h3:=hn x (by simp[aC.args])
  simp only[ef,h1]
  cases hv:ev x with
  |one p=>cases p with
   |sl n s lo len=>
    rw[hv] at h3
    have h3:=h3 n rfl
    simp only[h3]
   |_=>rfl
  |_=>rfl
 case dn f xs=>
  have hl:xs.map ev'=xs.map ev:=List.map_congr_left br
  have h2:kR h' (xs.map ev)=kR h (xs.map ev):=JX fun n bk=>by
   rw[List.flatMap_map] at bk
   exact GX n bk
  simp only[ef,hl,h2]
  cases e1:kR h (xs.map ev) with
  |none=>rfl
  |some x=>
   obtain⟨ds,ns,u⟩:=x
   try simp only
   cases bg.ni T.vs f with
   |none=>rfl
   |some M=>
    try simp only
    cases M ds with
    |none=>rfl
    |some z=>
     obtain⟨rs,out⟩:=z
     try simp only
     rw[aiZ (h:=df h u) (h':=df h' u) fun n bk=>Ep (GX n (by
      have:=(FR e1).2 n bk
      rw[List.flatMap_map] at this
      exact this)) u]
 case fg sz ps=>
  have hl:ps.map ev'=ps.map ev:=List.map_congr_left br
  have h2:nN sz h' (ps.map ev)=nN sz h (ps.map ev):=ZG fun n bk=>by
   rw[List.flatMap_map] at bk
   exact GX n bk
  simp only[ef,hl,h2]
 case append fl sz by_ x y=>
  have h1:=br x (by simp[aC.args])
  have h2:=br y (by simp[aC.args])
  have h3:=hn x (by simp[aC.args])
  have h4:=hn y (by simp[aC.args])
  have e1:uF h' sz (ev x)=uF h sz (ev x):=by
   cases hv:ev x with
   |one p=>cases p with
    |sl a s lo len=>
     rw[hv] at h3
     cases lo with
     |zero=>simp only[uF,h3 a rfl]
     |succ lo=>rfl
    |_=>rfl
   |_=>rfl
  have e2:∀(us:List (Nat×Option aq)) (m:Mode),sW fl (df h' us) sz m (ev y)=sW fl (df h us) sz m (ev y):=by
   intro us m
   cases hv:ev y with
   |one p=>cases p with
    |sl b s lo len=>
     rw[hv] at h4
     have hb:df h' us b=df h us b:=by
      by_cases hu:∃p∈us,p.1=b
      ·exact Er hu
      ·rw[mY fun p hp e=>hu ⟨p,hp,e⟩,mY fun p hp e=>hu ⟨p,hp,e⟩]
       exact h4 b rfl
     simp only[sW,hb]
    |c x=>cases x<;>rfl
    |_=>rfl
   |_=>rfl
  simp only[ef,h1,h2,e1,e2]
end
theorem Ky {f g:List Nat×List Nat} (h:Ca f g=true) {n:Nat} (h1:n∈f.2) (h2:n∈g.1):False:=by
 simp only[Ca,Bool.and_eq_true,List.all_eq_true] at h
 have:=h.1 n h1
 simp[h2] at this
theorem aba {f g:List Nat×List Nat} (h:Ca f g=true) {n:Nat} (h1:n∈g.2) (h2:n∈f.1):False:=by
 simp only[Ca,Bool.and_eq_true,List.all_eq_true] at h
 have:=h.2 n h1
 simp[h2] at this
theorem AU {σ:St} (W:Wf σ) {op:aC} (hf:∀a∈op.args,a.flat=true) {n:Nat} (hn:n∈op.iq σ.ev):σ.used n=true:=by
 obtain⟨a,ha,hr⟩:=oz.1 hn
 exact W.arg (hf a ha) n hr
theorem Ys {σ:St} (W:Wf σ) {op:aC} (hf:∀a∈op.args,a.flat=true) {n:Nat} (hn:n∈op.lB σ.ev σ.h):σ.used n=true:=by
 unfold aC.lB at hn
 cases hc:op.Dh with
 |true=>
  rw[hc] at hn
  rcases List.mem_append.1 hn with hn|hn
  ·exact AU W hf hn
  ·unfold zh at hn
   rw[List.mem_flatMap] at hn
   obtain⟨m,hm,hn⟩:=hn
   split at hn
   ·rename_i cs hb
    obtain⟨c,hc,hr⟩:=List.mem_flatMap.1 hn
    exact W.box m cs c n hb hc (ai.Dz.1 hr)
   ·cases hn
 |false=>rw[hc] at hn;exact AU W hf hn
section
variable {T:bg} {dx dy:Option Nat} {x y:aC} {σ σ1 σ2:St}
theorem UZ (W:Wf σ) (jP:∀n,dx=some n->MO.t n∉y.args) (xA:∀a∈y.args,a.flat=true) (tn:∀sz p v,x=.store sz p v->dx=none)
  (hc:x.dE<=1\/y.dE=0) (h1:aE T dx x σ=some σ1):y.fp σ1=y.fp σ:=by
 have qJ:=uR tn h1
 have br:∀a∈y.args,σ1.ev a=σ.ev a:=fun a ha=>by
  cases a with
  |t n=>show σ1.env n=σ.env n;rw[qJ];exact pL fun n6=>jP n n6 ha
  |k v=>rfl
 rcases hc with hc|hc
 ·rw[o9 T dx x σ hc] at h1
  have hh:∀n∈y.iq σ.ev,σ1.h n=σ.h n:=by
   intro n hn
   cases hr:rd T dx x σ.ev σ.h with
   |none=>rw[hr] at h1;cases h1
   |some p=>
    rw[hr] at h1
    simp only[Option.bind_some,fin,Option.map_eq_some_iff] at h1
    obtain⟨A,hA,rfl⟩:=h1
    have:(A.put dx p.1).h=A.h:=by cases dx<;>rfl
    rw[this]
    exact((xS hA).1 n (AU W xA hn)).2
  unfold aC.fp
  rw[Jl br hh,PD br hh]
 ·unfold aC.fp
  have c1:y.Dh=false:=by cases y<;>first|rfl|(simp[aC.dE] at hc)
  have w:∀ev h,y.jF ev h=some []:=by intro ev h;cases y<;>first|rfl|(simp[aC.dE] at hc)
  simp only[w,aC.lB,c1,cond_false,Dy br]
theorem aa1 (W:Wf σ) (hd:∀n,dx=some n->dy≠some n) (jP:∀n,dx=some n->MO.t n∉y.args) (rZ:∀n,dy=some n->MO.t n∉x.args)
  (zK:∀a∈x.args,a.flat=true) (xA:∀a∈y.args,a.flat=true)
  (tn:∀sz p v,x=.store sz p v->dx=none) (CL:∀sz p v,y=.store sz p v->dy=none) (hk:Cb (x.fp σ) (y.fp σ1)=true)
  (h1:aE T dx x σ=some σ1) (h2:aE T dy y σ1=some σ2):∃τ,aE T dy y σ=some τ/\aE T dx x τ=some σ2/\y.fp σ1=y.fp σ/\x.fp τ=x.fp σ:=by
 unfold aC.fp at hk
 cases xd:x.jF σ.ev σ.h with
 |none=>rw[xd] at hk;cases hk
 |some wx=>
 cases xf:y.jF σ1.ev σ1.h with
 |none=>rw[xd,xf] at hk;cases hk
 |some wy=>
 rw[xd,xf] at hk
 simp only[Option.map_some,Cb] at hk
 rw[Gv xd tn] at h1
 rw[Gv xf CL] at h2
 cases Gj:ef T dx x σ.ev σ.h with
 |none=>rw[Gj] at h1;cases h1
 |some px=>
 obtain⟨vx,ux,nx⟩:=px
 rw[Gj] at h1
 simp only[Option.bind_some,uS,Option.map_eq_some_iff] at h1
 obtain⟨A,hA,rfl⟩:=h1
 have Jc:∀q∈ux,q.1∈wx:=S1 xd Gj
 have So:∀q∈ux,σ.used q.1=true:=fun q hq=>AU W zK (Z7 xd (Jc q hq))
 obtain⟨A',U7,rfl⟩:=Nf So hA
 obtain⟨oa,ea⟩:=xS U7
 have pq:∀(s:St) (d:Option Nat) (v:ak),(s.put d v).h=s.h:=fun s d v=>by cases d<;>rfl
 have br:∀a∈y.args,((A'.cU ux).put dx vx).ev a=σ.ev a:=fun a ha=>by
  rw[nG,Gs fun n hn=>pL fun n6=>jP n n6 (hn▸ha)]
  cases a with
  |t n=>show(A'.cU ux).env n=σ.env n;rw[kJ];show A'.env n=_;rw[ea]
  |k v=>rfl
 have adE:y.lB ((A'.cU ux).put dx vx).ev ((A'.cU ux).put dx vx).h=y.lB σ.ev σ.h/\y.jF ((A'.cU ux).put dx vx).ev ((A'.cU ux).put dx vx).h=y.jF σ.ev σ.h:=by
  have hh:∀n∈y.iq σ.ev,((A'.cU ux).put dx vx).h n=σ.h n:=fun n hn=>by
   rw[pq,kJ]
   show df A'.h ux n=_
   rw[mY fun p hp e=>Ky hk (Jc p hp) (by rw[e];exact H6 (by rw[Dy br];exact hn))]
   exact(oa n (AU W xA hn)).2
  exact⟨PD br hh,Jl br hh⟩
 obtain⟨r1,r2⟩:=adE
 have hh:∀n∈y.lB σ.ev σ.h,((A'.cU ux).put dx vx).h n=σ.h n:=fun n hn=>by
  rw[pq,kJ]
  show df A'.h ux n=_
  rw[mY fun p hp e=>Ky hk (Jc p hp) (by rw[e];show n∈y.lB _ _;rw[r1];exact hn)]
  exact(oa n (Ys W xA hn)).2
 have eay:ef T dy y ((A'.cU ux).put dx vx).ev ((A'.cU ux).put dx vx).h=ef T dy y σ.ev σ.h:=S0 br hh
 rw[eay] at h2
 rw[r2] at xf
 cases Gk:ef T dy y σ.ev σ.h with
 |none=>rw[Gk] at h2;cases h2
 |some py=>
 obtain⟨vy,uy,ny⟩:=py
 rw[Gk] at h2
 simp only[Option.bind_some,uS,Option.map_eq_some_iff] at h2
 obtain⟨D,hD,rfl⟩:=h2
 have ZV:∀q∈uy,q.1∈wy:=S1 xf Gk
 have ZU:∀q∈uy,q.1∈y.iq σ.ev:=fun q hq=>Z7 xf (ZV q hq)
 have Sq:∀q∈uy,σ.used q.1=true:=fun q hq=>AU W xA (ZU q hq)
 have uyA:∀q∈uy,A'.used q.1=true:=fun q hq=>(oa _ (Sq q hq)).1
 have uxA:∀q∈ux,A'.used q.1=true:=fun q hq=>(oa _ (So q hq)).1
 have zH:∀p∈ux,∀q∈uy,p.1≠q.1:=fun p hp q hq e=>Ky hk (Jc p hp) (by rw[e];show q.1∈y.lB _ _;rw[r1];exact H6 (ZU q hq))
 rw[nG,ZS,xT,Option.map_eq_some_iff] at hD
 obtain⟨D0,hD0,rfl⟩:=hD
 obtain⟨D1,hD1,rfl⟩:=Nf (σ:=A'.cU ux) (fun q hq=>by rw[kJ];exact uyA q hq) hD0
 obtain⟨F,hF,rfl⟩:=Nf uxA hD1
 obtain⟨C',hC,hCF⟩:=Nd U7 hF
 obtain⟨oc,ec⟩:=xS hC
 have uyC:∀q∈uy,C'.used q.1=true:=fun q hq=>(oc _ (Sq q hq)).1
 have uxC:∀q∈ux,C'.used q.1=true:=fun q hq=>(oc _ (So q hq)).1
 have GP:∀a∈x.args,((C'.cU uy).put dy vy).ev a=σ.ev a:=fun a ha=>by
  rw[nG,Gs fun n hn=>pL fun n6=>rZ n n6 (hn▸ha)]
  cases a with
  |t n=>show(C'.cU uy).env n=σ.env n;rw[kJ];show C'.env n=_;rw[ec]
  |k v=>rfl
 have Vu:∀n∈x.lB σ.ev σ.h,((C'.cU uy).put dy vy).h n=σ.h n:=fun n hn=>by
  rw[pq,kJ]
  show df C'.h uy n=_
  rw[mY fun p hp e=>aba hk (ZV p hp) (by rw[e];exact hn)]
  exact(oc n (Ys W zK hn)).2
 have LQ:∀n∈x.iq σ.ev,((C'.cU uy).put dy vy).h n=σ.h n:=fun n hn=>Vu n (H6 hn)
 refine⟨(C'.cU uy).put dy vy,?_,?_,?_,?_⟩
 ·rw[Gv xf CL,Gk]
  simp only[Option.bind_some,uS,Df Sq hC,Option.map_some]
 ·rw[Gv (ws:=wx) (by rw[Jl GP LQ];exact xd) tn,S0 GP Vu,Gj]
  simp only[Option.bind_some,uS]
  rw[nG,ZS,xT,Df (σ:=C'.cU uy) (fun q hq=>by rw[kJ];exact uxC q hq) (Df uyC hCF)]
  simp only[Option.map_some]
  rw[nG,nG,ak9 zH]
  congr 1
  have e1:(C'.cU uy).env=σ.env:=by rw[kJ];exact ec
  have e2:(A'.cU ux).env=σ.env:=by rw[kJ];exact ea
  show St.we _ (gO (gO (C'.cU uy).env dy vy) dx vx)=St.we _ (gO (gO (A'.cU ux).env dx vx) dy vy)
  rw[e1,e2,Ie σ.env _ _ hd]
  rfl
 ·unfold aC.fp
  rw[r1,r2]
 ·unfold aC.fp
  rw[Jl GP LQ,PD GP LQ]
end
end Go.Am
end
section
namespace Go.Am
def B4 (x y:bN):Bool:=x.op.dE==0||y.op.dE==0||(decide (x.op.dE<=1)&&decide (y.op.dE<=1))
def B5 (x y:bN):Bool:=
 (match x.dst with|some d=>y.sy d&&(match y.dst with|some e=>e !=d|none=>true)|none=>true)&&
 (match y.dst with|some d=>x.sy d|none=>true)&&x.pb&&y.pb
theorem aa2 {T:bg} {x y:bN} {σ σ1 σ2:St} (W:Wf σ) (hc:B5 x y=true) (hk:B4 x y=true\/Cb (x.fp σ) (y.fp σ1)=true) (h1:eg T x σ=some σ1) (h2:eg T y σ1=some σ2):
  ∃τ,eg T y σ=some τ/\eg T x τ=some σ2/\y.fp σ1=y.fp σ/\x.fp τ=x.fp σ:=by
 simp only[B5,Bool.and_eq_true] at hc
 obtain⟨⟨⟨c1,c2⟩,c3⟩,c4⟩:=hc
 rw[zz] at h1 h2
 cases ex:lJ x σ.env with
 |none=>rw[ex] at h1;cases h1
 |some iI=>
  rw[ex] at h1
  have h1:aE T x.dst iI σ=some σ1:=h1
  have jx:iI=x.op\/iI=.mv (.k (.bn [])):=Gl ex
  have yJ:∀sz p v,iI=.store sz p v->x.dst=none:=by
   intro sz p v he
   rcases jx with rfl|rfl
   ·simp only[bN.pb,Bool.and_eq_true,he] at c3;simpa using c3.2
   ·cases he
  have qJ:=uR yJ h1
  have Mx:∀s w,y.guard=some (s,w)->x.dst≠some s:=by
   intro s w hg hd
   rw[hd] at c1
   simp[bN.sy,hg] at c1
  have Hf:∀s w,x.guard=some (s,w)->y.dst≠some s:=by
   intro s w hg hd
   rw[hd] at c2
   simp[bN.sy,hg] at c2
  have Gw:lJ y σ1.env=lJ y σ.env:=Cd fun s w hg=>by rw[qJ];exact pL (Mx s w hg)
  rw[Gw] at h2
  cases ey:lJ y σ.env with
  |none=>rw[ey] at h2;cases h2
  |some iu=>
   rw[ey] at h2
   have h2:aE T y.dst iu σ1=some σ2:=h2
   have jy:iu=y.op\/iu=.mv (.k (.bn [])):=Gl ey
   have wj:∀sz p v,iu=.store sz p v->y.dst=none:=by
    intro sz p v he
    rcases jy with rfl|rfl
    ·simp only[bN.pb,Bool.and_eq_true,he] at c4;simpa using c4.2
    ·cases he
   have Cp:∀a∈iI.args,a.flat=true:=by
    rcases jx with rfl|rfl
    ·simp only[bN.pb,Bool.and_eq_true,List.all_eq_true] at c3;exact c3.1
    ·intro a ha;simp[aC.args] at ha;subst ha;rfl
   have Cq:∀a∈iu.args,a.flat=true:=by
    rcases jy with rfl|rfl
    ·simp only[bN.pb,Bool.and_eq_true,List.all_eq_true] at c4;exact c4.1
    ·intro a ha;simp[aC.args] at ha;subst ha;rfl
   have jP:∀n,x.dst=some n->MO.t n∉iu.args:=by
    intro n hd
    rcases jy with rfl|rfl
    ·rw[hd] at c1
     simp only[Bool.and_eq_true] at c1
     exact bN.H7 c1.1
    ·simp[aC.args]
   have rZ:∀n,y.dst=some n->MO.t n∉iI.args:=by
    intro n hd
    rcases jx with rfl|rfl
    ·rw[hd] at c2
     exact bN.H7 c2
    ·simp[aC.args]
   have zH:∀n,x.dst=some n->y.dst≠some n:=by
    intro n hd he
    rw[hd,he] at c1
    simp at c1
   have yfp:y.fp σ1=iu.fp σ1:=by unfold bN.fp;rw[Gw,ey]
   have alp:y.fp σ=iu.fp σ:=by unfold bN.fp;rw[ey]
   have Z9:x.fp σ=iI.fp σ:=by unfold bN.fp;rw[ex]
   have xfp:∀τ,aE T y.dst iu σ=some τ->x.fp τ=iI.fp τ:=by
    intro τ t1
    unfold bN.fp
    rw[Cd (e:=σ.env) (fun s w hg=>by rw[uR wj t1];exact pL (Hf s w hg)),ex]
   have fin:(∃τ,aE T y.dst iu σ=some τ/\aE T x.dst iI τ=some σ2/\iu.fp σ1=iu.fp σ/\iI.fp τ=iI.fp σ)->∃τ,eg T y σ=some τ/\eg T x τ=some σ2/\y.fp σ1=y.fp σ/\x.fp τ=x.fp σ:=by
    rintro⟨τ,t1,t2,t3,t4⟩
    refine⟨τ,?_,?_,?_,?_⟩
    ·rw[zz,ey];exact t1
    ·rw[zz,Cd (e:=σ.env) (fun s w hg=>by rw[uR wj t1];exact pL (Hf s w hg)),ex];exact t2
    ·rw[yfp,alp,t3]
    ·rw[xfp τ t1,Z9,t4]
   apply fin
   rcases hk with c5|hk
   ·have bP:iI.dE=0\/iu.dE=0\/(iI.dE<=1/\iu.dE<=1):=by
     rcases jx with rfl|rfl
     ·rcases jy with rfl|rfl
      ·simp only[B4,Bool.or_eq_true,beq_iff_eq,Bool.and_eq_true,decide_eq_true_eq,or_assoc] at c5
       exact c5
      ·exact .inr (.inl rfl)
     ·exact .inl rfl
    obtain⟨τ,t1,t2⟩:=TM W zH jP rZ Cp Cq yJ wj bP h1 h2
    refine⟨τ,t1,t2,UZ W jP Cq yJ (by omega) h1,UZ W rZ Cp wj (by omega) t1⟩
   ·rw[yfp,Z9] at hk
    exact aa1 W zH jP rZ Cp Cq yJ wj hk h1 h2
def BU (T:bg) (ms:List bN) (F:Nat->Option FP):List Nat->St->St->Prop
 |[],σ,iw=>σ=iw
 |i::L,σ,iw=>∃m σ1,ms[i]? =some m/\F i=m.fp σ/\eg T m σ=some σ1/\BU T ms F L σ1 iw
def SQ (F:Nat->Option FP) (ms:List bN) (i j:Nat) (m:bN):Prop:=∃mj,ms[j]? =some mj/\B5 mj m=true/\(B4 mj m=true\/Cb (F j) (F i)=true)
structure SJ (F:Nat->Option FP) (ops:Array Oper) (ms:List bN):Prop where
 back:∀(i:Nat) (o:Oper),ops[i]? =some o->∀e∈o.after,Region.binds .any e=true->e.on<i
 pair:∀(i j:Nat) (o:Oper) (m:bN),ops[i]? =some o->ms[i]? =some m->j<i->uo ops i j\/SQ F ms i j m
section
variable {B:Nat} {E:Ex} {w0 w w':World} {G G':Gh} {N:Nat}
variable {P:Program} {T:bg} {o:Oper} {mo:bN} {a:Act} {σ σ':St} {Q:Exit->Act->World->Prop} {ops:Array Oper}
theorem YJ (hT:m7 P T) {ms:List bN} {F:Nat->Option FP} (qz:∀(i:Nat) (m:bN),ms[i]? =some m->∃o,ops[i]? =some o/\s7 P N ops o m=true) {i:Nat} {mi:bN} (hi:ms[i]? =some mi) {post:List Nat} {iw:St}:
  ∀{pre:List Nat} {σ:St},EZ B E w0 N σ->BU T ms F (pre++i::post) σ iw->(∀j∈pre,SQ F ms i j mi)->
  ∃τ,F i=mi.fp σ/\eg T mi σ=some τ/\BU T ms F (pre++post) τ iw
 |[],σ,hr,hx,hc=>by
  obtain⟨m,σ1,h1,h2,h3,h4⟩:=hx
  rw[hi] at h1
  injection h1 with h1
  subst h1
  exact⟨σ1,h2,h3,h4⟩
 |j::pre,σ,hr,hx,hc=>by
  obtain⟨mj,σ1,k1,k2,k3,k4⟩:=hx
  obtain⟨mj',hj,mD,bP⟩:=hc j (by simp)
  rw[k1] at hj
  injection hj with hj
  subst hj
  obtain⟨oj,_,fJ⟩:=qz j mj k1
  obtain⟨nP,t0,t1,t2⟩:=YJ hT qz hi (Yz hr hT fJ k3) k4 (fun k hk=>hc k (by simp[hk]))
  obtain⟨a,w,G,r⟩:=hr
  rw[k2,t0] at bP
  obtain⟨τ,s1,s2,s3,s4⟩:=aa2 r.wf mD bP k3 t1
  exact⟨τ,by rw[t0,s3],s1,mj,nP,k1,by rw[s4];exact k2,s2,t2⟩
theorem aln (hT:m7 P T) {ms:List bN} {F:Nat->Option FP} (qz:∀(i:Nat) (m:bN),ms[i]? =some m->∃o,ops[i]? =some o/\s7 P N ops o m=true) (hlen:ms.length=ops.size) (hd:SJ F ops ms) {iw:St}
  (hQ:∀a w G,R B E w0 N iw a w G->Q .normal a w):
  ∀(gX:Nat) (L:List Nat) (cJ:Array Bool) (σ:St) (a:Act) (w:World) (G:Gh),R B E w0 N σ a w G->BU T ms F L σ iw->L.Pairwise (·<·)->L.length<=gX->cJ.size=ops.size->
   (∀j,j∈L↔cJ.getD j true=false)->Jp ops cJ->wpAny P .any ops Q gX cJ a w:=by
 have first:∀(L:List Nat) (cJ:Array Bool),L.Pairwise (·<·)->cJ.size=ops.size->(∀j,j∈L↔cJ.getD j true=false)->Region.ready .any ops cJ=[]->L=[]:=by
  intro L cJ hp hs hL hr
  cases L with
  |nil=>rfl
  |cons j L=>
   exfalso
   have hj:=(hL j).1 (by simp)
   have ko:j<ops.size:=by
    rw[<-hs]
    rcases Nat.lt_or_ge j cJ.size with h|h
    ·exact h
    ·simp[Array.getElem?_eq_none h] at hj
   have ho:ops[j]? =some ops[j]:=Array.getElem?_eq_getElem ko
   have:j∈Region.ready .any ops cJ:=by
    rw[mem_ready]
    refine⟨hj,_,ho,fun e he hb=>?_⟩
    have bL:=hd.back j _ ho e he hb
    have nq:e.on∉j::L:=by
     intro hm
     cases hm with
     |head=>omega
     |tail _ hm=>have:=(List.pairwise_cons.1 hp).1 _ hm;omega
    have aw:cJ.getD e.on true≠false:=fun h=>nq ((hL e.on).2 h)
    have n7:e.on<cJ.size:=by omega
    simp[n7] at aw⊢
    exact aw
   rw[hr] at this
   cases this
 intro gX
 induction gX with
 |zero=>
  intro L cJ σ a w G r hx hp hl hs hL hC
  have qx:L=[]:=List.eq_nil_of_length_eq_zero (by omega)
  subst qx
  have hx:σ=iw:=hx
  subst hx
  refine⟨?_,hQ _ _ _ r⟩
  cases hr:Region.ready .any ops cJ with
  |nil=>rfl
  |cons i l=>
   have hm:i∈Region.ready .any ops cJ:=by rw[hr];simp
   have:=(hL i).2 (mem_ready.1 hm).1
   cases this
 |succ gX ih=>
  intro L cJ σ a w G r hx hp hl hs hL hC
  refine⟨fun hr=>?_,fun i hi=>?_⟩
  ·have qx:=first L cJ hp hs hL hr
   subst qx
   have hx:σ=iw:=hx
   subst hx
   exact hQ _ _ _ r
  ·obtain⟨LV,oi,jn,CF⟩:=mem_ready.1 hi
   have pn:i∈L:=(hL i).2 LV
   obtain⟨pre,post,rfl⟩:=List.append_of_mem pn
   have his:i<ops.size:=(Array.getElem?_eq_some_iff.1 jn).1
   have xG:ms[i]? =some ms[i]:=List.getElem?_eq_getElem (by omega)
   obtain⟨o',fY,LF⟩:=qz i _ xG
   rw[jn] at fY
   injection fY with fY
   subst fY
   have fF:=List.pairwise_append.1 hp
   obtain⟨τ,t0,t1,t2⟩:=YJ (ops:=ops) hT qz xG ⟨a,w,G,r⟩ hx (fun j hj=>by
    have qC:j<i:=fF.2.2 j hj i (by simp)
    rcases hd.pair i j oi _ jn xG qC with Lu|h
    ·have h1:=To hC Lu (fun o ho e he hb=>by
      rw[jn] at ho
      injection ho with ho
      subst ho
      have h1:=CF e he hb
      have bL:=hd.back i _ jn e he hb
      have n7:e.on<cJ.size:=by omega
      simp[n7] at h1⊢
      exact h1)
     have h2:=(hL j).1 (by simp[hj])
     rw[h1] at h2
     cases h2
    ·exact h)
   have CZ:∀a' w',Nx B E w0 N τ a' w'->wpAny P .any ops Q gX (cJ.setIfInBounds i true) a' w':=by
    rintro a' w' ⟨G',r'⟩
    refine ih (pre++post) _ τ a' w' G' r' t2 ?_ (by simp at hl⊢;omega) (by simpa using hs) (fun j=>?_) (fun k o ho hk e he hb=>?_)
    ·rw[List.pairwise_append]
     exact⟨fF.1,(List.pairwise_cons.1 fF.2.1).2,fun x hx y hy=>fF.2.2 x hx y (by simp[hy])⟩
    ·by_cases qC:j=i
     ·subst qC
      have ko:j<cJ.size:=by omega
      simp only[List.mem_append]
      constructor
      ·rintro(h|h)
       ·have:=fF.2.2 j h j (by simp);omega
       ·have:=(List.pairwise_cons.1 fF.2.1).1 j h;omega
      ·intro h
       simp[ko] at h
     ·rw[getD_set_ne true (Ne.symm qC),<-hL j]
      simp[qC]
    ·have CR:∀q,cJ.getD q true=true->(cJ.setIfInBounds i true).getD q true=true:=by
      intro q hq
      by_cases n8:q=i
      ·subst n8
       have:q<cJ.size:=by omega
       simp[this]
      ·rw[getD_set_ne true (Ne.symm n8)];exact hq
     by_cases CP:k=i
     ·subst CP
      rw[jn] at ho
      injection ho with ho
      subst ho
      have h1:=CF e he hb
      have bL:=hd.back k _ jn e he hb
      have n7:e.on<cJ.size:=by omega
      refine CR _ ?_
      simp[n7] at h1⊢
      exact h1
     ·rw[getD_set_ne true (Ne.symm CP)] at hk
      exact CR _ (hC k o ho hk e he hb)
   unfold wpOp
   rw[jn]
   simp only
   rcases Gu (Q:=Q) r hT LF t1 with⟨hw,h⟩|⟨hw,h⟩
   ·rw[if_pos hw]
    exact .inl (Oper.wp_mono CZ h)
   ·rw[if_neg (by simp[hw])]
    exact CZ _ _ h
def F0 (ps:List (Nat×Nat)) (ops:List Oper) (ms:List bN):Bool:=
 (fun ks:List Nat=>(List.range ops.length).all fun i=>match ops[i]?,ms[i]? with
  |some o,some m=>(o.after.toList.all fun e=> !Region.binds .any e||decide (e.on<i))&&
   (List.range i).all fun j=>(ks.getD i 0).testBit j||(match ms[j]? with|some mj=>B5 mj m&&(B4 mj m||ps.contains (j,i))|none=>false)
  |_,_=>false) (AL ops [])
theorem aaN {ps:List (Nat×Nat)} {ms:List bN} {fs:List (Option FP)} (h:F0 ps ops.toList ms=true) (hp:vR ps fs=true):SJ (fun i=>fs.getD i none) ops ms:=by
  simp only[F0,List.all_eq_true,List.mem_range] at h
  have cu:∀(i:Nat) (o:Oper),ops[i]? =some o->∃m,ms[i]? =some m/\(o.after.toList.all fun e=> !Region.binds .any e||decide (e.on<i))=true/\
        ∀j,j<i->(((AL ops.toList []).getD i 0).testBit j||(match ms[j]? with|some mj=>B5 mj m&&(B4 mj m||ps.contains (j,i))|none=>false))=true:=by
    intro i o ho
    have hi:i<ops.toList.length:=by simpa using(Array.getElem?_eq_some_iff.1 ho).1
    have hi':=h i hi
    have fY:ops.toList[i]? =some o:=by simpa using ho
    rw[fY] at hi'
    cases hm:ms[i]? with
    |none=>rw[hm] at hi';cases hi'
    |some m=>
     rw[hm] at hi'
     simp only[Bool.and_eq_true,List.all_eq_true,List.mem_range] at hi'
     exact⟨m,rfl,by rw[List.all_eq_true];exact hi'.1,hi'.2⟩
  refine⟨fun i o ho e he hb=>?_,fun i j o m ho hm hj=>?_⟩
  · obtain⟨m,_,k1,_⟩:=cu i o ho
    have:=List.all_eq_true.1 k1 e (Array.mem_toList_iff.2 he)
    simp[hb] at this
    exact this
  · obtain⟨m',bI,_,k2⟩:=cu i o ho
    rw[hm] at bI
    injection bI with bI
    subst bI
    have:=k2 j hj
    rw[Bool.or_eq_true] at this
    rcases this with h1|h1
    · exact .inl (Ot ops.toList [] [] rfl rfl (by intro i k hb;simp at hb) i j h1)
    · cases zP:ms[j]? with
      |none=>rw[zP] at h1;cases h1
      |some mj=>
       rw[zP] at h1
       simp only[Bool.and_eq_true,Bool.or_eq_true] at h1
       refine .inr ⟨mj,zP,h1.1,?_⟩
       rcases h1.2 with h2|h2
       · exact .inl h2
       · refine .inr ?_
         have:=List.all_eq_true.1 hp (j,i) (by simpa using h2)
         exact this
theorem Uv {ms:List bN}:∀(post pre:List bN) (σ iw:St) (fs cK:List (Option FP)),ms=pre++post->cK.length=pre.length->qq T post cK σ=some (fs,iw)->
  cK=fs.take cK.length/\BU T ms (fun i=>fs.getD i none) (List.range' pre.length post.length) σ iw
 |[],pre,σ,iw,fs,cK,he,hl,hx=>by
  simp only[qq] at hx
  injection hx with hx
  injection hx with h1 h2
  subst h1 h2
  exact⟨by simp,rfl⟩
 |m::post,pre,σ,iw,fs,cK,he,hl,hx=>by
  simp only[qq] at hx
  split at hx
  ·rename_i σ1 e1
   obtain⟨h1,h2⟩:=Uv (ms:=ms) post (pre++[m]) σ1 iw fs (cK++[m.fp σ]) (by simp[he]) (by simp[hl]) hx
   have h3:fs[cK.length]? =some (m.fp σ):=by
    have:(fs.take (cK++[m.fp σ]).length)[cK.length]? =some (m.fp σ):=by rw[<-h1];simp
    rw[List.getElem?_take] at this
    split at this
    ·exact this
    ·cases this
   have h4:cK=fs.take cK.length:=by
    have:=congrArg (List.take cK.length) h1
    simpa[List.take_take] using this
   refine⟨h4,m,σ1,?_,?_,e1,?_⟩
   ·rw[he,List.getElem?_append_right (Nat.le_refl _),Nat.sub_self];rfl
   ·show fs.getD pre.length none=_
    rw[<-hl,List.getD_eq_getElem?_getD,h3];rfl
   ·simpa using h2
  ·cases hx
theorem ajc (hT:m7 P T) (hm:P.follows .mixedOrders=true) {id:Nat} {ps:List (Nat×Nat)} {ms:List bN} {fs:List (Option FP)} (hc:nW P N ops ops.toList ms=true) (hd:F0 ps ops.toList ms=true)
  (hx:qq T ms [] σ=some (fs,σ')) (hp:vR ps fs=true) (r:R B E w0 N σ a w G) (hQ:∀a w G,R B E w0 N σ' a w G->Q .normal a w):(Code.region id ops true).wp P Q a w:=by
 obtain⟨k1,k2⟩:=Kf hc
 have hlen:ms.length=ops.size:=by simpa using k1
 refine wp_region_any hm (aln (B:=B) (E:=E) (w0:=w0) (N:=N) hT (fun i m h=>by
  obtain⟨o,h1,h2⟩:=k2 i m h;exact⟨o,by simpa using h1,h2⟩) hlen (aaN hd hp) hQ ops.size (List.range ops.size) _ σ a _ G (r.drawn _) ?_ ?_ (by simp) (by simp) (fun j=>?_) (fun k o ho hk=>?_))
 ·have:=(Uv (T:=T) (ms:=ms) ms [] σ σ' fs [] rfl rfl hx).2
  simp only[List.length_nil,hlen,<-List.range_eq_range'] at this
  exact this
 ·exact List.pairwise_lt_range
 ·rw[List.mem_range]
  constructor
  ·intro h;simp[h]
  ·intro h
   rcases Nat.lt_or_ge j ops.size with h'|h'
   ·exact h'
   ·simp[Array.getElem?_eq_none (show(Array.replicate ops.size false).size<=j by simpa using h')] at h
 ·exfalso
  have L5:k<ops.size:=(Array.getElem?_eq_some_iff.1 ho).1
  simp[L5] at hk
end
end Go.Am
end
