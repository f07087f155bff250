/- AmP, AmQ: parts of the proof. No condition. -/
import Derived.Test.YthildlkhnnogiaaAm21
set_option linter.unusedVariables false
set_option linter.unusedSimpArgs false
section
namespace Go.Am
theorem ab.ajP {c:ab} {m:Nat}:m∈c.sj↔c.fL m:=by
 cases c<;>simp[ab.sj,ab.fL]
theorem ab.Fv {c:ab} {m:Nat}:m∈c.nm↔c.ref m:=by
 cases c with
 |fn f bI=>simp[ab.nm,ab.ref,List.mem_flatMap,ab.ajP]
 |_=>simp[ab.nm,ab.sj,ab.ref,ab.fL]
theorem ah.z4 {v:ah} {m:Nat}:m∈v.gk↔v.ref m:=by
 cases v with
 |one c=>exact ab.Fv
 |agg cs=>simp[ah.gk,ah.ref,List.mem_flatMap,ab.Fv]
 |bk xs=>simp only[ah.gk,ah.ref,List.mem_flatMap,ab.Fv]
theorem pO {op:aI} {ev:MO->ah} {n:Nat}:n∈op.iN ev↔∃a∈op.args,(ev a).ref n:=by
 simp[aI.iN,List.mem_flatMap,ah.z4]
theorem JU {op:aI} {ev:MO->ah} {h:Nat->Option aj} {n:Nat} (hn:n∈op.iN ev):n∈op.lN ev h:=by
 unfold aI.lN
 cases op.E7 with
 |true=>exact List.mem_append.2 (.inl hn)
 |false=>exact hn
theorem abV {op:aI} {ev:MO->ah} {h:Nat->Option aj} {ws:List Nat} (hw:op.jU ev h=some ws) {n:Nat} (hn:n∈ws):n∈op.iN ev:=by
 cases op<;>simp only[aI.jU] at hw<;>first|(cases hw;cases hn)|(cases hw;done)|skip
 case store sz x v=>
  split at hw
  ·rename_i q _ _ _ hx
   have hq:q∈(aI.store sz x v).iN ev:=pO.2 ⟨x,by simp[aI.args],by rw[hx];exact rfl⟩
   split at hw
   ·injection hw with hw;subst hw;simp at hn;subst hn;exact hq
   ·injection hw with hw;subst hw
    rcases List.mem_cons.1 hn with rfl|hn
    ·exact hq
    ·exact pO.2 ⟨v,by simp[aI.args],ah.z4.1 hn⟩
   ·cases hw
  ·rename_i q _ _ _ _ _ hx
   have hq:q∈(aI.store sz x v).iN ev:=pO.2 ⟨x,by simp[aI.args],by rw[hx];exact rfl⟩
   injection hw with hw;subst hw;simp at hn;subst hn;exact hq
  ·cases hw
 case copy sz x y=>
  split at hw
  ·rename_i q _ _ _ hx
   injection hw with hw;subst hw;simp at hn;subst hn
   exact pO.2 ⟨x,by simp[aI.args],by rw[hx];exact rfl⟩
  ·cases hw
 case kq z x=>
  split at hw
  ·rename_i q _ _ _ hx
   injection hw with hw;subst hw;simp at hn;subst hn
   exact pO.2 ⟨x,by simp[aI.args],by rw[hx];exact rfl⟩
  ·cases hw
 case fF sz ps=>
  injection hw with hw
  subst hw
  obtain⟨a,ha,hn⟩:=List.mem_flatMap.1 hn
  exact pO.2 ⟨a,ha,ah.z4.1 hn⟩
 case iA f xs=>
  injection hw with hw
  subst hw
  obtain⟨a,ha,hn⟩:=List.mem_flatMap.1 hn
  exact pO.2 ⟨a,ha,ah.z4.1 hn⟩
 case append fl sz by_ x y=>
  injection hw with hw
  subst hw
  rcases List.mem_append.1 hn with hn|hn
  ·exact pO.2 ⟨x,by simp[aI.args],ah.z4.1 hn⟩
  ·exact pO.2 ⟨y,by simp[aI.args],ah.z4.1 hn⟩
def St.cX (σ:St):List (Nat×Option aj)->St
 |[]=>σ
 |(n,b)::l=>St.cX {σ with h:=ao σ.h n b} l
def dt (h:Nat->Option aj):List (Nat×Option aj)->(Nat->Option aj)
 |[]=>h
 |(n,b)::l=>dt (ao h n b) l
theorem kN:∀(l:List (Nat×Option aj)) (σ:St),σ.cX l={σ with h:=dt σ.h l}
 |[],σ=>rfl
 |(n,b)::l,σ=>by simp only[St.cX,dt];rw[kN l]
theorem nN:∀{l:List (Nat×Option aj)} {h:Nat->Option aj} {n:Nat},(∀p∈l,p.1≠n)->dt h l n=h n
 |[],h,n,_=>rfl
 |(m,b)::l,h,n,hn=>by
  simp only[dt]
  rw[nN fun p hp=>hn p (List.mem_cons_of_mem _ hp)]
  exact bP _ _ _ _ (fun e=>hn (m,b) (by simp) e.symm)
theorem amE (h:Nat->Option aj) (l l':List (Nat×Option aj)):dt h (l++l')=dt (dt h l) l':=by
 induction l generalizing h with
 |nil=>rfl
 |cons x l ih=>obtain⟨n,b⟩:=x;exact ih _
theorem De (σ:St) (l l':List (Nat×Option aj)):σ.cX (l++l')=(σ.cX l).cX l':=by
 simp only[kN,amE]
theorem Gr:∀{l:List (Nat×Option aj)} {h h':Nat->Option aj} {n:Nat},(∃p∈l,p.1=n)->dt h l n=dt h' l n
 |[],h,h',n,hn=>by obtain⟨p,hp,_⟩:=hn;cases hp
 |(m,b)::l,h,h',n,hn=>by
  simp only[dt]
  by_cases hl:∃p∈l,p.1=n
  ·exact Gr hl
  ·have bG:∀p∈l,p.1≠n:=fun p hp e=>hl ⟨p,hp,e⟩
   rw[nN bG,nN bG]
   obtain⟨p,hp,e⟩:=hn
   rcases List.mem_cons.1 hp with rfl|hp
   ·simp only at e;subst e;rw[bo,bo]
   ·exact absurd e (bG p hp)
theorem abH {u v:List (Nat×Option aj)} (hd:∀p∈u,∀q∈v,p.1≠q.1) (h:Nat->Option aj):dt (dt h u) v=dt (dt h v) u:=by
 funext n
 by_cases hu:∃p∈u,p.1=n
 ·obtain⟨p,hp,rfl⟩:=hu
  rw[nN (l:=v) fun q hq e=>hd p hp q hq e.symm]
  exact Gr ⟨p,hp,rfl⟩
 ·rw[nN (l:=u) (h:=dt h v) fun p hp e=>hu ⟨p,hp,e⟩]
  by_cases hv:∃q∈v,q.1=n
  ·exact Gr hv
  ·rw[nN fun q hq e=>hv ⟨q,hq,e⟩,nN fun p hp e=>hu ⟨p,hp,e⟩,nN fun q hq e=>hv ⟨q,hq,e⟩]
theorem amG {u v:List (Nat×Option aj)} (hd:∀p∈u,∀q∈v,p.1≠q.1) (σ:St):(σ.cX u).cX v=(σ.cX v).cX u:=by
 simp only[kN,abH hd]
theorem abI (σ:St) (e:Nat->ah) (l:List (Nat×Option aj)):(σ.we e).cX l=(σ.cX l).we e:=by
 simp only[kN];rfl
theorem amF {l:List (Nat×Option aj)} {h:Nat->Option aj} {n:Nat} {b:Option aj} (hn:∀p∈l,p.1≠n):dt (ao h n b) l=ao (dt h l) n b:=by
 have:=abH (u:=l) (v:=[(n,b)]) (fun p hp q hq=>by simp at hq;subst hq;exact hn p hp) h
 exact this.symm
theorem agF {σ σ1:St} {l:List (Nat×Option aj)} {n:Nat} {b:aj} (hl:∀p∈l,σ.used p.1=true) (h:σ.ins n b=some σ1):(σ.cX l).ins n b=some (σ1.cX l):=by
 obtain⟨u1,rfl⟩:=iI h
 unfold St.ins
 rw[kN,kN]
 rw[if_neg (show¬σ.used n=true by rw[u1];simp)]
 simp only
 rw[amF fun p hp e=>by rw[<-e,hl p hp] at u1;cases u1]
theorem E5:∀{A:List (Nat×aj)} {σ σ1:St} {l:List (Nat×Option aj)},(∀p∈l,σ.used p.1=true)->σ.cr A=some σ1->(σ.cX l).cr A=some (σ1.cX l)
 |[],σ,σ1,l,hl,h=>by
  simp only[St.cr] at h⊢
  injection h with h
  rw[h]
 |(n,b)::A,σ,σ1,l,hl,h=>by
  simp only[St.cr] at h⊢
  split at h
  ·rename_i jE e
   rw[agF hl e]
   obtain⟨u1,rfl⟩:=iI e
   exact E5 (fun p hp=>lQ _ _ (hl p hp)) h
  ·cases h
theorem Yv:∀{A:List (Nat×aj)} {σ σ':St},σ.used=σ'.used->(σ.cr A).isSome=true->(σ'.cr A).isSome=true
 |[],σ,σ',hu,h=>rfl
 |(n,b)::A,σ,σ',hu,h=>by
  simp only[St.cr,St.ins] at h⊢
  rw[<-hu]
  split at h
  ·rename_i jE e
   split at e
   ·cases e
   ·rename_i hn
    injection e with e
    subst e
    rw[if_neg hn]
    simp only
    exact Yv (by rfl) h
  ·cases h
theorem Po {A:List (Nat×aj)} {σ B:St} {l:List (Nat×Option aj)} (hl:∀p∈l,σ.used p.1=true) (h:(σ.cX l).cr A=some B):∃B',σ.cr A=some B'/\B=B'.cX l:=by
 have hs:(σ.cr A).isSome=true:=Yv (A:=A) (σ:=σ.cX l) (σ':=σ) (by rw[kN]) (by rw[h];rfl)
 cases e:σ.cr A with
 |none=>rw[e] at hs;cases hs
 |some B'=>
  refine⟨B',rfl,?_⟩
  have:=E5 hl e
  rw[h] at this
  injection this
abbrev Us:=List (Nat×Option aj)
def sG (h:Nat->Option aj):ab->Option (C×Bool×Us)
 |.c x=>some (x,x.dL,[])
 |.nil sz=>if 0<sz then some (.list sz [],true,[]) else none
 |.sl n sz lo len=>
  match h n with
  |some (.row _ m rs xs)=>if rs=sz/\lo=0/\len<=xs.length then some (.list sz (xs.take len),decide (m≠ .aG),[(n,none)]) else none
  |_=>none
 |_=>none
def jC (h:Nat->Option aj):List ab->Option (List C×Bool×Us)
 |[]=>some ([],true,[])
 |c::cs=>match sG h c with
  |some (x,o,u)=>match jC (dt h u) cs with
   |some (xs,o',u')=>some (x::xs,o&&o',u++u')
   |none=>none
  |none=>none
def oN (sz:Nat) (h:Nat->Option aj):List ah->Option (List (List C)×Bool×Us)
 |[]=>some ([],true,[])
 |v::vs=>match v.cells? with
  |some (_,cs)=>if cs.length=sz then
   match jC h cs with
   |some (e,o,u)=>match oN sz (dt h u) vs with
    |some (es,o',u')=>some (e::es,o&&o',u++u')
    |none=>none
   |none=>none
   else none
  |none=>none
theorem Gs (σ:St) (l:Us):(σ.cX l).h=dt σ.h l:=by rw[kN]
theorem amz (σ:St) (c:ab):σ.eM c=(sG σ.h c).map fun x=>(x.1,x.2.1,σ.cX x.2.2):=by
 cases c with
 |sl n sz lo len=>
  simp only[St.eM,sG]
  cases σ.h n with
  |none=>rfl
  |some b=>cases b with
   |box cs=>rfl
   |row gr m rs xs=>simp only;split<;>rfl
 |nil sz=>simp only[St.eM,sG];split<;>rfl
 |_=>rfl
theorem KW:∀(cs:List ab) (σ:St),σ.fi cs=(jC σ.h cs).map fun x=>(x.1,x.2.1,σ.cX x.2.2)
 |[],σ=>rfl
 |c::cs,σ=>by
  simp only[St.fi,jC,amz]
  cases sG σ.h c with
  |none=>rfl
  |some x=>
   obtain⟨x,o,u⟩:=x
   simp only[Option.map_some,KW cs,Gs]
   cases jC (dt σ.h u) cs with
   |none=>rfl
   |some y=>obtain⟨xs,o',u'⟩:=y;simp only[Option.map_some,De]
theorem abB (sz:Nat):∀(vs:List ah) (σ:St),σ.kL sz vs=(oN sz σ.h vs).map fun x=>(x.1,x.2.1,σ.cX x.2.2)
 |[],σ=>rfl
 |v::vs,σ=>by
  simp only[St.kL,oN]
  cases v.cells? with
  |none=>rfl
  |some x=>
   obtain⟨b,cs⟩:=x
   simp only
   split
   ·rw[KW]
    cases jC σ.h cs with
    |none=>rfl
    |some y=>
     obtain⟨e,o,u⟩:=y
     simp only[Option.map_some,abB sz vs,Gs]
     cases oN sz (dt σ.h u) vs with
     |none=>rfl
     |some y=>obtain⟨es,o',u'⟩:=y;simp only[Option.map_some,De]
   ·rfl
theorem amx {h:Nat->Option aj} {c:ab} {x:C} {o:Bool} {u:Us} (e:sG h c=some (x,o,u)):∀q∈u,q.1∈c.nm:=by
 unfold sG at e
 split at e
 ·injection e with e;injection e with _ e;injection e with _ e;subst e;intro q hq;cases hq
 ·split at e
  ·injection e with e;injection e with _ e;injection e with _ e;subst e;intro q hq;cases hq
  ·cases e
 ·split at e
  ·split at e
   ·injection e with e;injection e with _ e;injection e with _ e;subst e;intro q hq;simp at hq;subst hq;simp[ab.nm,ab.sj]
   ·cases e
  ·cases e
 ·cases e
theorem KV:∀{cs:List ab} {h:Nat->Option aj} {xs:List C} {o:Bool} {u:Us},jC h cs=some (xs,o,u)->∀q∈u,q.1∈cs.flatMap ab.nm
 |[],h,xs,o,u,e=>by
  simp only[jC] at e
  injection e with e;injection e with _ e;injection e with _ e;subst e;intro q hq;cases hq
 |c::cs,h,xs,o,u,e=>by
  simp only[jC] at e
  split at e
  ·rename_i x o1 u1 e1
   split at e
   ·rename_i eT o2 u2 e2
    injection e with e;injection e with _ e;injection e with _ e;subst e
    intro q hq
    rw[List.flatMap_cons]
    rcases List.mem_append.1 hq with hq|hq
    ·exact List.mem_append.2 (.inl (amx e1 q hq))
    ·exact List.mem_append.2 (.inr (KV e2 q hq))
   ·cases e
  ·cases e
theorem Bh {v:ah} {b:Bool} {cs:List ab} (h:v.cells?=some (b,cs)):cs.flatMap ab.nm=v.gk:=by
 cases v with
 |one c=>cases c<;>simp[ah.cells?] at h<;>(obtain⟨_,rfl⟩:=h;simp[ah.gk])
 |agg cs'=>simp[ah.cells?] at h;obtain⟨_,rfl⟩:=h;rfl
 |bk xs=>simp[ah.cells?] at h
theorem abA {sz:Nat}:∀{vs:List ah} {h:Nat->Option aj} {xs:List (List C)} {o:Bool} {u:Us},oN sz h vs=some (xs,o,u)->∀q∈u,q.1∈vs.flatMap ah.gk
 |[],h,xs,o,u,e=>by
  simp only[oN] at e
  injection e with e;injection e with _ e;injection e with _ e;subst e;intro q hq;cases hq
 |v::vs,h,xs,o,u,e=>by
  simp only[oN] at e
  split at e
  ·rename_i b cs hv
   split at e
   ·split at e
    ·rename_i x o1 u1 e1
     split at e
     ·rename_i eT o2 u2 e2
      injection e with e;injection e with _ e;injection e with _ e;subst e
      intro q hq
      rw[List.flatMap_cons]
      rcases List.mem_append.1 hq with hq|hq
      ·exact List.mem_append.2 (.inl (Bh hv▸KV e1 q hq))
      ·exact List.mem_append.2 (.inr (abA e2 q hq))
     ·cases e
    ·cases e
   ·cases e
  ·cases e
theorem Gq {h h':Nat->Option aj} {n:Nat} (hh:h' n=h n) (u:Us):dt h' u n=dt h u n:=by
 by_cases hu:∃p∈u,p.1=n
 ·exact Gr hu
 ·rw[nN fun p hp e=>hu ⟨p,hp,e⟩,nN fun p hp e=>hu ⟨p,hp,e⟩,hh]
theorem amw {h h':Nat->Option aj} {c:ab} (hh:∀n∈c.nm,h' n=h n):sG h' c=sG h c:=by
 cases c with
 |sl n sz lo len=>simp only[sG];rw[hh n (by simp[ab.nm,ab.sj])]
 |_=>rfl
theorem KU:∀{cs:List ab} {h h':Nat->Option aj},(∀n∈cs.flatMap ab.nm,h' n=h n)->jC h' cs=jC h cs
 |[],h,h',_=>rfl
 |c::cs,h,h',hh=>by
  simp only[jC]
  rw[amw fun n hn=>hh n (by rw[List.flatMap_cons];exact List.mem_append.2 (.inl hn))]
  cases sG h c with
  |none=>rfl
  |some x=>
   obtain⟨x,o,u⟩:=x
   simp only
   rw[KU (cs:=cs) (h:=dt h u) (h':=dt h' u) fun n hn=>Gq (hh n (by rw[List.flatMap_cons];exact List.mem_append.2 (.inr hn))) u]
theorem abz {sz:Nat}:∀{vs:List ah} {h h':Nat->Option aj},(∀n∈vs.flatMap ah.gk,h' n=h n)->oN sz h' vs=oN sz h vs
 |[],h,h',_=>rfl
 |v::vs,h,h',hh=>by
  simp only[oN]
  cases hv:v.cells? with
  |none=>rfl
  |some x=>
   obtain⟨b,cs⟩:=x
   simp only
   rw[KU (cs:=cs) fun n hn=>hh n (by rw[List.flatMap_cons];exact List.mem_append.2 (.inl (Bh hv▸hn)))]
   cases jC h cs with
   |none=>rfl
   |some y=>
    obtain⟨e,o,u⟩:=y
    simp only
    rw[abz (vs:=vs) (h:=dt h u) (h':=dt h' u) fun n hn=>Gq (hh n (by rw[List.flatMap_cons];exact List.mem_append.2 (.inr hn))) u]
def yk (h:Nat->Option aj) (n:Nat) (gr:Bool) (m:Mode) (rs:Nat) (xs:List (List C)) (k off:Nat) (e:List C) (vs:List ab):Option Us:=
 match sub e off vs.length with
 |none=>none
 |some f8=>match jC h vs with
  |none=>none
  |some (cs,o,u)=>
   if m=.live then
    if eo cs=true/\eo f8=true/\(dt h u n).isSome=true/\gr=false then some (u++[(n,some (.row gr m rs (xs.set k (ci e off cs))))]) else none
   else if(dt h u n).isSome=true then some (u++[(n,some (.row gr (if o=true then m else .aG) rs (xs.set k (ci e off cs))))])
   else none
theorem amg (σ:St) (n:Nat) (gr:Bool) (m:Mode) (rs:Nat) (xs:List (List C)) (k off:Nat) (e:List C) (vs:List ab):
  mQ σ n gr m rs xs k off e vs=(yk σ.h n gr m rs xs k off e vs).map fun u=>σ.cX u:=by
 unfold mQ yk
 cases sub e off vs.length with
 |none=>rfl
 |some f8=>
  simp only[KW]
  cases jC σ.h vs with
  |none=>rfl
  |some x=>
   obtain⟨cs,o,u⟩:=x
   simp only[Option.map_some,Gs]
   repeat' split
   all_goals first|rfl|(simp only[Option.map_some,De];rfl)
def wJ (h:Nat->Option aj) (sz:Nat):ah->Option (List (List C)×Mode×List (Nat×Option aj))
 |.one (.nil _)=>some ([],.af,[])
 |.one (.sl a s 0 len)=>match h a with
  |some (.row true m rs xs)=>if rs=sz/\s=sz/\len=xs.length then some (xs,m,[(a,none)]) else none
  |_=>none
 |_=>none
def uC (fl:Bool) (h:Nat->Option aj) (sz:Nat) (m:Mode):ah->Option (List (List C)×Mode×List (Nat×Option aj))
  |.one (.nil _)=>some ([],m,[])
  |.one (.c (.list s ys))=>if s=sz then(if(fl&&dd ys)=true then some (ys,m,[]) else if m=.live then none else some (ys,.aG,[])) else none
  |.one (.sl b s lo len)=>match h b with
   |some (.row gr m' rs ys)=>if rs=sz/\s=sz/\lo+len<=ys.length then
       (if(fl&&dd ((ys.drop lo).take len))=true then some ((ys.drop lo).take len,m,[])
        else if lo=0/\len=ys.length then(if m=m'/\(m=.live->gr=true) then some (ys,m,[(b,none)]) else if m=.live\/m'=.live then none else some (ys,.aG,[(b,none)])) else none)
    else none
   |_=>none
  |_=>none
theorem ab4 (σ:St) (sz:Nat) (v:ah):qi σ sz v=(wJ σ.h sz v).map fun x=>(x.1,x.2.1,σ.cX x.2.2):=by
 cases v with
 |one v=>cases v with
  |sl a s lo len=>cases lo with
   |zero=>
    simp only[qi,wJ]
    cases σ.h a with
    |none=>rfl
    |some b=>cases b with
     |box cs=>rfl
     |row gr m rs xs=>cases gr with
      |true=>simp only;split<;>rfl
      |false=>rfl
   |succ lo=>rfl
  |_=>rfl
 |_=>rfl
theorem ab6 (fl:Bool) (σ:St) (sz:Nat) (m:Mode) (v:ah):ko fl σ sz m v=(uC fl σ.h sz m v).map fun x=>(x.1,x.2.1,σ.cX x.2.2):=by
 cases v with
 |one v=>cases v with
  |sl b s lo len=>
   simp only[ko,uC]
   cases σ.h b with
   |none=>rfl
   |some b=>cases b with
    |box cs=>rfl
    |row gr m rs xs=>
     simp only
     repeat' split
     all_goals rfl
  |c x=>cases x with
   |list s ys=>
    simp only[ko,uC]
    repeat' split
    all_goals rfl
   |_=>rfl
  |_=>rfl
 |_=>rfl
def kT (h:Nat->Option aj):List ah->Option (List Dv×List Nat×Us)
 |[]=>some ([],[],[])
 |v::vs=>match kU h v with
  |some (n,xs)=>match kT h vs with
   |some (ds,ns,u)=>some ((.ptr,xs)::ds,n::ns,u)
   |none=>none
  |none=>match v.cells? with
   |some (ag,cs)=>match jC h cs with
    |some (xs,_,u)=>match kT (dt h u) vs with
     |some (ds,ns,u')=>some ((if ag=true then .agg else .one,xs)::ds,ns,u++u')
     |none=>none
    |none=>none
   |none=>none
theorem L7:∀(vs:List ah) (σ:St),σ.gH vs=(kT σ.h vs).map fun x=>(x.1,x.2.1,σ.cX x.2.2)
 |[],σ=>rfl
 |v::vs,σ=>by
  simp only[St.gH,kT]
  cases kU σ.h v with
  |some x=>
   obtain⟨n,xs⟩:=x
   simp only[L7 vs σ]
   cases kT σ.h vs<;>rfl
  |none=>
   simp only
   cases v.cells? with
   |none=>rfl
   |some x=>
    obtain⟨ag,cs⟩:=x
    simp only
    rw[KW]
    cases jC σ.h cs with
    |none=>rfl
    |some y=>
     obtain⟨e,o,u⟩:=y
     simp only[Option.map_some,L7 vs,Gs]
     cases kT (dt σ.h u) vs with
     |none=>rfl
     |some y=>obtain⟨ds,ns,u'⟩:=y;simp only[Option.map_some,De]
theorem acg {h:Nat->Option aj} {v:ah} {n:Nat} {xs:List C} (e:kU h v=some (n,xs)):n∈v.gk:=by
 obtain⟨sz,cs,rfl,_⟩:=L9 e
 simp[ah.gk,ab.nm,ab.sj]
theorem HZ:∀{vs:List ah} {h:Nat->Option aj} {ds:List Dv} {ns:List Nat} {u:Us},kT h vs=some (ds,ns,u)->(∀q∈u,q.1∈vs.flatMap ah.gk)/\∀n∈ns,n∈vs.flatMap ah.gk
 |[],h,ds,ns,u,e=>by
  simp only[kT] at e
  injection e with e;injection e with _ e;injection e with e1 e;subst e e1;exact⟨fun q hq=>(by cases hq),fun q hq=>(by cases hq)⟩
 |v::vs,h,ds,ns,u,e=>by
  simp only[kT] at e
  split at e
  ·rename_i n xs hp
   split at e
   ·rename_i tf jQ u' e2
    injection e with e;injection e with _ e;injection e with e1 e;subst e e1
    obtain⟨i1,i2⟩:=HZ e2
    rw[List.flatMap_cons]
    refine⟨fun q hq=>List.mem_append.2 (.inr (i1 q hq)),fun m hm=>?_⟩
    rcases List.mem_cons.1 hm with rfl|hm
    ·exact List.mem_append.2 (.inl (acg hp))
    ·exact List.mem_append.2 (.inr (i2 m hm))
   ·cases e
  ·split at e
   ·rename_i b cs hv
    split at e
    ·rename_i x o1 u1 e1
     split at e
     ·rename_i ds2 Zz u2 e2
      injection e with e;injection e with _ e;injection e with e3 e;subst e e3
      obtain⟨i1,i2⟩:=HZ e2
      rw[List.flatMap_cons]
      refine⟨fun q hq=>?_,fun m hm=>List.mem_append.2 (.inr (i2 m hm))⟩
      rcases List.mem_append.1 hq with hq|hq
      ·exact List.mem_append.2 (.inl (Bh hv▸KV e1 q hq))
      ·exact List.mem_append.2 (.inr (i1 q hq))
     ·cases e
    ·cases e
   ·cases e
theorem acf {h h':Nat->Option aj} {v:ah} (hh:∀n∈v.gk,h' n=h n):kU h' v=kU h v:=by
 cases v with
 |one c=>cases c with
  |ptr n k sz off=>simp only[kU];rw[hh n (by simp[ah.gk,ab.nm,ab.sj])]
  |_=>rfl
 |_=>rfl
theorem L5:∀{vs:List ah} {h h':Nat->Option aj},(∀n∈vs.flatMap ah.gk,h' n=h n)->kT h' vs=kT h vs
 |[],h,h',_=>rfl
 |v::vs,h,h',hh=>by
  have h1:∀n∈v.gk,h' n=h n:=fun n hn=>hh n (by rw[List.flatMap_cons];exact List.mem_append.2 (.inl hn))
  have h2:∀n∈vs.flatMap ah.gk,h' n=h n:=fun n hn=>hh n (by rw[List.flatMap_cons];exact List.mem_append.2 (.inr hn))
  simp only[kT]
  rw[acf h1]
  cases kU h v with
  |some x=>
   obtain⟨n,xs⟩:=x
   simp only
   rw[L5 h2]
  |none=>
   simp only
   cases hv:v.cells? with
   |none=>rfl
   |some x=>
    obtain⟨b,cs⟩:=x
    simp only
    rw[KU (cs:=cs) fun n hn=>h1 n (Bh hv▸hn)]
    cases jC h cs with
    |none=>rfl
    |some y=>
     obtain⟨e,o,u⟩:=y
     simp only
     rw[L5 (vs:=vs) (h:=dt h u) (h':=dt h' u) fun n hn=>Gq (h2 n hn) u]
def vV (h:Nat->Option aj):List Nat->List C->Option Us
 |[],[]=>some []
 |[n],out=>match h n with
  |some (.box cs)=>if cs.length=out.length then some [(n,some (.box (out.map .c)))] else none
  |_=>none
 |_,_=>none
theorem akU (σ:St) (ns:List Nat) (out:List C):σ.q9 ns out=(vV σ.h ns out).map σ.cX:=by
 match ns,out with
 |[],[]=>rfl
 |[],_::_=>rfl
 |[n],out=>
  simp only[St.q9,vV]
  cases σ.h n with
  |none=>rfl
  |some b=>
   cases b with
   |box cs=>simp only;split<;>rfl
   |row gr m rs xs=>rfl
 |_::_::_,out=>rfl
theorem akT {h:Nat->Option aj} {ns:List Nat} {out:List C} {u:Us} (e:vV h ns out=some u):∀q∈u,q.1∈ns:=by
 unfold vV at e
 split at e
 ·injection e with e;subst e;intro q hq;cases hq
 ·split at e
  ·split at e
   ·injection e with e;subst e;intro q hq;simp at hq;subst hq;simp
   ·cases e
  ·cases e
 ·cases e
theorem akS {h h':Nat->Option aj} {ns:List Nat} {out:List C} (hh:∀n∈ns,h' n=h n):vV h' ns out=vV h ns out:=by
 match ns,out with
 |[],[]=>rfl
 |[],_::_=>rfl
 |[n],out=>simp only[vV];rw[hh n (by simp)]
 |_::_::_,out=>rfl
def A7 (d:Option Nat):List Dv->Option (ah×List (Nat×aj))
 |[(.ptr,cs)]=>match d with
  |some q=>some (.one (.ptr q 0 0 0),[(q,.box (cs.map .c))])
  |none=>none
 |rs=>match gu rs with
  |some ls=>some (jS ls,[])
  |none=>none
theorem ach (σ:St) (d:Option Nat) (rs:List Dv):ql σ d rs=(A7 d rs).bind fun x=>(σ.cr x.2).map (·.put d x.1):=by
 unfold ql
 split
 ·cases d with
  |none=>rfl
  |some q=>
   simp only[A7,Option.bind_some,St.cr]
   cases σ.ins q _<;>rfl
 ·rename_i av
  have e:A7 d rs=match gu rs with
    |some ls=>some (jS ls,[])
    |none=>none:=by
   unfold A7
   split
   ·exact absurd rfl (av _)
   ·rfl
  rw[e]
  cases gu rs with
  |none=>rfl
  |some ls=>rfl
abbrev LS:=ah×List (Nat×Option aj)×List (Nat×aj)
def eN (T:aF) (d:Option Nat) (op:aI) (ev:MO->ah) (h:Nat->Option aj):Option LS:=
 match op with
 |.store sz x v=>match ev x,(ev v).cells? with
  |.one (.ptr n k au off),some (_,vs)=>if vs.length=sz then
   match h n with
   |some (.box cs)=>if k=0/\off+sz<=cs.length then some (.one .aX,[(n,some (.box (ci cs off vs)))],[]) else none
   |some (.row gr m rs xs)=>if au=rs then
    match xs[k]? with
    |some e=>match yk h n gr m rs xs k off e vs with
     |some u=>some (.one .aX,u,[])
     |none=>none
    |none=>none
    else none
   |none=>none
   else none
  |.one (.bX n k au off s i),some (_,vs)=>if vs.length=sz then
   match h n with
   |some (.row false .live rs xs)=>if au=rs then
    match wc xs k off s i vs with
    |some ak=>some (.one .aX,[(n,some (.row false .live rs ak))],[])
    |none=>none
    else none
   |_=>none
   else none
  |_,_=>none
 |.fF sz ps=>match d,oN sz h (ps.map ev) with
  |some n,some (es,o,u)=>some (.one (.sl n sz 0 es.length),u,[(n,.row true (if o=true then .af else .aG) sz es)])
  |_,_=>none
 |.append fl sz by_ x y=>match d with
  |none=>none
  |some n=>match wJ h sz (ev x) with
   |none=>none
   |some (xs,m,u1)=>match uC fl (dt h u1) sz m (ev y) with
    |none=>none
    |some (ys,m2,u2)=>if(xs.length+ys.length)*by_<=e8 then some (.one (.sl n sz 0 (xs.length+ys.length)),u1++u2,[(n,.row true m2 sz (xs++ys))]) else none
 |.iA f xs=>match kT h (xs.map ev),aF.jY T.vs f with
  |some (ds,ns,u),some M=>match M ds with
   |some (rs,out)=>match vV (dt h u) ns out,A7 d rs with
    |some u',some (v,is)=>some (v,u++u',is)
    |_,_=>none
   |none=>none
  |_,_=>none
 |.copy sz x y=>match ev x,ev y with
  |.one (.sl n s lo len),.one c=>match h n,bQ h c with
   |some (.row gr m rs xs),some (.list s' ys)=>if sz=1/\s=1/\rs=1/\s'=1/\m≠ .aG/\dd xs=true/\dd ys=true/\lo+len<=xs.length then
    some (.one (.c (.int .i64 (Nat.min ys.length len:Nat))),[(n,some (.row gr m 1 (ci xs lo (ys.take len))))],[]) else none
   |_,_=>none
  |_,_=>none
 |.kq z x=>match ev x with
  |.one (.sl n s lo len)=>match h n with
   |some (.row gr m rs xs)=>if s=1/\rs=1/\z.dL=true/\m≠ .aG/\dd xs=true/\lo+len<=xs.length then
    some (.bk [],[(n,some (.row gr m 1 (ci xs lo (List.replicate len [z]))))],[]) else none
   |_=>none
  |_=>none
 |op=>(rd T d op ev h).map fun x=>(x.1,[],x.2)
def wW (d:Option Nat) (σ:St) (p:LS):Option St:=((σ.cX p.2.1).cr p.2.2).map (·.put d p.1)
theorem IC {T:aF} {d:Option Nat} {op:aI} {σ:St} {ws:List Nat} (hw:op.jU σ.ev σ.h=some ws) (hd:∀sz x v,op=.store sz x v->d=none):
  exec T d op σ=(eN T d op σ.ev σ.h).bind (wW d σ):=by
 by_cases hc:op.dD<=1
 ·rw[pd T d op σ hc]
  have:eN T d op σ.ev σ.h=(rd T d op σ.ev σ.h).map fun x=>(x.1,[],x.2):=by
   cases op<;>first|rfl|(simp[aI.dD] at hc)
  rw[this]
  cases rd T d op σ.ev σ.h with
  |none=>rfl
  |some x=>rfl
 ·cases op<;>simp[aI.dD] at hc<;>simp only[aI.jU] at hw
  case fN=>cases hw
  case lY=>cases hw
  case nX=>cases hw
  case copy sz x y=>
   simp only[exec,eN]
   cases σ.ev x with
   |one p=>cases p with
    |sl n s lo len=>
     cases σ.ev y with
     |one c=>
      simp only
      cases σ.h n with
      |none=>rfl
      |some b=>cases b with
       |box cs=>rfl
       |row gr m rs xs=>
        cases bQ σ.h c with
        |none=>rfl
        |some q=>cases q with
         |list s' ys=>
          simp only
          split<;>rfl
         |_=>rfl
     |_=>rfl
    |_=>rfl
   |_=>rfl
  case kq z x=>
   simp only[exec,eN]
   cases σ.ev x with
   |one p=>cases p with
    |sl n s lo len=>
     simp only
     cases σ.h n with
     |none=>rfl
     |some b=>cases b with
      |box cs=>rfl
      |row gr m rs xs=>
       simp only
       split<;>rfl
    |_=>rfl
   |_=>rfl
  case tail=>cases hw
  case oE=>cases hw
  case iA f xs=>
   simp only[exec,eN,qt,L7]
   cases kT σ.h (xs.map σ.ev) with
   |none=>rfl
   |some x=>
    obtain⟨ds,ns,u⟩:=x
    simp only[Option.map_some]
    cases aF.jY T.vs f with
    |none=>rfl
    |some M=>
     simp only
     cases M ds with
     |none=>rfl
     |some z=>
      obtain⟨rs,out⟩:=z
      simp only[akU,Gs]
      cases vV (dt σ.h u) ns out with
      |none=>rfl
      |some u'=>
       simp only[Option.map_some,ach]
       cases A7 d rs with
       |none=>rfl
       |some z=>
        obtain⟨v,is⟩:=z
        simp only[Option.bind_some,wW,De]
  case fF sz ps=>
   simp only[exec,eN]
   rw[abB]
   cases d with
   |none=>rfl
   |some n=>
    cases oN sz σ.h (ps.map σ.ev) with
    |none=>rfl
    |some x=>
     obtain⟨es,o,u⟩:=x
     simp only[Option.map_some,Option.bind_some,wW,St.cr]
     cases (σ.cX u).ins n (.row true (if o=true then .af else .aG) sz es)<;>rfl
  case append fl sz by_ x y=>
   simp only[exec,eN,ab4]
   cases d with
   |none=>rfl
   |some n=>
    simp only
    cases wJ σ.h sz (σ.ev x) with
    |none=>rfl
    |some z=>
     obtain⟨xs,m,u1⟩:=z
     simp only[Option.map_some,ab6]
     have hh:(σ.cX u1).h=dt σ.h u1:=by rw[kN]
     rw[hh]
     cases uC fl (dt σ.h u1) sz m (σ.ev y) with
     |none=>rfl
     |some z=>
      obtain⟨ys,m2,u2⟩:=z
      simp only[Option.map_some]
      split
      ·simp only[Option.bind_some,wW,De,St.cr]
       cases ((σ.cX u1).cX u2).ins n (.row true m2 sz (xs++ys))<;>rfl
      ·rfl
  case store sz x v=>
   have hd:=hd sz x v rfl
   subst hd
   simp only[exec,eN]
   split at hw
   ·rename_i n k au off hx
    simp only[hx]
    cases hv:(σ.ev v).cells? with
    |none=>rfl
    |some y=>
     obtain⟨ag,vs⟩:=y
     simp only
     split
     ·split at hw
      ·rename_i cs hn
       simp only[hn]
       split
       ·rfl
       ·rfl
      ·rename_i gr m rs xs hn
       simp only[hn]
       split
       ·cases xs[k]? with
        |none=>rfl
        |some e=>
         simp only
         rw[amg]
         cases yk σ.h n gr m rs xs k off e vs with
         |none=>rfl
         |some b=>rfl
       ·rfl
      ·cases hw
     ·rfl
   ·rename_i n k au off s i hx
    simp only[hx]
    cases hv:(σ.ev v).cells? with
    |none=>rfl
    |some y=>
     obtain⟨ag,vs⟩:=y
     simp only
     split
     ·cases σ.h n with
      |none=>rfl
      |some b=>cases b with
       |box cs=>rfl
       |row gr m rs xs=>cases m with
        |live=>cases gr with
         |true=>rfl
         |false=>
          simp only
          split
          ·cases wc xs k off s i vs<;>rfl
          ·rfl
        |_=>cases gr<;>rfl
     ·rfl
   ·cases hw
theorem Vc {T:aF} {d:Option Nat} {op:aI} {ev:MO->ah} {h:Nat->Option aj} {ws:List Nat} {p:LS} (hw:op.jU ev h=some ws) (ha:eN T d op ev h=some p):∀q∈p.2.1,q.1∈ws:=by
 by_cases hc:op.dD<=1
 ·have:eN T d op ev h=(rd T d op ev h).map fun x=>(x.1,[],x.2):=by
   cases op<;>first|rfl|(simp[aI.dD] at hc)
  rw[this,Option.map_eq_some_iff] at ha
  obtain⟨x,_,rfl⟩:=ha
  intro q hq
  cases hq
 ·cases op<;>simp[aI.dD] at hc<;>simp only[aI.jU] at hw
  case fN=>cases hw
  case lY=>cases hw
  case nX=>cases hw
  case copy sz x y=>
   simp only[eN] at ha
   split at ha
   ·rename_i n s lo len c hx hy
    simp only[hx] at hw
    injection hw with hw
    subst hw
    repeat' split at ha
    all_goals first|cases ha|skip
    intro q hq
    simp at hq
    subst hq
    simp
   ·cases ha
  case kq z x=>
   simp only[eN] at ha
   split at ha
   ·rename_i n s lo len hx
    simp only[hx] at hw
    injection hw with hw
    subst hw
    repeat' split at ha
    all_goals first|cases ha|skip
    intro q hq
    simp at hq
    subst hq
    simp
   ·cases ha
  case tail=>cases hw
  case oE=>cases hw
  case iA f xs=>
   injection hw with hw
   subst hw
   simp only[eN] at ha
   split at ha
   ·rename_i ds ns u M e1 e2
    split at ha
    ·rename_i rs out e3
     split at ha
     ·rename_i u' v is e4 e5
      injection ha with ha;subst ha
      obtain⟨i1,i2⟩:=HZ e1
      intro q hq
      rw[List.flatMap_map] at i1 i2
      rcases List.mem_append.1 hq with hq|hq
      ·exact i1 q hq
      ·exact i2 _ (akT e4 q hq)
     ·cases ha
    ·cases ha
   ·cases ha
  case fF sz ps=>
   injection hw with hw
   subst hw
   simp only[eN] at ha
   split at ha
   ·rename_i n es o u e
    injection ha with ha;subst ha
    intro q hq
    have:=abA e q hq
    rw[List.flatMap_map] at this
    exact this
   ·cases ha
  case append fl sz by_ x y=>
   injection hw with hw
   subst hw
   simp only[eN] at ha
   split at ha
   ·cases ha
   ·split at ha
    ·cases ha
    ·rename_i xs m u1 e1
     split at ha
     ·cases ha
     ·rename_i ys m2 u2 e2
      split at ha
      ·injection ha with ha
       subst ha
       intro q hq
       rcases List.mem_append.1 hq with tx|tx
       ·clear hq
        refine List.mem_append.2 (.inl ?_)
        unfold wJ at e1
        split at e1
        ·injection e1 with e1;injection e1 with _ e1;injection e1 with _ e1;subst e1;cases tx
        ·rename_i a s len hv
         split at e1
         ·split at e1
          ·injection e1 with e1;injection e1 with _ e1;injection e1 with _ e1;subst e1
           simp at tx;subst tx;simp[ah.gk,ab.nm,ab.sj,hv]
          ·cases e1
         ·cases e1
        ·cases e1
       ·clear hq
        refine List.mem_append.2 (.inr ?_)
        have BN:∀(b:Nat),u2=[]\/u2=[(b,none)]->b∈(ev y).gk->q.1∈(ev y).gk:=by
         intro b hb hm
         rcases hb with hb|hb
         ·subst hb;cases tx
         ·subst hb;simp at tx;subst tx;exact hm
        unfold uC at e2
        split at e2
        ·injection e2 with e2;injection e2 with _ e2;injection e2 with _ e2;subst e2;cases tx
        ·repeat' split at e2
         all_goals first|cases e2|skip
         all_goals (cases tx)
        ·rename_i b s lo len hv
         have hm:b∈(ev y).gk:=by simp[hv,ah.gk,ab.nm,ab.sj]
         refine BN b ?_ hm
         repeat' split at e2
         all_goals first|cases e2|skip
         all_goals first|exact .inl rfl|exact .inr rfl
        ·cases e2
      ·cases ha
  case store sz x v=>
   simp only[eN] at ha
   split at ha
   ·rename_i n k au off b vs hx hv
    simp only[hx] at hw
    split at ha
    ·split at ha
     ·rename_i cs hn
      simp only[hn] at hw
      split at ha
      ·injection ha with ha;subst ha;injection hw with hw;subst hw
       intro q hq;simp at hq;subst hq;simp
      ·cases ha
     ·rename_i gr m rs xs hn
      simp only[hn] at hw
      injection hw with hw
      subst hw
      split at ha
      ·split at ha
       ·split at ha
        ·rename_i u e0
         injection ha with ha;subst ha
         intro q hq
         have hq:q∈u:=hq
         have two:∀(u1:Us) (bb:Option aj),u=u1++[(n,bb)]->(∀q∈u1,q.1∈vs.flatMap ab.nm)->q.1∈n::(ev v).gk:=by
          intro u1 bb he B5
          rw[he] at hq
          rcases List.mem_append.1 hq with hq|hq
          ·exact List.mem_cons_of_mem _ (Bh hv▸B5 q hq)
          ·simp at hq;subst hq;simp
         unfold yk at e0
         split at e0
         ·cases e0
         ·split at e0
          ·cases e0
          ·rename_i cs o u1 e1
           have B5:=KV e1
           repeat' split at e0
           all_goals first|(injection e0 with e0;exact two _ _ e0.symm B5)|cases e0
        ·cases ha
       ·cases ha
      ·cases ha
     ·cases ha
    ·cases ha
   ·rename_i n k au off s i b vs hx hv
    simp only[hx] at hw
    injection hw with hw
    subst hw
    repeat' split at ha
    all_goals first|cases ha|skip
    intro q hq
    simp at hq
    subst hq
    simp
   ·cases ha
section
variable {T:aF} {d:Option Nat} {op:aI} {ev ev':MO->ah} {h h':Nat->Option aj}
theorem Fu (bu:∀x∈op.args,ev' x=ev x):op.iN ev'=op.iN ev:=by
 unfold aI.iN
 generalize op.args=l at bu
 induction l with
 |nil=>rfl
 |cons x l ih=>simp only[List.flatMap_cons];rw[bu x (by simp),ih fun y hy=>bu y (List.mem_cons_of_mem _ hy)]
theorem Vv:∀{l:List Nat} (_:∀n∈l,h' n=h n),Bd h' l=Bd h l
 |[],_=>rfl
 |n::l,hh=>by
  have:=Vv (l:=l) fun m hm=>hh m (List.mem_cons_of_mem _ hm)
  simp only[Bd,List.flatMap_cons] at this⊢
  rw[hh n (by simp),this]
theorem Rl (bu:∀x∈op.args,ev' x=ev x) (hh:∀n∈op.iN ev,h' n=h n):op.lN ev' h'=op.lN ev h:=by
 unfold aI.lN
 rw[Fu bu,Vv hh]
theorem Lc (bu:∀x∈op.args,ev' x=ev x) (hh:∀n∈op.iN ev,h' n=h n):op.jU ev' h'=op.jU ev h:=by
 cases op<;>first|rfl|skip
 case store sz x v=>
  have h1:=bu x (by simp[aI.args])
  have h2:=bu v (by simp[aI.args])
  simp only[aI.jU,h1,h2]
  cases hv:ev x with
  |one p=>cases p with
   |ptr n k au off=>simp only;rw[hh n (pO.2 ⟨x,by simp[aI.args],by rw[hv];exact rfl⟩)]
   |_=>rfl
  |_=>rfl
 case copy sz x y=>
  simp only[aI.jU,bu x (by simp[aI.args])]
 case kq z x=>
  simp only[aI.jU,bu x (by simp[aI.args])]
 case iA f xs=>
  have:=Fu (op:=.iA f xs) bu
  simp only[aI.iN,aI.args] at this
  simp only[aI.jU,this]
 case fF sz ps=>
  have:=Fu (op:=.fF sz ps) bu
  simp only[aI.iN,aI.args] at this
  simp only[aI.jU,this]
 case append fl sz by_ x y=>
  simp only[aI.jU,bu x (by simp[aI.args]),bu y (by simp[aI.args])]
theorem Vb (bu:∀x∈op.args,ev' x=ev x) (hh:∀n∈op.lN ev h,h' n=h n):eN T d op ev' h'=eN T d op ev h:=by
 have I2:∀n∈op.iN ev,h' n=h n:=fun n hn=>hh n (JU hn)
 have hn:∀a∈op.args,∀n,(ev a).ref n->h' n=h n:=fun a ha n hr=>I2 n (pO.2 ⟨a,ha,hr⟩)
 have gen:rd T d op ev' h'=rd T d op ev h:=by
  rw[CI T d op _ bu]
  refine ZY (u:=fun n=>h' n=h n) (vv:=fun n=>n∈op.iN ev) T d op ev (fun n hn=>hn) (fun hc m cs c n hm hb dm hr=>?_) (fun x hx m hm=>hn x hx m hm) (fun x hx m hm=>pO.2 ⟨x,hx,hm⟩)
  refine hh n ?_
  unfold aI.lN
  rw[hc]
  refine List.mem_append.2 (.inr ?_)
  unfold Bd
  rw[List.mem_flatMap]
  exact⟨m,hm,by rw[hb];exact List.mem_flatMap.2 ⟨c,dm,ab.Fv.2 hr⟩⟩
 cases op<;>first|(simp only[eN];rw[gen];done)|skip
 case store sz x v=>
  have h1:=bu x (by simp[aI.args])
  have h2:=bu v (by simp[aI.args])
  simp only[eN,h1,h2]
  have h3:=hn x (by simp[aI.args])
  cases hv:ev x with
  |one p=>cases p with
   |ptr n k au off=>
    rw[hv] at h3
    have h3:=h3 n rfl
    have h5:=hn v (by simp[aI.args])
    cases hc:(ev v).cells? with
    |none=>rfl
    |some y=>
     obtain⟨b,vs⟩:=y
     have h6:∀gr m rs xs e,yk h' n gr m rs xs k off e vs=yk h n gr m rs xs k off e vs:=by
      intro gr m rs xs e
      have h7:jC h' vs=jC h vs:=KU fun q hq=>h5 q (ah.z4.1 (Bh hc▸hq))
      unfold yk
      rw[h7]
      cases jC h vs with
      |none=>rfl
      |some y=>
       obtain⟨cs,o,u⟩:=y
       simp only[Gq h3 u]
     simp only[h3,h6]
   |bX n k au off s i=>
    rw[hv] at h3
    have h3:=h3 n rfl
    cases hc:(ev v).cells? with
    |none=>rfl
    |some y=>
     simp only[h3]
   |_=>cases (ev v).cells?<;>rfl
  |_=>cases (ev v).cells?<;>rfl
 case copy sz x y=>
  have h1:=bu x (by simp[aI.args])
  have h2:=bu y (by simp[aI.args])
  have h3:=hn x (by simp[aI.args])
  have h4:=hn y (by simp[aI.args])
  simp only[eN,h1,h2]
  cases hv:ev x with
  |one p=>cases p with
   |sl n s lo len=>
    rw[hv] at h3
    have h3:=h3 n rfl
    cases hc:ev y with
    |one c=>
     rw[hc] at h4
     have h5:bQ h' c=bQ h c:=Aq (u:=fun n=>h' n=h n) (fun n hn=>hn) fun m hm=>h4 m (ab.xZ hm)
     simp only[h3,h5]
    |_=>rfl
   |_=>rfl
  |_=>rfl
 case kq z x=>
  have h1:=bu x (by simp[aI.args])
  have h3:=hn x (by simp[aI.args])
  simp only[eN,h1]
  cases hv:ev x with
  |one p=>cases p with
   |sl n s lo len=>
    rw[hv] at h3
    have h3:=h3 n rfl
    simp only[h3]
   |_=>rfl
  |_=>rfl
 case iA f xs=>
  have hl:xs.map ev'=xs.map ev:=List.map_congr_left bu
  have h2:kT h' (xs.map ev)=kT h (xs.map ev):=L5 fun n bh=>by
   rw[List.flatMap_map] at bh
   exact I2 n bh
  simp only[eN,hl,h2]
  cases e1:kT h (xs.map ev) with
  |none=>rfl
  |some x=>
   obtain⟨ds,ns,u⟩:=x
   try simp only
   cases aF.jY T.vs f with
   |none=>rfl
   |some M=>
    try simp only
    cases M ds with
    |none=>rfl
    |some z=>
     obtain⟨rs,out⟩:=z
     try simp only
     rw[akS (h:=dt h u) (h':=dt h' u) fun n bh=>Gq (I2 n (by
      have:=(HZ e1).2 n bh
      rw[List.flatMap_map] at this
      exact this)) u]
 case fF sz ps=>
  have hl:ps.map ev'=ps.map ev:=List.map_congr_left bu
  have h2:oN sz h' (ps.map ev)=oN sz h (ps.map ev):=abz fun n bh=>by
   rw[List.flatMap_map] at bh
   exact I2 n bh
  simp only[eN,hl,h2]
 case append fl sz by_ x y=>
  have h1:=bu x (by simp[aI.args])
  have h2:=bu y (by simp[aI.args])
  have h3:=hn x (by simp[aI.args])
  have h4:=hn y (by simp[aI.args])
  have e1:wJ h' sz (ev x)=wJ h sz (ev x):=by
   cases hv:ev x with
   |one p=>cases p with
    |sl a s lo len=>
     rw[hv] at h3
     cases lo with
     |zero=>simp only[wJ,h3 a rfl]
     |succ lo=>rfl
    |_=>rfl
   |_=>rfl
  have e2:∀(us:List (Nat×Option aj)) (m:Mode),uC fl (dt h' us) sz m (ev y)=uC fl (dt h us) sz m (ev y):=by
   intro us m
   cases hv:ev y with
   |one p=>cases p with
    |sl b s lo len=>
     rw[hv] at h4
     have hb:dt h' us b=dt h us b:=by
      by_cases hu:∃p∈us,p.1=b
      ·exact Gr hu
      ·rw[nN fun p hp e=>hu ⟨p,hp,e⟩,nN fun p hp e=>hu ⟨p,hp,e⟩]
       exact h4 b rfl
     simp only[uC,hb]
    |c x=>cases x<;>rfl
    |_=>rfl
   |_=>rfl
  simp only[eN,h1,h2,e1,e2]
end
theorem MI {f g:List Nat×List Nat} (h:DR f g=true) {n:Nat} (h1:n∈f.2) (h2:n∈g.1):False:=by
 simp only[DR,Bool.and_eq_true,List.all_eq_true] at h
 have:=h.1 n h1
 simp[h2] at this
theorem ac0 {f g:List Nat×List Nat} (h:DR f g=true) {n:Nat} (h1:n∈g.2) (h2:n∈f.1):False:=by
 simp only[DR,Bool.and_eq_true,List.all_eq_true] at h
 have:=h.2 n h1
 simp[h2] at this
theorem Cv {σ:St} (W:Wf σ) {op:aI} (hf:∀a∈op.args,a.flat=true) {n:Nat} (hn:n∈op.iN σ.ev):σ.used n=true:=by
 obtain⟨a,ha,hr⟩:=pO.1 hn
 exact W.arg (hf a ha) n hr
theorem ZW {σ:St} (W:Wf σ) {op:aI} (hf:∀a∈op.args,a.flat=true) {n:Nat} (hn:n∈op.lN σ.ev σ.h):σ.used n=true:=by
 unfold aI.lN at hn
 cases hc:op.E7 with
 |true=>
  rw[hc] at hn
  rcases List.mem_append.1 hn with hn|hn
  ·exact Cv W hf hn
  ·unfold Bd at hn
   rw[List.mem_flatMap] at hn
   obtain⟨m,hm,hn⟩:=hn
   split at hn
   ·rename_i cs hb
    obtain⟨c,hc,hr⟩:=List.mem_flatMap.1 hn
    exact W.box m cs c n hb hc (ab.Fv.1 hr)
   ·cases hn
 |false=>rw[hc] at hn;exact Cv W hf hn
section
variable {T:aF} {dx dy:Option Nat} {x y:aI} {σ σ1 σ2:St}
theorem Xc (W:Wf σ) (j4:∀n,dx=some n->MO.t n∉y.args) (zq:∀a∈y.args,a.flat=true) (u7:∀sz p v,x=.store sz p v->dx=none)
  (hc:x.dD<=1\/y.dD=0) (h1:exec T dx x σ=some σ1):y.fp σ1=y.fp σ:=by
 have r5:=wV u7 h1
 have bu:∀a∈y.args,σ1.ev a=σ.ev a:=fun a ha=>by
  cases a with
  |t n=>show σ1.env n=σ.env n;rw[r5];exact ra fun pq=>j4 n pq ha
  |k v=>rfl
 rcases hc with hc|hc
 ·rw[pd T dx x σ hc] at h1
  have hh:∀n∈y.iN σ.ev,σ1.h n=σ.h n:=by
   intro n hn
   cases hr:rd T dx x σ.ev σ.h with
   |none=>rw[hr] at h1;cases h1
   |some p=>
    rw[hr] at h1
    simp only[Option.bind_some,gv,Option.map_eq_some_iff] at h1
    obtain⟨A,hA,rfl⟩:=h1
    have:(A.put dx p.1).h=A.h:=by cases dx<;>rfl
    rw[this]
    exact((zN hA).1 n (Cv W zq hn)).2
  unfold aI.fp
  rw[Lc bu hh,Rl bu hh]
 ·unfold aI.fp
  have c1:y.E7=false:=by cases y<;>first|rfl|(simp[aI.dD] at hc)
  have w:∀ev h,y.jU ev h=some []:=by intro ev h;cases y<;>first|rfl|(simp[aI.dD] at hc)
  simp only[w,aI.lN,c1,cond_false,Fu bu]
theorem acP (W:Wf σ) (hd:∀n,dx=some n->dy≠some n) (j4:∀n,dx=some n->MO.t n∉y.args) (tE:∀n,dy=some n->MO.t n∉x.args)
  (I0:∀a∈x.args,a.flat=true) (zq:∀a∈y.args,a.flat=true)
  (u7:∀sz p v,x=.store sz p v->dx=none) (En:∀sz p v,y=.store sz p v->dy=none) (hk:DS (x.fp σ) (y.fp σ1)=true)
  (h1:exec T dx x σ=some σ1) (h2:exec T dy y σ1=some σ2):∃τ,exec T dy y σ=some τ/\exec T dx x τ=some σ2/\y.fp σ1=y.fp σ/\x.fp τ=x.fp σ:=by
 unfold aI.fp at hk
 cases y6:x.jU σ.ev σ.h with
 |none=>rw[y6] at hk;cases hk
 |some wx=>
 cases y7:y.jU σ1.ev σ1.h with
 |none=>rw[y6,y7] at hk;cases hk
 |some wy=>
 rw[y6,y7] at hk
 simp only[Option.map_some,DS] at hk
 rw[IC y6 u7] at h1
 rw[IC y7 En] at h2
 cases It:eN T dx x σ.ev σ.h with
 |none=>rw[It] at h1;cases h1
 |some px=>
 obtain⟨vx,ux,nx⟩:=px
 rw[It] at h1
 simp only[Option.bind_some,wW,Option.map_eq_some_iff] at h1
 obtain⟨A,hA,rfl⟩:=h1
 have KZ:∀q∈ux,q.1∈wx:=Vc y6 It
 have UI:∀q∈ux,σ.used q.1=true:=fun q hq=>Cv W I0 (abV y6 (KZ q hq))
 obtain⟨A',Xl,rfl⟩:=Po UI hA
 obtain⟨oa,ea⟩:=zN Xl
 have mr:∀(s:St) (d:Option Nat) (v:ah),(s.put d v).h=s.h:=fun s d v=>by cases d<;>rfl
 have bu:∀a∈y.args,((A'.cX ux).put dx vx).ev a=σ.ev a:=fun a ha=>by
  rw[oK,IA fun n hn=>ra fun pq=>j4 n pq (hn▸ha)]
  cases a with
  |t n=>show(A'.cX ux).env n=σ.env n;rw[kN];show A'.env n=_;rw[ea]
  |k v=>rfl
 have agc:y.lN ((A'.cX ux).put dx vx).ev ((A'.cX ux).put dx vx).h=y.lN σ.ev σ.h/\y.jU ((A'.cX ux).put dx vx).ev ((A'.cX ux).put dx vx).h=y.jU σ.ev σ.h:=by
  have hh:∀n∈y.iN σ.ev,((A'.cX ux).put dx vx).h n=σ.h n:=fun n hn=>by
   rw[mr,kN]
   show dt A'.h ux n=_
   rw[nN fun p hp e=>MI hk (KZ p hp) (by rw[e];exact JU (by rw[Fu bu];exact hn))]
   exact(oa n (Cv W zq hn)).2
  exact⟨Rl bu hh,Lc bu hh⟩
 obtain⟨r1,r2⟩:=agc
 have hh:∀n∈y.lN σ.ev σ.h,((A'.cX ux).put dx vx).h n=σ.h n:=fun n hn=>by
  rw[mr,kN]
  show dt A'.h ux n=_
  rw[nN fun p hp e=>MI hk (KZ p hp) (by rw[e];show n∈y.lN _ _;rw[r1];exact hn)]
  exact(oa n (ZW W zq hn)).2
 have eay:eN T dy y ((A'.cX ux).put dx vx).ev ((A'.cX ux).put dx vx).h=eN T dy y σ.ev σ.h:=Vb bu hh
 rw[eay] at h2
 rw[r2] at y7
 cases Iu:eN T dy y σ.ev σ.h with
 |none=>rw[Iu] at h2;cases h2
 |some py=>
 obtain⟨vy,uy,ny⟩:=py
 rw[Iu] at h2
 simp only[Option.bind_some,wW,Option.map_eq_some_iff] at h2
 obtain⟨D,hD,rfl⟩:=h2
 have uyw:∀q∈uy,q.1∈wy:=Vc y7 Iu
 have uyn:∀q∈uy,q.1∈y.iN σ.ev:=fun q hq=>abV y7 (uyw q hq)
 have UJ:∀q∈uy,σ.used q.1=true:=fun q hq=>Cv W zq (uyn q hq)
 have uyA:∀q∈uy,A'.used q.1=true:=fun q hq=>(oa _ (UJ q hq)).1
 have uxA:∀q∈ux,A'.used q.1=true:=fun q hq=>(oa _ (UI q hq)).1
 have u6:∀p∈ux,∀q∈uy,p.1≠q.1:=fun p hp q hq e=>MI hk (KZ p hp) (by rw[e];show q.1∈y.lN _ _;rw[r1];exact JU (uyn q hq))
 rw[oK,abI,zO,Option.map_eq_some_iff] at hD
 obtain⟨D0,hD0,rfl⟩:=hD
 obtain⟨D1,hD1,rfl⟩:=Po (σ:=A'.cX ux) (fun q hq=>by rw[kN];exact uyA q hq) hD0
 obtain⟨F,hF,rfl⟩:=Po uxA hD1
 obtain⟨C',hC,hCF⟩:=Pn Xl hF
 obtain⟨oc,ec⟩:=zN hC
 have uyC:∀q∈uy,C'.used q.1=true:=fun q hq=>(oc _ (UJ q hq)).1
 have uxC:∀q∈ux,C'.used q.1=true:=fun q hq=>(oc _ (UI q hq)).1
 have IX:∀a∈x.args,((C'.cX uy).put dy vy).ev a=σ.ev a:=fun a ha=>by
  rw[oK,IA fun n hn=>ra fun pq=>tE n pq (hn▸ha)]
  cases a with
  |t n=>show(C'.cX uy).env n=σ.env n;rw[kN];show C'.env n=_;rw[ec]
  |k v=>rfl
 have XJ:∀n∈x.lN σ.ev σ.h,((C'.cX uy).put dy vy).h n=σ.h n:=fun n hn=>by
  rw[mr,kN]
  show dt C'.h uy n=_
  rw[nN fun p hp e=>ac0 hk (uyw p hp) (by rw[e];exact hn)]
  exact(oc n (ZW W I0 hn)).2
 have Om:∀n∈x.iN σ.ev,((C'.cX uy).put dy vy).h n=σ.h n:=fun n hn=>XJ n (JU hn)
 refine⟨(C'.cX uy).put dy vy,?_,?_,?_,?_⟩
 ·rw[IC y7 En,Iu]
  simp only[Option.bind_some,wW,E5 UJ hC,Option.map_some]
 ·rw[IC (ws:=wx) (by rw[Lc IX Om];exact y6) u7,Vb IX XJ,It]
  simp only[Option.bind_some,wW]
  rw[oK,abI,zO,E5 (σ:=C'.cX uy) (fun q hq=>by rw[kN];exact uxC q hq) (E5 uyC hCF)]
  simp only[Option.map_some]
  rw[oK,oK,amG u6]
  congr 1
  have e1:(C'.cX uy).env=σ.env:=by rw[kN];exact ec
  have e2:(A'.cX ux).env=σ.env:=by rw[kN];exact ea
  show St.we _ (g9 (g9 (C'.cX uy).env dy vy) dx vx)=St.we _ (g9 (g9 (A'.cX ux).env dx vx) dy vy)
  rw[e1,e2,J5 σ.env _ _ hd]
  rfl
 ·unfold aI.fp
  rw[r1,r2]
 ·unfold aI.fp
  rw[Lc IX Om,Rl IX Om]
end
end Go.Am
end
section
namespace Go.Am
def DM (x y:bq):Bool:=x.op.dD==0||y.op.dD==0||(decide (x.op.dD<=1)&&decide (y.op.dD<=1))
def DO (x y:bq):Bool:=
 (match x.dst with|some d=>y.t7 d&&(match y.dst with|some e=>e !=d|none=>true)|none=>true)&&
 (match y.dst with|some d=>x.t7 d|none=>true)&&x.qy&&y.qy
theorem VU {T:aF} {x y:bq} {σ σ1 σ2:St} (W:Wf σ) (hc:DO x y=true) (hk:DM x y=true\/DS (x.fp σ) (y.fp σ1)=true) (h1:cQ T x σ=some σ1) (h2:cQ T y σ1=some σ2):
  ∃τ,cQ T y σ=some τ/\cQ T x τ=some σ2/\y.fp σ1=y.fp σ/\x.fp τ=x.fp σ:=by
 simp only[DO,Bool.and_eq_true] at hc
 obtain⟨⟨⟨c1,c2⟩,c3⟩,c4⟩:=hc
 rw[BB] at h1 h2
 cases ex:mb x σ.env with
 |none=>rw[ex] at h1;cases h1
 |some jf=>
  rw[ex] at h1
  have h1:exec T x.dst jf σ=some σ1:=h1
  have jx:jf=x.op\/jf=.mv (.k (.bk [])):=Iv ex
  have Ak:∀sz p v,jf=.store sz p v->x.dst=none:=by
   intro sz p v he
   rcases jx with rfl|rfl
   ·simp only[bq.qy,Bool.and_eq_true,he] at c3;simpa using c3.2
   ·cases he
  have r5:=wV Ak h1
  have O2:∀s w,y.guard=some (s,w)->x.dst≠some s:=by
   intro s w hg hd
   rw[hd] at c1
   simp[bq.t7,hg] at c1
  have Jj:∀s w,x.guard=some (s,w)->y.dst≠some s:=by
   intro s w hg hd
   rw[hd] at c2
   simp[bq.t7,hg] at c2
  have ID:mb y σ1.env=mb y σ.env:=DV fun s w hg=>by rw[r5];exact ra (O2 s w hg)
  rw[ID] at h2
  cases ey:mb y σ.env with
  |none=>rw[ey] at h2;cases h2
  |some iP=>
   rw[ey] at h2
   have h2:exec T y.dst iP σ1=some σ2:=h2
   have jy:iP=y.op\/iP=.mv (.k (.bk [])):=Iv ey
   have yl:∀sz p v,iP=.store sz p v->y.dst=none:=by
    intro sz p v he
    rcases jy with rfl|rfl
    ·simp only[bq.qy,Bool.and_eq_true,he] at c4;simpa using c4.2
    ·cases he
   have D4:∀a∈jf.args,a.flat=true:=by
    rcases jx with rfl|rfl
    ·simp only[bq.qy,Bool.and_eq_true,List.all_eq_true] at c3;exact c3.1
    ·intro a ha;simp[aI.args] at ha;subst ha;rfl
   have D5:∀a∈iP.args,a.flat=true:=by
    rcases jy with rfl|rfl
    ·simp only[bq.qy,Bool.and_eq_true,List.all_eq_true] at c4;exact c4.1
    ·intro a ha;simp[aI.args] at ha;subst ha;rfl
   have j4:∀n,x.dst=some n->MO.t n∉iP.args:=by
    intro n hd
    rcases jy with rfl|rfl
    ·rw[hd] at c1
     simp only[Bool.and_eq_true] at c1
     exact bq.JV c1.1
    ·simp[aI.args]
   have tE:∀n,y.dst=some n->MO.t n∉jf.args:=by
    intro n hd
    rcases jx with rfl|rfl
    ·rw[hd] at c2
     exact bq.JV c2
    ·simp[aI.args]
   have u6:∀n,x.dst=some n->y.dst≠some n:=by
    intro n hd he
    rw[hd,he] at c1
    simp at c1
   have yfp:y.fp σ1=iP.fp σ1:=by unfold bq.fp;rw[ID,ey]
   have am2:y.fp σ=iP.fp σ:=by unfold bq.fp;rw[ey]
   have abW:x.fp σ=jf.fp σ:=by unfold bq.fp;rw[ex]
   have xfp:∀τ,exec T y.dst iP σ=some τ->x.fp τ=jf.fp τ:=by
    intro τ t1
    unfold bq.fp
    rw[DV (e:=σ.env) (fun s w hg=>by rw[wV yl t1];exact ra (Jj s w hg)),ex]
   have gv:(∃τ,exec T y.dst iP σ=some τ/\exec T x.dst jf τ=some σ2/\iP.fp σ1=iP.fp σ/\jf.fp τ=jf.fp σ)->∃τ,cQ T y σ=some τ/\cQ T x τ=some σ2/\y.fp σ1=y.fp σ/\x.fp τ=x.fp σ:=by
    rintro⟨τ,t1,t2,t3,t4⟩
    refine⟨τ,?_,?_,?_,?_⟩
    ·rw[BB,ey];exact t1
    ·rw[BB,DV (e:=σ.env) (fun s w hg=>by rw[wV yl t1];exact ra (Jj s w hg)),ex];exact t2
    ·rw[yfp,am2,t3]
    ·rw[xfp τ t1,abW,t4]
   apply gv
   rcases hk with c5|hk
   ·have bA:jf.dD=0\/iP.dD=0\/(jf.dD<=1/\iP.dD<=1):=by
     rcases jx with rfl|rfl
     ·rcases jy with rfl|rfl
      ·simp only[DM,Bool.or_eq_true,beq_iff_eq,Bool.and_eq_true,decide_eq_true_eq,or_assoc] at c5
       exact c5
      ·exact .inr (.inl rfl)
     ·exact .inl rfl
    obtain⟨τ,t1,t2⟩:=VT W u6 j4 tE D4 D5 Ak yl bA h1 h2
    refine⟨τ,t1,t2,Xc W j4 D5 Ak (by omega) h1,Xc W tE D4 yl (by omega) t1⟩
   ·rw[yfp,abW] at hk
    exact acP W u6 j4 tE D4 D5 Ak yl hk h1 h2
def uv (T:aF) (ms:List bq) (F:Nat->Option FP):List Nat->St->St->Prop
 |[],σ,cT=>σ=cT
 |i::L,σ,cT=>∃m σ1,ms[i]? =some m/\F i=m.fp σ/\cQ T m σ=some σ1/\uv T ms F L σ1 cT
def LR (F:Nat->Option FP) (ms:List bq) (i j:Nat) (m:bq):Prop:=∃mj,ms[j]? =some mj/\DO mj m=true/\(DM mj m=true\/DS (F j) (F i)=true)
structure Le (F:Nat->Option FP) (ops:Array Oper) (ms:List bq):Prop where
 back:∀(i:Nat) (o:Oper),ops[i]? =some o->∀e∈o.after,Region.binds .any e=true->e.on<i
 pair:∀(i j:Nat) (o:Oper) (m:bq),ops[i]? =some o->ms[i]? =some m->j<i->oR ops i j\/LR F ms i j m
section
variable {B:Nat} {E:Ex} {w0 w w':World} {G G':Gh} {N:Nat}
variable {P:Program} {T:aF} {o:Oper} {mo:bq} {a:Act} {σ σ':St} {Q:Exit->Act->World->Prop} {ops:Array Oper}
theorem aab (hT:jn P T) {ms:List bq} {F:Nat->Option FP} (fH:∀(i:Nat) (m:bq),ms[i]? =some m->∃o,ops[i]? =some o/\m5 P N ops o m=true) {i:Nat} {mi:bq} (hi:ms[i]? =some mi) {post:List Nat} {cT:St}:
  ∀{pre:List Nat} {σ:St},yL B E w0 N σ->uv T ms F (pre++i::post) σ cT->(∀j∈pre,LR F ms i j mi)->
  ∃τ,F i=mi.fp σ/\cQ T mi σ=some τ/\uv T ms F (pre++post) τ cT
 |[],σ,hr,hx,hc=>by
  obtain⟨m,σ1,h1,h2,h3,h4⟩:=hx
  rw[hi] at h1
  injection h1 with h1
  subst h1
  exact⟨σ1,h2,h3,h4⟩
 |j::pre,σ,hr,hx,hc=>by
  obtain⟨mj,σ1,k1,k2,k3,k4⟩:=hx
  obtain⟨mj',hj,ij,bA⟩:=hc j (by simp)
  rw[k1] at hj
  injection hj with hj
  subst hj
  obtain⟨oj,_,eg⟩:=fH j mj k1
  obtain⟨mU,t0,t1,t2⟩:=aab hT fH hi (Rn hr hT eg k3) k4 (fun k hk=>hc k (by simp[hk]))
  obtain⟨a,w,G,r⟩:=hr
  rw[k2,t0] at bA
  obtain⟨τ,s1,s2,s3,s4⟩:=VU r.wf ij bA k3 t1
  exact⟨τ,by rw[t0,s3],s1,mj,mU,k1,by rw[s4];exact k2,s2,t2⟩
theorem amV (hT:jn P T) {ms:List bq} {F:Nat->Option FP} (fH:∀(i:Nat) (m:bq),ms[i]? =some m->∃o,ops[i]? =some o/\m5 P N ops o m=true) (hlen:ms.length=ops.size) (hd:Le F ops ms) {cT:St}
  (hQ:∀a w G,R B E w0 N cT a w G->Q .normal a w):
  ∀(eW:Nat) (L:List Nat) (bM:Array Bool) (σ:St) (a:Act) (w:World) (G:Gh),R B E w0 N σ a w G->uv T ms F L σ cT->L.Pairwise (·<·)->L.length<=eW->bM.size=ops.size->
   (∀j,j∈L↔bM.getD j true=false)->Dt ops bM->wpAny P .any ops Q eW bM a w:=by
 have first:∀(L:List Nat) (bM:Array Bool),L.Pairwise (·<·)->bM.size=ops.size->(∀j,j∈L↔bM.getD j true=false)->Region.ready .any ops bM=[]->L=[]:=by
  intro L bM hp hs hL hr
  cases L with
  |nil=>rfl
  |cons j L=>
   exfalso
   have hj:=(hL j).1 (by simp)
   have iE:j<ops.size:=by
    rw[<-hs]
    rcases Nat.lt_or_ge j bM.size with h|h
    ·exact h
    ·simp[Array.getElem?_eq_none h] at hj
   have ho:ops[j]? =some ops[j]:=Array.getElem?_eq_getElem iE
   have:j∈Region.ready .any ops bM:=by
    rw[mem_ready]
    refine⟨hj,_,ho,fun e he hb=>?_⟩
    have bS:=hd.back j _ ho e he hb
    have ly:e.on∉j::L:=by
     intro hm
     cases hm with
     |head=>omega
     |tail _ hm=>have:=(List.pairwise_cons.1 hp).1 _ hm;omega
    have av:bM.getD e.on true≠false:=fun h=>ly ((hL e.on).2 h)
    have lx:e.on<bM.size:=by omega
    simp[lx] at av⊢
    exact av
   rw[hr] at this
   cases this
 intro eW
 induction eW with
 |zero=>
  intro L bM σ a w G r hx hp hl hs hL hC
  have pk:L=[]:=List.eq_nil_of_length_eq_zero (by omega)
  subst pk
  have hx:σ=cT:=hx
  subst hx
  refine⟨?_,hQ _ _ _ r⟩
  cases hr:Region.ready .any ops bM with
  |nil=>rfl
  |cons i l=>
   have hm:i∈Region.ready .any ops bM:=by rw[hr];simp
   have:=(hL i).2 (mem_ready.1 hm).1
   cases this
 |succ eW ih=>
  intro L bM σ a w G r hx hp hl hs hL hC
  refine⟨fun hr=>?_,fun i hi=>?_⟩
  ·have pk:=first L bM hp hs hL hr
   subst pk
   have hx:σ=cT:=hx
   subst hx
   exact hQ _ _ _ r
  ·obtain⟨zv,oi,gx,zk⟩:=mem_ready.1 hi
   have n9:i∈L:=(hL i).2 zv
   obtain⟨pre,post,rfl⟩:=List.append_of_mem n9
   have BW:i<ops.size:=(Array.getElem?_eq_some_iff.1 gx).1
   have qK:ms[i]? =some ms[i]:=List.getElem?_eq_getElem (by omega)
   obtain⟨o',ek,gU⟩:=fH i _ qK
   rw[gx] at ek
   injection ek with ek
   subst ek
   have eS:=List.pairwise_append.1 hp
   obtain⟨τ,t0,t1,t2⟩:=aab (ops:=ops) hT fH qK ⟨a,w,G,r⟩ hx (fun j hj=>by
    have jp:j<i:=eS.2.2 j hj i (by simp)
    rcases hd.pair i j oi _ gx qK jp with Ei|h
    ·have h1:=A8 hC Ei (fun o ho e he hb=>by
      rw[gx] at ho
      injection ho with ho
      subst ho
      have h1:=zk e he hb
      have bS:=hd.back i _ gx e he hb
      have lx:e.on<bM.size:=by omega
      simp[lx] at h1⊢
      exact h1)
     have h2:=(hL j).1 (by simp[hj])
     rw[h1] at h2
     cases h2
    ·exact h)
   have xj:∀a' w',Nx B E w0 N τ a' w'->wpAny P .any ops Q eW (bM.setIfInBounds i true) a' w':=by
    rintro a' w' ⟨G',r'⟩
    refine ih (pre++post) _ τ a' w' G' r' t2 ?_ (by simp at hl⊢;omega) (by simpa using hs) (fun j=>?_) (fun k o ho hk e he hb=>?_)
    ·rw[List.pairwise_append]
     exact⟨eS.1,(List.pairwise_cons.1 eS.2.1).2,fun x hx y hy=>eS.2.2 x hx y (by simp[hy])⟩
    ·by_cases jp:j=i
     ·subst jp
      have iE:j<bM.size:=by omega
      simp only[List.mem_append]
      constructor
      ·rintro(h|h)
       ·have:=eS.2.2 j h j (by simp);omega
       ·have:=(List.pairwise_cons.1 eS.2.1).1 j h;omega
      ·intro h
       simp[iE] at h
     ·rw[getD_set_ne true (Ne.symm jp),<-hL j]
      simp[jp]
    ·have xf:∀q,bM.getD q true=true->(bM.setIfInBounds i true).getD q true=true:=by
      intro q hq
      by_cases mz:q=i
      ·subst mz
       have:q<bM.size:=by omega
       simp[this]
      ·rw[getD_set_ne true (Ne.symm mz)];exact hq
     by_cases xc:k=i
     ·subst xc
      rw[gx] at ho
      injection ho with ho
      subst ho
      have h1:=zk e he hb
      have bS:=hd.back k _ gx e he hb
      have lx:e.on<bM.size:=by omega
      refine xf _ ?_
      simp[lx] at h1⊢
      exact h1
     ·rw[getD_set_ne true (Ne.symm xc)] at hk
      exact xf _ (hC k o ho hk e he hb)
   unfold wpOp
   rw[gx]
   simp only
   rcases y9 (Q:=Q) r hT gU t1 with⟨hw,h⟩|⟨hw,h⟩
   ·rw[if_pos hw]
    exact .inl (Oper.wp_mono xj h)
   ·rw[if_neg (by simp[hw])]
    exact xj _ _ h
def DH (ps:List (Nat×Nat)) (ops:List Oper) (ms:List bq):Bool:=
 (fun ks:List Nat=>(List.range ops.length).all fun i=>match ops[i]?,ms[i]? with
  |some o,some m=>(o.after.toList.all fun e=> !Region.binds .any e||decide (e.on<i))&&
   (List.range i).all fun j=>(ks.getD i 0).testBit j||(match ms[j]? with|some mj=>DO mj m&&(DM mj m||ps.contains (j,i))|none=>false)
  |_,_=>false) (tV ops [])
theorem VH {ps:List (Nat×Nat)} {ms:List bq} {fs:List (Option FP)} (h:DH ps ops.toList ms=true) (hp:sk ps fs=true):Le (fun i=>fs.getD i none) ops ms:=by
  simp only[DH,List.all_eq_true,List.mem_range] at h
  have bW:∀(i:Nat) (o:Oper),ops[i]? =some o->∃m,ms[i]? =some m/\(o.after.toList.all fun e=> !Region.binds .any e||decide (e.on<i))=true/\
        ∀j,j<i->(((tV ops.toList []).getD i 0).testBit j||(match ms[j]? with|some mj=>DO mj m&&(DM mj m||ps.contains (j,i))|none=>false))=true:=by
    intro i o ho
    have hi:i<ops.toList.length:=by simpa using(Array.getElem?_eq_some_iff.1 ho).1
    have hi':=h i hi
    have ek:ops.toList[i]? =some o:=by simpa using ho
    rw[ek] at hi'
    cases hm:ms[i]? with
    |none=>rw[hm] at hi';cases hi'
    |some m=>
     rw[hm] at hi'
     simp only[Bool.and_eq_true,List.all_eq_true,List.mem_range] at hi'
     exact⟨m,rfl,by rw[List.all_eq_true];exact hi'.1,hi'.2⟩
  refine⟨fun i o ho e he hb=>?_,fun i j o m ho hm hj=>?_⟩
  · obtain⟨m,_,k1,_⟩:=bW i o ho
    have:=List.all_eq_true.1 k1 e (Array.mem_toList_iff.2 he)
    simp[hb] at this
    exact this
  · obtain⟨m',bm,_,k2⟩:=bW i o ho
    rw[hm] at bm
    injection bm with bm
    subst bm
    have:=k2 j hj
    rw[Bool.or_eq_true] at this
    rcases this with h1|h1
    · exact .inl (JG ops.toList [] [] rfl rfl (by intro i k hb;simp at hb) i j h1)
    · cases B0:ms[j]? with
      |none=>rw[B0] at h1;cases h1
      |some mj=>
       rw[B0] at h1
       simp only[Bool.and_eq_true,Bool.or_eq_true] at h1
       refine .inr ⟨mj,B0,h1.1,?_⟩
       rcases h1.2 with h2|h2
       · exact .inl h2
       · refine .inr ?_
         have:=List.all_eq_true.1 hp (j,i) (by simpa using h2)
         exact this
theorem MU {ms:List bq}:∀(post pre:List bq) (σ cT:St) (fs cD:List (Option FP)),ms=pre++post->cD.length=pre.length->ku T post cD σ=some (fs,cT)->
  cD=fs.take cD.length/\uv T ms (fun i=>fs.getD i none) (List.range' pre.length post.length) σ cT
 |[],pre,σ,cT,fs,cD,he,hl,hx=>by
  simp only[ku] at hx
  injection hx with hx
  injection hx with h1 h2
  subst h1 h2
  exact⟨by simp,rfl⟩
 |m::post,pre,σ,cT,fs,cD,he,hl,hx=>by
  simp only[ku] at hx
  split at hx
  ·rename_i σ1 e1
   obtain⟨h1,h2⟩:=MU (ms:=ms) post (pre++[m]) σ1 cT fs (cD++[m.fp σ]) (by simp[he]) (by simp[hl]) hx
   have h3:fs[cD.length]? =some (m.fp σ):=by
    have:(fs.take (cD++[m.fp σ]).length)[cD.length]? =some (m.fp σ):=by rw[<-h1];simp
    rw[List.getElem?_take] at this
    split at this
    ·exact this
    ·cases this
   have h4:cD=fs.take cD.length:=by
    have:=congrArg (List.take cD.length) h1
    simpa[List.take_take] using this
   refine⟨h4,m,σ1,?_,?_,e1,?_⟩
   ·rw[he,List.getElem?_append_right (Nat.le_refl _),Nat.sub_self];rfl
   ·show fs.getD pre.length none=_
    rw[<-hl,List.getD_eq_getElem?_getD,h3];rfl
   ·simpa using h2
  ·cases hx
theorem ak2 (hT:jn P T) (hm:P.follows .mixedOrders=true) {id:Nat} {ps:List (Nat×Nat)} {ms:List bq} {fs:List (Option FP)} (hc:iB P N ops ops.toList ms=true) (hd:DH ps ops.toList ms=true)
  (hx:ku T ms [] σ=some (fs,σ')) (hp:sk ps fs=true) (r:R B E w0 N σ a w G) (hQ:∀a w G,R B E w0 N σ' a w G->Q .normal a w):(Code.region id ops true).wp P Q a w:=by
 obtain⟨k1,k2⟩:=Mm hc
 have hlen:ms.length=ops.size:=by simpa using k1
 refine wp_region_any hm (amV (B:=B) (E:=E) (w0:=w0) (N:=N) hT (fun i m h=>by
  obtain⟨o,h1,h2⟩:=k2 i m h;exact⟨o,by simpa using h1,h2⟩) hlen (VH hd hp) hQ ops.size (List.range ops.size) _ σ a _ G (r.drawn _) ?_ ?_ (by simp) (by simp) (fun j=>?_) (fun k o ho hk=>?_))
 ·have:=(MU (T:=T) (ms:=ms) ms [] σ σ' fs [] rfl rfl hx).2
  simp only[List.length_nil,hlen,<-List.range_eq_range'] at this
  exact this
 ·exact List.pairwise_lt_range
 ·rw[List.mem_range]
  constructor
  ·intro h;simp[h]
  ·intro h
   rcases Nat.lt_or_ge j ops.size with h'|h'
   ·exact h'
   ·simp[Array.getElem?_eq_none (show(Array.replicate ops.size false).size<=j by simpa using h')] at h
 ·exfalso
  have Ez:k<ops.size:=(Array.getElem?_eq_some_iff.1 ho).1
  simp[Ez] at hk
end
end Go.Am
end
