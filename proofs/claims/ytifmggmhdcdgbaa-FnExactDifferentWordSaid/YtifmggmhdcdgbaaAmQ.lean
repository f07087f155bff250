/- AmP, AmQ: parts of the proof. No condition. -/
import Derived.Test.YtifmggmhdcdgbaaAm21
set_option linter.unusedVariables false
set_option linter.unusedSimpArgs false
section
namespace Go.Am
theorem ah.alF {c:ah} {m:Nat}:m∈c.rh↔c.gU m:=by
 cases c<;>simp[ah.rh,ah.gU]
theorem ah.Ej {c:ah} {m:Nat}:m∈c.nm↔c.ref m:=by
 cases c with
 |fn f bR=>simp[ah.nm,ah.ref,List.mem_flatMap,ah.alF]
 |_=>simp[ah.nm,ah.rh,ah.ref,ah.gU]
theorem ai.yK {v:ai} {m:Nat}:m∈v.fP↔v.ref m:=by
 cases v with
 |one c=>exact ah.Ej
 |agg cs=>simp[ai.fP,ai.ref,List.mem_flatMap,ah.Ej]
 |bj xs=>simp only[ai.fP,ai.ref,List.mem_flatMap,ah.Ej]
theorem oM {op:aC} {ev:MO->ai} {n:Nat}:n∈op.hZ ev↔∃a∈op.args,(ev a).ref n:=by
 simp[aC.hZ,List.mem_flatMap,ai.yK]
theorem JN {op:aC} {ev:MO->ai} {h:Nat->Option ar} {n:Nat} (hn:n∈op.hZ ev):n∈op.lm ev h:=by
 unfold aC.lm
 cases op.DR with
 |true=>exact List.mem_append.2 (.inl hn)
 |false=>exact hn
theorem ab5 {op:aC} {ev:MO->ai} {h:Nat->Option ar} {ws:List Nat} (hw:op.ju ev h=some ws) {n:Nat} (hn:n∈ws):n∈op.hZ ev:=by
 cases op<;>simp only[aC.ju] at hw<;>first|(cases hw;cases hn)|(cases hw;done)|skip
 case store sz x v=>
  split at hw
  ·rename_i q _ _ _ hx
   have hq:q∈(aC.store sz x v).hZ ev:=oM.2 ⟨x,by simp[aC.args],by rw[hx];exact rfl⟩
   split at hw
   ·injection hw with hw;subst hw;simp at hn;subst hn;exact hq
   ·injection hw with hw;subst hw
    rcases List.mem_cons.1 hn with rfl|hn
    ·exact hq
    ·exact oM.2 ⟨v,by simp[aC.args],ai.yK.1 hn⟩
   ·cases hw
  ·rename_i q _ _ _ _ _ hx
   have hq:q∈(aC.store sz x v).hZ ev:=oM.2 ⟨x,by simp[aC.args],by rw[hx];exact rfl⟩
   injection hw with hw;subst hw;simp at hn;subst hn;exact hq
  ·cases hw
 case copy sz x y=>
  split at hw
  ·rename_i q _ _ _ hx
   injection hw with hw;subst hw;simp at hn;subst hn
   exact oM.2 ⟨x,by simp[aC.args],by rw[hx];exact rfl⟩
  ·cases hw
 case j7 z x=>
  split at hw
  ·rename_i q _ _ _ hx
   injection hw with hw;subst hw;simp at hn;subst hn
   exact oM.2 ⟨x,by simp[aC.args],by rw[hx];exact rfl⟩
  ·cases hw
 case dT sz ps=>
  injection hw with hw
  subst hw
  obtain⟨a,ha,hn⟩:=List.mem_flatMap.1 hn
  exact oM.2 ⟨a,ha,ai.yK.1 hn⟩
 case iJ f xs=>
  injection hw with hw
  subst hw
  obtain⟨a,ha,hn⟩:=List.mem_flatMap.1 hn
  exact oM.2 ⟨a,ha,ai.yK.1 hn⟩
 case append fl sz by_ x y=>
  injection hw with hw
  subst hw
  rcases List.mem_append.1 hn with hn|hn
  ·exact oM.2 ⟨x,by simp[aC.args],ai.yK.1 hn⟩
  ·exact oM.2 ⟨y,by simp[aC.args],ai.yK.1 hn⟩
def St.cI (σ:St):List (Nat×Option ar)->St
 |[]=>σ
 |(n,b)::l=>St.cI {σ with h:=av σ.h n b} l
def cZ (h:Nat->Option ar):List (Nat×Option ar)->(Nat->Option ar)
 |[]=>h
 |(n,b)::l=>cZ (av h n b) l
theorem kD:∀(l:List (Nat×Option ar)) (σ:St),σ.cI l={σ with h:=cZ σ.h l}
 |[],σ=>rfl
 |(n,b)::l,σ=>by simp only[St.cI,cZ];rw[kD l]
theorem m5:∀{l:List (Nat×Option ar)} {h:Nat->Option ar} {n:Nat},(∀p∈l,p.1≠n)->cZ h l n=h n
 |[],h,n,_=>rfl
 |(m,b)::l,h,n,hn=>by
  simp only[cZ]
  rw[m5 fun p hp=>hn p (List.mem_cons_of_mem _ hp)]
  exact bS _ _ _ _ (fun e=>hn (m,b) (by simp) e.symm)
theorem aog (h:Nat->Option ar) (l l':List (Nat×Option ar)):cZ h (l++l')=cZ (cZ h l) l':=by
 induction l generalizing h with
 |nil=>rfl
 |cons x l ih=>obtain⟨n,b⟩:=x;exact ih _
theorem B4 (σ:St) (l l':List (Nat×Option ar)):σ.cI (l++l')=(σ.cI l).cI l':=by
 simp only[kD,aog]
theorem Ff:∀{l:List (Nat×Option ar)} {h h':Nat->Option ar} {n:Nat},(∃p∈l,p.1=n)->cZ h l n=cZ h' l n
 |[],h,h',n,hn=>by obtain⟨p,hp,_⟩:=hn;cases hp
 |(m,b)::l,h,h',n,hn=>by
  simp only[cZ]
  by_cases hl:∃p∈l,p.1=n
  ·exact Ff hl
  ·have ca:∀p∈l,p.1≠n:=fun p hp e=>hl ⟨p,hp,e⟩
   rw[m5 ca,m5 ca]
   obtain⟨p,hp,e⟩:=hn
   rcases List.mem_cons.1 hp with rfl|hp
   ·simp only at e;subst e;rw[bw,bw]
   ·exact absurd e (ca p hp)
theorem abU {u v:List (Nat×Option ar)} (hd:∀p∈u,∀q∈v,p.1≠q.1) (h:Nat->Option ar):cZ (cZ h u) v=cZ (cZ h v) u:=by
 funext n
 by_cases hu:∃p∈u,p.1=n
 ·obtain⟨p,hp,rfl⟩:=hu
  rw[m5 (l:=v) fun q hq e=>hd p hp q hq e.symm]
  exact Ff ⟨p,hp,rfl⟩
 ·rw[m5 (l:=u) (h:=cZ h v) fun p hp e=>hu ⟨p,hp,e⟩]
  by_cases hv:∃q∈v,q.1=n
  ·exact Ff hv
  ·rw[m5 fun q hq e=>hv ⟨q,hq,e⟩,m5 fun p hp e=>hu ⟨p,hp,e⟩,m5 fun q hq e=>hv ⟨q,hq,e⟩]
theorem aoi {u v:List (Nat×Option ar)} (hd:∀p∈u,∀q∈v,p.1≠q.1) (σ:St):(σ.cI u).cI v=(σ.cI v).cI u:=by
 simp only[kD,abU hd]
theorem abV (σ:St) (e:Nat->ai) (l:List (Nat×Option ar)):(σ.we e).cI l=(σ.cI l).we e:=by
 simp only[kD];rfl
theorem aoh {l:List (Nat×Option ar)} {h:Nat->Option ar} {n:Nat} {b:Option ar} (hn:∀p∈l,p.1≠n):cZ (av h n b) l=av (cZ h l) n b:=by
 have:=abU (u:=l) (v:=[(n,b)]) (fun p hp q hq=>by simp at hq;subst hq;exact hn p hp) h
 exact this.symm
theorem ahv {σ σ1:St} {l:List (Nat×Option ar)} {n:Nat} {b:ar} (hl:∀p∈l,σ.used p.1=true) (h:σ.ins n b=some σ1):(σ.cI l).ins n b=some (σ1.cI l):=by
 obtain⟨u1,rfl⟩:=lO h
 unfold St.ins
 rw[kD,kD]
 rw[if_neg (show¬σ.used n=true by rw[u1];simp)]
 simp only
 rw[aoh fun p hp e=>by rw[<-e,hl p hp] at u1;cases u1]
theorem DP:∀{A:List (Nat×ar)} {σ σ1:St} {l:List (Nat×Option ar)},(∀p∈l,σ.used p.1=true)->σ.cu A=some σ1->(σ.cI l).cu A=some (σ1.cI l)
 |[],σ,σ1,l,hl,h=>by
  simp only[St.cu] at h⊢
  injection h with h
  rw[h]
 |(n,b)::A,σ,σ1,l,hl,h=>by
  simp only[St.cu] at h⊢
  split at h
  ·rename_i jb e
   rw[ahv hl e]
   obtain⟨u1,rfl⟩:=lO e
   exact DP (fun p hp=>qj _ _ (hl p hp)) h
  ·cases h
theorem Yw:∀{A:List (Nat×ar)} {σ σ':St},σ.used=σ'.used->(σ.cu A).isSome=true->(σ'.cu A).isSome=true
 |[],σ,σ',hu,h=>rfl
 |(n,b)::A,σ,σ',hu,h=>by
  simp only[St.cu,St.ins] at h⊢
  rw[<-hu]
  split at h
  ·rename_i jb e
   split at e
   ·cases e
   ·rename_i hn
    injection e with e
    subst e
    rw[if_neg hn]
    simp only
    exact Yw (by rfl) h
  ·cases h
theorem ON {A:List (Nat×ar)} {σ B:St} {l:List (Nat×Option ar)} (hl:∀p∈l,σ.used p.1=true) (h:(σ.cI l).cu A=some B):∃B',σ.cu A=some B'/\B=B'.cI l:=by
 have hs:(σ.cu A).isSome=true:=Yw (A:=A) (σ:=σ.cI l) (σ':=σ) (by rw[kD]) (by rw[h];rfl)
 cases e:σ.cu A with
 |none=>rw[e] at hs;cases hs
 |some B'=>
  refine⟨B',rfl,?_⟩
  have:=DP hl e
  rw[h] at this
  injection this
abbrev Us:=List (Nat×Option ar)
def rr (h:Nat->Option ar):ah->Option (C×Bool×Us)
 |.c x=>some (x,x.dR,[])
 |.nil sz=>if 0<sz then some (.list sz [],true,[]) else none
 |.sl n sz lo len=>
  match h n with
  |some (.row _ m rs xs)=>if rs=sz/\lo=0/\len<=xs.length then some (.list sz (xs.take len),decide (m≠ .aE),[(n,none)]) else none
  |_=>none
 |_=>none
def iY (h:Nat->Option ar):List ah->Option (List C×Bool×Us)
 |[]=>some ([],true,[])
 |c::cs=>match rr h c with
  |some (x,o,u)=>match iY (cZ h u) cs with
   |some (xs,o',u')=>some (x::xs,o&&o',u++u')
   |none=>none
  |none=>none
def nU (sz:Nat) (h:Nat->Option ar):List ai->Option (List (List C)×Bool×Us)
 |[]=>some ([],true,[])
 |v::vs=>match v.cells? with
  |some (_,cs)=>if cs.length=sz then
   match iY h cs with
   |some (e,o,u)=>match nU sz (cZ h u) vs with
    |some (es,o',u')=>some (e::es,o&&o',u++u')
    |none=>none
   |none=>none
   else none
  |none=>none
theorem Fg (σ:St) (l:Us):(σ.cI l).h=cZ σ.h l:=by rw[kD]
theorem aob (σ:St) (c:ah):σ.fu c=(rr σ.h c).map fun x=>(x.1,x.2.1,σ.cI x.2.2):=by
 cases c with
 |sl n sz lo len=>
  simp only[St.fu,rr]
  cases σ.h n with
  |none=>rfl
  |some b=>cases b with
   |box cs=>rfl
   |row gr m rs xs=>simp only;split<;>rfl
 |nil sz=>simp only[St.fu,rr];split<;>rfl
 |_=>rfl
theorem KC:∀(cs:List ah) (σ:St),σ.eY cs=(iY σ.h cs).map fun x=>(x.1,x.2.1,σ.cI x.2.2)
 |[],σ=>rfl
 |c::cs,σ=>by
  simp only[St.eY,iY,aob]
  cases rr σ.h c with
  |none=>rfl
  |some x=>
   obtain⟨x,o,u⟩:=x
   simp only[Option.map_some,KC cs,Fg]
   cases iY (cZ σ.h u) cs with
   |none=>rfl
   |some y=>obtain⟨xs,o',u'⟩:=y;simp only[Option.map_some,B4]
theorem abO (sz:Nat):∀(vs:List ai) (σ:St),σ.kB sz vs=(nU sz σ.h vs).map fun x=>(x.1,x.2.1,σ.cI x.2.2)
 |[],σ=>rfl
 |v::vs,σ=>by
  simp only[St.kB,nU]
  cases v.cells? with
  |none=>rfl
  |some x=>
   obtain⟨b,cs⟩:=x
   simp only
   split
   ·rw[KC]
    cases iY σ.h cs with
    |none=>rfl
    |some y=>
     obtain⟨e,o,u⟩:=y
     simp only[Option.map_some,abO sz vs,Fg]
     cases nU sz (cZ σ.h u) vs with
     |none=>rfl
     |some y=>obtain⟨es,o',u'⟩:=y;simp only[Option.map_some,B4]
   ·rfl
theorem an9 {h:Nat->Option ar} {c:ah} {x:C} {o:Bool} {u:Us} (e:rr h c=some (x,o,u)):∀q∈u,q.1∈c.nm:=by
 unfold rr at e
 split at e
 ·injection e with e;injection e with _ e;injection e with _ e;subst e;intro q hq;cases hq
 ·split at e
  ·injection e with e;injection e with _ e;injection e with _ e;subst e;intro q hq;cases hq
  ·cases e
 ·split at e
  ·split at e
   ·injection e with e;injection e with _ e;injection e with _ e;subst e;intro q hq;simp at hq;subst hq;simp[ah.nm,ah.rh]
   ·cases e
  ·cases e
 ·cases e
theorem KB:∀{cs:List ah} {h:Nat->Option ar} {xs:List C} {o:Bool} {u:Us},iY h cs=some (xs,o,u)->∀q∈u,q.1∈cs.flatMap ah.nm
 |[],h,xs,o,u,e=>by
  simp only[iY] at e
  injection e with e;injection e with _ e;injection e with _ e;subst e;intro q hq;cases hq
 |c::cs,h,xs,o,u,e=>by
  simp only[iY] at e
  split at e
  ·rename_i x o1 u1 e1
   split at e
   ·rename_i gH o2 u2 e2
    injection e with e;injection e with _ e;injection e with _ e;subst e
    intro q hq
    rw[List.flatMap_cons]
    rcases List.mem_append.1 hq with hq|hq
    ·exact List.mem_append.2 (.inl (an9 e1 q hq))
    ·exact List.mem_append.2 (.inr (KB e2 q hq))
   ·cases e
  ·cases e
theorem zH {v:ai} {b:Bool} {cs:List ah} (h:v.cells?=some (b,cs)):cs.flatMap ah.nm=v.fP:=by
 cases v with
 |one c=>cases c<;>simp[ai.cells?] at h<;>(obtain⟨_,rfl⟩:=h;simp[ai.fP])
 |agg cs'=>simp[ai.cells?] at h;obtain⟨_,rfl⟩:=h;rfl
 |bj xs=>simp[ai.cells?] at h
theorem abN {sz:Nat}:∀{vs:List ai} {h:Nat->Option ar} {xs:List (List C)} {o:Bool} {u:Us},nU sz h vs=some (xs,o,u)->∀q∈u,q.1∈vs.flatMap ai.fP
 |[],h,xs,o,u,e=>by
  simp only[nU] at e
  injection e with e;injection e with _ e;injection e with _ e;subst e;intro q hq;cases hq
 |v::vs,h,xs,o,u,e=>by
  simp only[nU] at e
  split at e
  ·rename_i b cs hv
   split at e
   ·split at e
    ·rename_i x o1 u1 e1
     split at e
     ·rename_i gH o2 u2 e2
      injection e with e;injection e with _ e;injection e with _ e;subst e
      intro q hq
      rw[List.flatMap_cons]
      rcases List.mem_append.1 hq with hq|hq
      ·exact List.mem_append.2 (.inl (zH hv▸KB e1 q hq))
      ·exact List.mem_append.2 (.inr (abN e2 q hq))
     ·cases e
    ·cases e
   ·cases e
  ·cases e
theorem Fe {h h':Nat->Option ar} {n:Nat} (hh:h' n=h n) (u:Us):cZ h' u n=cZ h u n:=by
 by_cases hu:∃p∈u,p.1=n
 ·exact Ff hu
 ·rw[m5 fun p hp e=>hu ⟨p,hp,e⟩,m5 fun p hp e=>hu ⟨p,hp,e⟩,hh]
theorem an8 {h h':Nat->Option ar} {c:ah} (hh:∀n∈c.nm,h' n=h n):rr h' c=rr h c:=by
 cases c with
 |sl n sz lo len=>simp only[rr];rw[hh n (by simp[ah.nm,ah.rh])]
 |_=>rfl
theorem KA:∀{cs:List ah} {h h':Nat->Option ar},(∀n∈cs.flatMap ah.nm,h' n=h n)->iY h' cs=iY h cs
 |[],h,h',_=>rfl
 |c::cs,h,h',hh=>by
  simp only[iY]
  rw[an8 fun n hn=>hh n (by rw[List.flatMap_cons];exact List.mem_append.2 (.inl hn))]
  cases rr h c with
  |none=>rfl
  |some x=>
   obtain⟨x,o,u⟩:=x
   simp only
   rw[KA (cs:=cs) (h:=cZ h u) (h':=cZ h' u) fun n hn=>Fe (hh n (by rw[List.flatMap_cons];exact List.mem_append.2 (.inr hn))) u]
theorem abM {sz:Nat}:∀{vs:List ai} {h h':Nat->Option ar},(∀n∈vs.flatMap ai.fP,h' n=h n)->nU sz h' vs=nU sz h vs
 |[],h,h',_=>rfl
 |v::vs,h,h',hh=>by
  simp only[nU]
  cases hv:v.cells? with
  |none=>rfl
  |some x=>
   obtain⟨b,cs⟩:=x
   simp only
   rw[KA (cs:=cs) fun n hn=>hh n (by rw[List.flatMap_cons];exact List.mem_append.2 (.inl (zH hv▸hn)))]
   cases iY h cs with
   |none=>rfl
   |some y=>
    obtain⟨e,o,u⟩:=y
    simp only
    rw[abM (vs:=vs) (h:=cZ h u) (h':=cZ h' u) fun n hn=>Fe (hh n (by rw[List.flatMap_cons];exact List.mem_append.2 (.inr hn))) u]
def wS (h:Nat->Option ar) (n:Nat) (gr:Bool) (m:Mode) (rs:Nat) (xs:List (List C)) (k off:Nat) (e:List C) (vs:List ah):Option Us:=
 match sub e off vs.length with
 |none=>none
 |some fB=>match iY h vs with
  |none=>none
  |some (cs,o,u)=>
   if m=.live then
    if eO cs=true/\eO fB=true/\(cZ h u n).isSome=true then some (u++[(n,some (.row gr m rs (xs.set k (bP e off cs))))]) else none
   else if(cZ h u n).isSome=true then some (u++[(n,some (.row gr (if o=true then m else .aE) rs (xs.set k (bP e off cs))))])
   else none
theorem anW (σ:St) (n:Nat) (gr:Bool) (m:Mode) (rs:Nat) (xs:List (List C)) (k off:Nat) (e:List C) (vs:List ah):
  ma σ n gr m rs xs k off e vs=(wS σ.h n gr m rs xs k off e vs).map fun u=>σ.cI u:=by
 unfold ma wS
 cases sub e off vs.length with
 |none=>rfl
 |some fB=>
  simp only[KC]
  cases iY σ.h vs with
  |none=>rfl
  |some x=>
   obtain⟨cs,o,u⟩:=x
   simp only[Option.map_some,Fg]
   repeat' split
   all_goals first|rfl|(simp only[Option.map_some,B4];rfl)
def vc (h:Nat->Option ar) (sz:Nat):ai->Option (List (List C)×Mode×List (Nat×Option ar))
 |.one (.nil _)=>some ([],.aa,[])
 |.one (.sl a s 0 len)=>match h a with
  |some (.row true m rs xs)=>if rs=sz/\s=sz/\len=xs.length then some (xs,m,[(a,none)]) else none
  |_=>none
 |_=>none
def tp (fl:Bool) (h:Nat->Option ar) (sz:Nat) (m:Mode):ai->Option (List (List C)×Mode×List (Nat×Option ar))
  |.one (.nil _)=>some ([],m,[])
  |.one (.c (.list s ys))=>if s=sz then(if(fl&&ft ys)=true then some (ys,m,[]) else if m=.live then none else some (ys,.aE,[])) else none
  |.one (.sl b s lo len)=>match h b with
   |some (.row _ m' rs ys)=>if rs=sz/\s=sz/\lo+len<=ys.length then
       (if(fl&&ft ((ys.drop lo).take len))=true then some ((ys.drop lo).take len,m,[])
        else if lo=0/\len=ys.length then(if m=m' then some (ys,m,[(b,none)]) else if m=.live\/m'=.live then none else some (ys,.aE,[(b,none)])) else none)
    else none
   |_=>none
  |_=>none
theorem acg (σ:St) (sz:Nat) (v:ai):pd σ sz v=(vc σ.h sz v).map fun x=>(x.1,x.2.1,σ.cI x.2.2):=by
 cases v with
 |one v=>cases v with
  |sl a s lo len=>cases lo with
   |zero=>
    simp only[pd,vc]
    cases σ.h a with
    |none=>rfl
    |some b=>cases b with
     |box cs=>rfl
     |row gr m rs xs=>cases gr with
      |true=>simp only;split<;>rfl
      |false=>rfl
   |succ lo=>rfl
  |_=>rfl
 |_=>rfl
theorem aci (fl:Bool) (σ:St) (sz:Nat) (m:Mode) (v:ai):kK fl σ sz m v=(tp fl σ.h sz m v).map fun x=>(x.1,x.2.1,σ.cI x.2.2):=by
 cases v with
 |one v=>cases v with
  |sl b s lo len=>
   simp only[kK,tp]
   cases σ.h b with
   |none=>rfl
   |some b=>cases b with
    |box cs=>rfl
    |row gr m rs xs=>
     simp only
     repeat' split
     all_goals rfl
  |c x=>cases x with
   |list s ys=>
    simp only[kK,tp]
    repeat' split
    all_goals rfl
   |_=>rfl
  |_=>rfl
 |_=>rfl
def kL (h:Nat->Option ar):List ai->Option (List Dv×List Nat×Us)
 |[]=>some ([],[],[])
 |v::vs=>match mr h v with
  |some (n,xs)=>match kL h vs with
   |some (ds,ns,u)=>some ((.ptr,xs)::ds,n::ns,u)
   |none=>none
  |none=>match v.cells? with
   |some (ag,cs)=>match iY h cs with
    |some (xs,_,u)=>match kL (cZ h u) vs with
     |some (ds,ns,u')=>some ((if ag=true then .agg else .one,xs)::ds,ns,u++u')
     |none=>none
    |none=>none
   |none=>none
theorem LF:∀(vs:List ai) (σ:St),σ.gL vs=(kL σ.h vs).map fun x=>(x.1,x.2.1,σ.cI x.2.2)
 |[],σ=>rfl
 |v::vs,σ=>by
  simp only[St.gL,kL]
  cases mr σ.h v with
  |some x=>
   obtain⟨n,xs⟩:=x
   simp only[LF vs σ]
   cases kL σ.h vs<;>rfl
  |none=>
   simp only
   cases v.cells? with
   |none=>rfl
   |some x=>
    obtain⟨ag,cs⟩:=x
    simp only
    rw[KC]
    cases iY σ.h cs with
    |none=>rfl
    |some y=>
     obtain⟨e,o,u⟩:=y
     simp only[Option.map_some,LF vs,Fg]
     cases kL (cZ σ.h u) vs with
     |none=>rfl
     |some y=>obtain⟨ds,ns,u'⟩:=y;simp only[Option.map_some,B4]
theorem acv {h:Nat->Option ar} {v:ai} {n:Nat} {xs:List C} (e:mr h v=some (n,xs)):n∈v.fP:=by
 obtain⟨sz,cs,rfl,_⟩:=LH e
 simp[ai.fP,ah.nm,ah.rh]
theorem GS:∀{vs:List ai} {h:Nat->Option ar} {ds:List Dv} {ns:List Nat} {u:Us},kL h vs=some (ds,ns,u)->(∀q∈u,q.1∈vs.flatMap ai.fP)/\∀n∈ns,n∈vs.flatMap ai.fP
 |[],h,ds,ns,u,e=>by
  simp only[kL] at e
  injection e with e;injection e with _ e;injection e with e1 e;subst e e1;exact⟨fun q hq=>(by cases hq),fun q hq=>(by cases hq)⟩
 |v::vs,h,ds,ns,u,e=>by
  simp only[kL] at e
  split at e
  ·rename_i n xs hp
   split at e
   ·rename_i xE jr u' e2
    injection e with e;injection e with _ e;injection e with e1 e;subst e e1
    obtain⟨i1,i2⟩:=GS e2
    rw[List.flatMap_cons]
    refine⟨fun q hq=>List.mem_append.2 (.inr (i1 q hq)),fun m hm=>?_⟩
    rcases List.mem_cons.1 hm with rfl|hm
    ·exact List.mem_append.2 (.inl (acv hp))
    ·exact List.mem_append.2 (.inr (i2 m hm))
   ·cases e
  ·split at e
   ·rename_i b cs hv
    split at e
    ·rename_i x o1 u1 e1
     split at e
     ·rename_i ds2 ZR u2 e2
      injection e with e;injection e with _ e;injection e with e3 e;subst e e3
      obtain⟨i1,i2⟩:=GS e2
      rw[List.flatMap_cons]
      refine⟨fun q hq=>?_,fun m hm=>List.mem_append.2 (.inr (i2 m hm))⟩
      rcases List.mem_append.1 hq with hq|hq
      ·exact List.mem_append.2 (.inl (zH hv▸KB e1 q hq))
      ·exact List.mem_append.2 (.inr (i1 q hq))
     ·cases e
    ·cases e
   ·cases e
theorem acu {h h':Nat->Option ar} {v:ai} (hh:∀n∈v.fP,h' n=h n):mr h' v=mr h v:=by
 cases v with
 |one c=>cases c with
  |ptr n k sz off=>simp only[mr];rw[hh n (by simp[ai.fP,ah.nm,ah.rh])]
  |_=>rfl
 |_=>rfl
theorem LC:∀{vs:List ai} {h h':Nat->Option ar},(∀n∈vs.flatMap ai.fP,h' n=h n)->kL h' vs=kL h vs
 |[],h,h',_=>rfl
 |v::vs,h,h',hh=>by
  have h1:∀n∈v.fP,h' n=h n:=fun n hn=>hh n (by rw[List.flatMap_cons];exact List.mem_append.2 (.inl hn))
  have h2:∀n∈vs.flatMap ai.fP,h' n=h n:=fun n hn=>hh n (by rw[List.flatMap_cons];exact List.mem_append.2 (.inr hn))
  simp only[kL]
  rw[acu h1]
  cases mr h v with
  |some x=>
   obtain⟨n,xs⟩:=x
   simp only
   rw[LC h2]
  |none=>
   simp only
   cases hv:v.cells? with
   |none=>rfl
   |some x=>
    obtain⟨b,cs⟩:=x
    simp only
    rw[KA (cs:=cs) fun n hn=>h1 n (zH hv▸hn)]
    cases iY h cs with
    |none=>rfl
    |some y=>
     obtain⟨e,o,u⟩:=y
     simp only
     rw[LC (vs:=vs) (h:=cZ h u) (h':=cZ h' u) fun n hn=>Fe (h2 n hn) u]
def ur (h:Nat->Option ar):List Nat->List C->Option Us
 |[],[]=>some []
 |[n],out=>match h n with
  |some (.box cs)=>if cs.length=out.length then some [(n,some (.box (out.map .c)))] else none
  |_=>none
 |_,_=>none
theorem amG (σ:St) (ns:List Nat) (out:List C):σ.rj ns out=(ur σ.h ns out).map σ.cI:=by
 match ns,out with
 |[],[]=>rfl
 |[],_::_=>rfl
 |[n],out=>
  simp only[St.rj,ur]
  cases σ.h n with
  |none=>rfl
  |some b=>
   cases b with
   |box cs=>simp only;split<;>rfl
   |row gr m rs xs=>rfl
 |_::_::_,out=>rfl
theorem amF {h:Nat->Option ar} {ns:List Nat} {out:List C} {u:Us} (e:ur h ns out=some u):∀q∈u,q.1∈ns:=by
 unfold ur at e
 split at e
 ·injection e with e;subst e;intro q hq;cases hq
 ·split at e
  ·split at e
   ·injection e with e;subst e;intro q hq;simp at hq;subst hq;simp
   ·cases e
  ·cases e
 ·cases e
theorem amE {h h':Nat->Option ar} {ns:List Nat} {out:List C} (hh:∀n∈ns,h' n=h n):ur h' ns out=ur h ns out:=by
 match ns,out with
 |[],[]=>rfl
 |[],_::_=>rfl
 |[n],out=>simp only[ur];rw[hh n (by simp)]
 |_::_::_,out=>rfl
def zA (d:Option Nat):List Dv->Option (ai×List (Nat×ar))
 |[(.ptr,cs)]=>match d with
  |some q=>some (.one (.ptr q 0 0 0),[(q,.box (cs.map .c))])
  |none=>none
 |rs=>match gw rs with
  |some ls=>some (lp ls,[])
  |none=>none
theorem acw (σ:St) (d:Option Nat) (rs:List Dv):qq σ d rs=(zA d rs).bind fun x=>(σ.cu x.2).map (·.put d x.1):=by
 unfold qq
 split
 ·cases d with
  |none=>rfl
  |some q=>
   simp only[zA,Option.bind_some,St.cu]
   cases σ.ins q _<;>rfl
 ·rename_i aA
  have e:zA d rs=match gw rs with
    |some ls=>some (lp ls,[])
    |none=>none:=by
   unfold zA
   split
   ·exact absurd rfl (aA _)
   ·rfl
  rw[e]
  cases gw rs with
  |none=>rfl
  |some ls=>rfl
abbrev Lt:=ai×List (Nat×Option ar)×List (Nat×ar)
def d7 (T:be) (d:Option Nat) (op:aC) (ev:MO->ai) (h:Nat->Option ar):Option Lt:=
 match op with
 |.store sz x v=>match ev x,(ev v).cells? with
  |.one (.ptr n k ax off),some (_,vs)=>if vs.length=sz then
   match h n with
   |some (.box cs)=>if k=0/\off+sz<=cs.length then some (.one .bg,[(n,some (.box (bP cs off vs)))],[]) else none
   |some (.row gr m rs xs)=>if ax=rs then
    match xs[k]? with
    |some e=>match wS h n gr m rs xs k off e vs with
     |some u=>some (.one .bg,u,[])
     |none=>none
    |none=>none
    else none
   |none=>none
   else none
  |.one (.cr n k ax off s i),some (_,vs)=>if vs.length=sz then
   match h n with
   |some (.row gr .live rs xs)=>if ax=rs then
    match uD xs k off s i vs with
    |some au=>some (.one .bg,[(n,some (.row gr .live rs au))],[])
    |none=>none
    else none
   |_=>none
   else none
  |_,_=>none
 |.dT sz ps=>match d,nU sz h (ps.map ev) with
  |some n,some (es,o,u)=>some (.one (.sl n sz 0 es.length),u,[(n,.row true (if o=true then .aa else .aE) sz es)])
  |_,_=>none
 |.append fl sz by_ x y=>match d with
  |none=>none
  |some n=>match vc h sz (ev x) with
   |none=>none
   |some (xs,m,u1)=>match tp fl (cZ h u1) sz m (ev y) with
    |none=>none
    |some (ys,m2,u2)=>if(xs.length+ys.length)*by_<=dA then some (.one (.sl n sz 0 (xs.length+ys.length)),u1++u2,[(n,.row true m2 sz (xs++ys))]) else none
 |.iJ f xs=>match kL h (xs.map ev),be.nk T.vs f with
  |some (ds,ns,u),some M=>match M ds with
   |some (rs,out)=>match ur (cZ h u) ns out,zA d rs with
    |some u',some (v,is)=>some (v,u++u',is)
    |_,_=>none
   |none=>none
  |_,_=>none
 |.copy sz x y=>match ev x,ev y with
  |.one (.sl n s lo len),.one c=>match h n,bM h c with
   |some (.row gr m rs xs),some (.list s' ys)=>if sz=1/\s=1/\rs=1/\s'=1/\m≠ .aE/\ft xs=true/\ft ys=true/\lo+len<=xs.length then
    some (.one (.c (.int .i64 (Nat.min ys.length len:Nat))),[(n,some (.row gr m 1 (bP xs lo (ys.take len))))],[]) else none
   |_,_=>none
  |_,_=>none
 |.j7 z x=>match ev x with
  |.one (.sl n s lo len)=>match h n with
   |some (.row gr m rs xs)=>if s=1/\rs=1/\z.dR=true/\m≠ .aE/\ft xs=true/\lo+len<=xs.length then
    some (.bj [],[(n,some (.row gr m 1 (bP xs lo (List.replicate len [z]))))],[]) else none
   |_=>none
  |_=>none
 |op=>(rd T d op ev h).map fun x=>(x.1,[],x.2)
def vq (d:Option Nat) (σ:St) (p:Lt):Option St:=((σ.cI p.2.1).cu p.2.2).map (·.put d p.1)
theorem HB {T:be} {d:Option Nat} {op:aC} {σ:St} {ws:List Nat} (hw:op.ju σ.ev σ.h=some ws) (hd:∀sz x v,op=.store sz x v->d=none):
  aI T d op σ=(d7 T d op σ.ev σ.h).bind (vq d σ):=by
 by_cases hc:op.dv<=1
 ·rw[pn T d op σ hc]
  have:d7 T d op σ.ev σ.h=(rd T d op σ.ev σ.h).map fun x=>(x.1,[],x.2):=by
   cases op<;>first|rfl|(simp[aC.dv] at hc)
  rw[this]
  cases rd T d op σ.ev σ.h with
  |none=>rfl
  |some x=>rfl
 ·cases op<;>simp[aC.dv] at hc<;>simp only[aC.ju] at hw
  case eQ=>cases hw
  case copy sz x y=>
   simp only[aI,d7]
   cases σ.ev x with
   |one p=>cases p with
    |sl n s lo len=>
     cases σ.ev y with
     |one c=>
      simp only
      cases σ.h n with
      |none=>rfl
      |some b=>cases b with
       |box cs=>rfl
       |row gr m rs xs=>
        cases bM σ.h c with
        |none=>rfl
        |some q=>cases q with
         |list s' ys=>
          simp only
          split<;>rfl
         |_=>rfl
     |_=>rfl
    |_=>rfl
   |_=>rfl
  case j7 z x=>
   simp only[aI,d7]
   cases σ.ev x with
   |one p=>cases p with
    |sl n s lo len=>
     simp only
     cases σ.h n with
     |none=>rfl
     |some b=>cases b with
      |box cs=>rfl
      |row gr m rs xs=>
       simp only
       split<;>rfl
    |_=>rfl
   |_=>rfl
  case tail=>cases hw
  case lV=>cases hw
  case iJ f xs=>
   simp only[aI,d7,rN,LF]
   cases kL σ.h (xs.map σ.ev) with
   |none=>rfl
   |some x=>
    obtain⟨ds,ns,u⟩:=x
    simp only[Option.map_some]
    cases be.nk T.vs f with
    |none=>rfl
    |some M=>
     simp only
     cases M ds with
     |none=>rfl
     |some z=>
      obtain⟨rs,out⟩:=z
      simp only[amG,Fg]
      cases ur (cZ σ.h u) ns out with
      |none=>rfl
      |some u'=>
       simp only[Option.map_some,acw]
       cases zA d rs with
       |none=>rfl
       |some z=>
        obtain⟨v,is⟩:=z
        simp only[Option.bind_some,vq,B4]
  case dT sz ps=>
   simp only[aI,d7]
   rw[abO]
   cases d with
   |none=>rfl
   |some n=>
    cases nU sz σ.h (ps.map σ.ev) with
    |none=>rfl
    |some x=>
     obtain⟨es,o,u⟩:=x
     simp only[Option.map_some,Option.bind_some,vq,St.cu]
     cases (σ.cI u).ins n (.row true (if o=true then .aa else .aE) sz es)<;>rfl
  case append fl sz by_ x y=>
   simp only[aI,d7,acg]
   cases d with
   |none=>rfl
   |some n=>
    simp only
    cases vc σ.h sz (σ.ev x) with
    |none=>rfl
    |some z=>
     obtain⟨xs,m,u1⟩:=z
     simp only[Option.map_some,aci]
     have hh:(σ.cI u1).h=cZ σ.h u1:=by rw[kD]
     rw[hh]
     cases tp fl (cZ σ.h u1) sz m (σ.ev y) with
     |none=>rfl
     |some z=>
      obtain⟨ys,m2,u2⟩:=z
      simp only[Option.map_some]
      split
      ·simp only[Option.bind_some,vq,B4,St.cu]
       cases ((σ.cI u1).cI u2).ins n (.row true m2 sz (xs++ys))<;>rfl
      ·rfl
  case store sz x v=>
   have hd:=hd sz x v rfl
   subst hd
   simp only[aI,d7]
   split at hw
   ·rename_i n k ax off hx
    simp only[hx]
    cases hv:(σ.ev v).cells? with
    |none=>rfl
    |some y=>
     obtain⟨ag,vs⟩:=y
     simp only
     split
     ·split at hw
      ·rename_i cs hn
       simp only[hn]
       split
       ·rfl
       ·rfl
      ·rename_i gr m rs xs hn
       simp only[hn]
       split
       ·cases xs[k]? with
        |none=>rfl
        |some e=>
         simp only
         rw[anW]
         cases wS σ.h n gr m rs xs k off e vs with
         |none=>rfl
         |some b=>rfl
       ·rfl
      ·cases hw
     ·rfl
   ·rename_i n k ax off s i hx
    simp only[hx]
    cases hv:(σ.ev v).cells? with
    |none=>rfl
    |some y=>
     obtain⟨ag,vs⟩:=y
     simp only
     split
     ·cases σ.h n with
      |none=>rfl
      |some b=>cases b with
       |box cs=>rfl
       |row gr m rs xs=>cases m with
        |live=>
         simp only
         split
         ·cases uD xs k off s i vs<;>rfl
         ·rfl
        |_=>rfl
     ·rfl
   ·cases hw
theorem U0 {T:be} {d:Option Nat} {op:aC} {ev:MO->ai} {h:Nat->Option ar} {ws:List Nat} {p:Lt} (hw:op.ju ev h=some ws) (ha:d7 T d op ev h=some p):∀q∈p.2.1,q.1∈ws:=by
 by_cases hc:op.dv<=1
 ·have:d7 T d op ev h=(rd T d op ev h).map fun x=>(x.1,[],x.2):=by
   cases op<;>first|rfl|(simp[aC.dv] at hc)
  rw[this,Option.map_eq_some_iff] at ha
  obtain⟨x,_,rfl⟩:=ha
  intro q hq
  cases hq
 ·cases op<;>simp[aC.dv] at hc<;>simp only[aC.ju] at hw
  case eQ=>cases hw
  case copy sz x y=>
   simp only[d7] at ha
   split at ha
   ·rename_i n s lo len c hx hy
    simp only[hx] at hw
    injection hw with hw
    subst hw
    repeat' split at ha
    all_goals first|cases ha|skip
    intro q hq
    simp at hq
    subst hq
    simp
   ·cases ha
  case j7 z x=>
   simp only[d7] at ha
   split at ha
   ·rename_i n s lo len hx
    simp only[hx] at hw
    injection hw with hw
    subst hw
    repeat' split at ha
    all_goals first|cases ha|skip
    intro q hq
    simp at hq
    subst hq
    simp
   ·cases ha
  case tail=>cases hw
  case lV=>cases hw
  case iJ f xs=>
   injection hw with hw
   subst hw
   simp only[d7] at ha
   split at ha
   ·rename_i ds ns u M e1 e2
    split at ha
    ·rename_i rs out e3
     split at ha
     ·rename_i u' v is e4 e5
      injection ha with ha;subst ha
      obtain⟨i1,i2⟩:=GS e1
      intro q hq
      rw[List.flatMap_map] at i1 i2
      rcases List.mem_append.1 hq with hq|hq
      ·exact i1 q hq
      ·exact i2 _ (amF e4 q hq)
     ·cases ha
    ·cases ha
   ·cases ha
  case dT sz ps=>
   injection hw with hw
   subst hw
   simp only[d7] at ha
   split at ha
   ·rename_i n es o u e
    injection ha with ha;subst ha
    intro q hq
    have:=abN e q hq
    rw[List.flatMap_map] at this
    exact this
   ·cases ha
  case append fl sz by_ x y=>
   injection hw with hw
   subst hw
   simp only[d7] at ha
   split at ha
   ·cases ha
   ·split at ha
    ·cases ha
    ·rename_i xs m u1 e1
     split at ha
     ·cases ha
     ·rename_i ys m2 u2 e2
      split at ha
      ·injection ha with ha
       subst ha
       intro q hq
       rcases List.mem_append.1 hq with r5|r5
       ·clear hq
        refine List.mem_append.2 (.inl ?_)
        unfold vc at e1
        split at e1
        ·injection e1 with e1;injection e1 with _ e1;injection e1 with _ e1;subst e1;cases r5
        ·rename_i a s len hv
         split at e1
         ·split at e1
          ·injection e1 with e1;injection e1 with _ e1;injection e1 with _ e1;subst e1
           simp at r5;subst r5;simp[ai.fP,ah.nm,ah.rh,hv]
          ·cases e1
         ·cases e1
        ·cases e1
       ·clear hq
        refine List.mem_append.2 (.inr ?_)
        have z9:∀(b:Nat),u2=[]\/u2=[(b,none)]->b∈(ev y).fP->q.1∈(ev y).fP:=by
         intro b hb hm
         rcases hb with hb|hb
         ·subst hb;cases r5
         ·subst hb;simp at r5;subst r5;exact hm
        unfold tp at e2
        split at e2
        ·injection e2 with e2;injection e2 with _ e2;injection e2 with _ e2;subst e2;cases r5
        ·repeat' split at e2
         all_goals first|cases e2|skip
         all_goals (cases r5)
        ·rename_i b s lo len hv
         have hm:b∈(ev y).fP:=by simp[hv,ai.fP,ah.nm,ah.rh]
         refine z9 b ?_ hm
         repeat' split at e2
         all_goals first|cases e2|skip
         all_goals first|exact .inl rfl|exact .inr rfl
        ·cases e2
      ·cases ha
  case store sz x v=>
   simp only[d7] at ha
   split at ha
   ·rename_i n k ax off b vs hx hv
    simp only[hx] at hw
    split at ha
    ·split at ha
     ·rename_i cs hn
      simp only[hn] at hw
      split at ha
      ·injection ha with ha;subst ha;injection hw with hw;subst hw
       intro q hq;simp at hq;subst hq;simp
      ·cases ha
     ·rename_i gr m rs xs hn
      simp only[hn] at hw
      injection hw with hw
      subst hw
      split at ha
      ·split at ha
       ·split at ha
        ·rename_i u e0
         injection ha with ha;subst ha
         intro q hq
         have hq:q∈u:=hq
         have two:∀(u1:Us) (bb:Option ar),u=u1++[(n,bb)]->(∀q∈u1,q.1∈vs.flatMap ah.nm)->q.1∈n::(ev v).fP:=by
          intro u1 bb he Ap
          rw[he] at hq
          rcases List.mem_append.1 hq with hq|hq
          ·exact List.mem_cons_of_mem _ (zH hv▸Ap q hq)
          ·simp at hq;subst hq;simp
         unfold wS at e0
         split at e0
         ·cases e0
         ·split at e0
          ·cases e0
          ·rename_i cs o u1 e1
           have Ap:=KB e1
           repeat' split at e0
           all_goals first|(injection e0 with e0;exact two _ _ e0.symm Ap)|cases e0
        ·cases ha
       ·cases ha
      ·cases ha
     ·cases ha
    ·cases ha
   ·rename_i n k ax off s i b vs hx hv
    simp only[hx] at hw
    injection hw with hw
    subst hw
    repeat' split at ha
    all_goals first|cases ha|skip
    intro q hq
    simp at hq
    subst hq
    simp
   ·cases ha
section
variable {T:be} {d:Option Nat} {op:aC} {ev ev':MO->ai} {h h':Nat->Option ar}
theorem Ei (bn:∀x∈op.args,ev' x=ev x):op.hZ ev'=op.hZ ev:=by
 unfold aC.hZ
 generalize op.args=l at bn
 induction l with
 |nil=>rfl
 |cons x l ih=>simp only[List.flatMap_cons];rw[bn x (by simp),ih fun y hy=>bn y (List.mem_cons_of_mem _ hy)]
theorem Vm:∀{l:List Nat} (_:∀n∈l,h' n=h n),zF h' l=zF h l
 |[],_=>rfl
 |n::l,hh=>by
  have:=Vm (l:=l) fun m hm=>hh m (List.mem_cons_of_mem _ hm)
  simp only[zF,List.flatMap_cons] at this⊢
  rw[hh n (by simp),this]
theorem Rb (bn:∀x∈op.args,ev' x=ev x) (hh:∀n∈op.hZ ev,h' n=h n):op.lm ev' h'=op.lm ev h:=by
 unfold aC.lm
 rw[Ei bn,Vm hh]
theorem KN (bn:∀x∈op.args,ev' x=ev x) (hh:∀n∈op.hZ ev,h' n=h n):op.ju ev' h'=op.ju ev h:=by
 cases op<;>first|rfl|skip
 case store sz x v=>
  have h1:=bn x (by simp[aC.args])
  have h2:=bn v (by simp[aC.args])
  simp only[aC.ju,h1,h2]
  cases hv:ev x with
  |one p=>cases p with
   |ptr n k ax off=>simp only;rw[hh n (oM.2 ⟨x,by simp[aC.args],by rw[hv];exact rfl⟩)]
   |_=>rfl
  |_=>rfl
 case copy sz x y=>
  simp only[aC.ju,bn x (by simp[aC.args])]
 case j7 z x=>
  simp only[aC.ju,bn x (by simp[aC.args])]
 case iJ f xs=>
  have:=Ei (op:=.iJ f xs) bn
  simp only[aC.hZ,aC.args] at this
  simp only[aC.ju,this]
 case dT sz ps=>
  have:=Ei (op:=.dT sz ps) bn
  simp only[aC.hZ,aC.args] at this
  simp only[aC.ju,this]
 case append fl sz by_ x y=>
  simp only[aC.ju,bn x (by simp[aC.args]),bn y (by simp[aC.args])]
theorem UZ (bn:∀x∈op.args,ev' x=ev x) (hh:∀n∈op.lm ev h,h' n=h n):d7 T d op ev' h'=d7 T d op ev h:=by
 have H7:∀n∈op.hZ ev,h' n=h n:=fun n hn=>hh n (JN hn)
 have hn:∀a∈op.args,∀n,(ev a).ref n->h' n=h n:=fun a ha n hr=>H7 n (oM.2 ⟨a,ha,hr⟩)
 have gen:rd T d op ev' h'=rd T d op ev h:=by
  rw[Bv T d op _ bn]
  refine aag (u:=fun n=>h' n=h n) (vv:=fun n=>n∈op.hZ ev) T d op ev (fun n hn=>hn) (fun hc m cs c n hm hb dG hr=>?_) (fun x hx m hm=>hn x hx m hm) (fun x hx m hm=>oM.2 ⟨x,hx,hm⟩)
  refine hh n ?_
  unfold aC.lm
  rw[hc]
  refine List.mem_append.2 (.inr ?_)
  unfold zF
  rw[List.mem_flatMap]
  exact⟨m,hm,by rw[hb];exact List.mem_flatMap.2 ⟨c,dG,ah.Ej.2 hr⟩⟩
 cases op<;>first|(simp only[d7];rw[gen];done)|skip
 case store sz x v=>
  have h1:=bn x (by simp[aC.args])
  have h2:=bn v (by simp[aC.args])
  simp only[d7,h1,h2]
  have h3:=hn x (by simp[aC.args])
  cases hv:ev x with
  |one p=>cases p with
   |ptr n k ax off=>
    rw[hv] at h3
    have h3:=h3 n rfl
    have h5:=hn v (by simp[aC.args])
    cases hc:(ev v).cells? with
    |none=>rfl
    |some y=>
     obtain⟨b,vs⟩:=y
     have h6:∀gr m rs xs e,wS h' n gr m rs xs k off e vs=wS h n gr m rs xs k off e vs:=by
      intro gr m rs xs e
      have h7:iY h' vs=iY h vs:=KA fun q hq=>h5 q (ai.yK.1 (zH hc▸hq))
      unfold wS
      rw[h7]
      cases iY h vs with
      |none=>rfl
      |some y=>
       obtain⟨cs,o,u⟩:=y
       simp only[Fe h3 u]
     simp only[h3,h6]
   |cr n k ax off s i=>
    rw[hv] at h3
    have h3:=h3 n rfl
    cases hc:(ev v).cells? with
    |none=>rfl
    |some y=>
     simp only[h3]
   |_=>cases (ev v).cells?<;>rfl
  |_=>cases (ev v).cells?<;>rfl
 case copy sz x y=>
  have h1:=bn x (by simp[aC.args])
  have h2:=bn y (by simp[aC.args])
  have h3:=hn x (by simp[aC.args])
  have h4:=hn y (by simp[aC.args])
  simp only[d7,h1,h2]
  cases hv:ev x with
  |one p=>cases p with
   |sl n s lo len=>
    rw[hv] at h3
    have h3:=h3 n rfl
    cases hc:ev y with
    |one c=>
     rw[hc] at h4
     have h5:bM h' c=bM h c:=B6 (u:=fun n=>h' n=h n) (fun n hn=>hn) fun m hm=>h4 m (ah.BA hm)
     simp only[h3,h5]
    |_=>rfl
   |_=>rfl
  |_=>rfl
 case j7 z x=>
  have h1:=bn x (by simp[aC.args])
  have h3:=hn x (by simp[aC.args])
  simp only[d7,h1]
  cases hv:ev x with
  |one p=>cases p with
   |sl n s lo len=>
    rw[hv] at h3
    have h3:=h3 n rfl
    simp only[h3]
   |_=>rfl
  |_=>rfl
 case iJ f xs=>
  have hl:xs.map ev'=xs.map ev:=List.map_congr_left bn
  have h2:kL h' (xs.map ev)=kL h (xs.map ev):=LC fun n bh=>by
   rw[List.flatMap_map] at bh
   exact H7 n bh
  simp only[d7,hl,h2]
  cases e1:kL h (xs.map ev) with
  |none=>rfl
  |some x=>
   obtain⟨ds,ns,u⟩:=x
   try simp only
   cases be.nk T.vs f with
   |none=>rfl
   |some M=>
    try simp only
    cases M ds with
    |none=>rfl
    |some z=>
     obtain⟨rs,out⟩:=z
     try simp only
     rw[amE (h:=cZ h u) (h':=cZ h' u) fun n bh=>Fe (H7 n (by
      have:=(GS e1).2 n bh
      rw[List.flatMap_map] at this
      exact this)) u]
 case dT sz ps=>
  have hl:ps.map ev'=ps.map ev:=List.map_congr_left bn
  have h2:nU sz h' (ps.map ev)=nU sz h (ps.map ev):=abM fun n bh=>by
   rw[List.flatMap_map] at bh
   exact H7 n bh
  simp only[d7,hl,h2]
 case append fl sz by_ x y=>
  have h1:=bn x (by simp[aC.args])
  have h2:=bn y (by simp[aC.args])
  have h3:=hn x (by simp[aC.args])
  have h4:=hn y (by simp[aC.args])
  have e1:vc h' sz (ev x)=vc h sz (ev x):=by
   cases hv:ev x with
   |one p=>cases p with
    |sl a s lo len=>
     rw[hv] at h3
     cases lo with
     |zero=>simp only[vc,h3 a rfl]
     |succ lo=>rfl
    |_=>rfl
   |_=>rfl
  have e2:∀(us:List (Nat×Option ar)) (m:Mode),tp fl (cZ h' us) sz m (ev y)=tp fl (cZ h us) sz m (ev y):=by
   intro us m
   cases hv:ev y with
   |one p=>cases p with
    |sl b s lo len=>
     rw[hv] at h4
     have hb:cZ h' us b=cZ h us b:=by
      by_cases hu:∃p∈us,p.1=b
      ·exact Ff hu
      ·rw[m5 fun p hp e=>hu ⟨p,hp,e⟩,m5 fun p hp e=>hu ⟨p,hp,e⟩]
       exact h4 b rfl
     simp only[tp,hb]
    |c x=>cases x<;>rfl
    |_=>rfl
   |_=>rfl
  simp only[d7,h1,h2,e1,e2]
end
theorem Mg {f g:List Nat×List Nat} (h:CF f g=true) {n:Nat} (h1:n∈f.2) (h2:n∈g.1):False:=by
 simp only[CF,Bool.and_eq_true,List.all_eq_true] at h
 have:=h.1 n h1
 simp[h2] at this
theorem adb {f g:List Nat×List Nat} (h:CF f g=true) {n:Nat} (h1:n∈g.2) (h2:n∈f.1):False:=by
 simp only[CF,Bool.and_eq_true,List.all_eq_true] at h
 have:=h.2 n h1
 simp[h2] at this
theorem Bk {σ:St} (W:Wf σ) {op:aC} (hf:∀a∈op.args,a.flat=true) {n:Nat} (hn:n∈op.hZ σ.ev):σ.used n=true:=by
 obtain⟨a,ha,hr⟩:=oM.1 hn
 exact W.arg (hf a ha) n hr
theorem aae {σ:St} (W:Wf σ) {op:aC} (hf:∀a∈op.args,a.flat=true) {n:Nat} (hn:n∈op.lm σ.ev σ.h):σ.used n=true:=by
 unfold aC.lm at hn
 cases hc:op.DR with
 |true=>
  rw[hc] at hn
  rcases List.mem_append.1 hn with hn|hn
  ·exact Bk W hf hn
  ·unfold zF at hn
   rw[List.mem_flatMap] at hn
   obtain⟨m,hm,hn⟩:=hn
   split at hn
   ·rename_i cs hb
    obtain⟨c,hc,hr⟩:=List.mem_flatMap.1 hn
    exact W.box m cs c n hb hc (ah.Ej.1 hr)
   ·cases hn
 |false=>rw[hc] at hn;exact Bk W hf hn
section
variable {T:be} {dx dy:Option Nat} {x y:aC} {σ σ1 σ2:St}
theorem WU (W:Wf σ) (jF:∀n,dx=some n->MO.t n∉y.args) (x7:∀a∈y.args,a.flat=true) (tJ:∀sz p v,x=.store sz p v->dx=none)
  (hc:x.dv<=1\/y.dv=0) (h1:aI T dx x σ=some σ1):y.fp σ1=y.fp σ:=by
 have qS:=vp tJ h1
 have bn:∀a∈y.args,σ1.ev a=σ.ev a:=fun a ha=>by
  cases a with
  |t n=>show σ1.env n=σ.env n;rw[qS];exact pY fun ot=>jF n ot ha
  |k v=>rfl
 rcases hc with hc|hc
 ·rw[pn T dx x σ hc] at h1
  have hh:∀n∈y.hZ σ.ev,σ1.h n=σ.h n:=by
   intro n hn
   cases hr:rd T dx x σ.ev σ.h with
   |none=>rw[hr] at h1;cases h1
   |some p=>
    rw[hr] at h1
    simp only[Option.bind_some,gb,Option.map_eq_some_iff] at h1
    obtain⟨A,hA,rfl⟩:=h1
    have:(A.put dx p.1).h=A.h:=by cases dx<;>rfl
    rw[this]
    exact((yq hA).1 n (Bk W x7 hn)).2
  unfold aC.fp
  rw[KN bn hh,Rb bn hh]
 ·unfold aC.fp
  have c1:y.DR=false:=by cases y<;>first|rfl|(simp[aC.dv] at hc)
  have w:∀ev h,y.ju ev h=some []:=by intro ev h;cases y<;>first|rfl|(simp[aC.dv] at hc)
  simp only[w,aC.lm,c1,cond_false,Ei bn]
theorem ac0 (W:Wf σ) (hd:∀n,dx=some n->dy≠some n) (jF:∀n,dx=some n->MO.t n∉y.args) (r8:∀n,dy=some n->MO.t n∉x.args)
  (H5:∀a∈x.args,a.flat=true) (x7:∀a∈y.args,a.flat=true)
  (tJ:∀sz p v,x=.store sz p v->dx=none) (Dc:∀sz p v,y=.store sz p v->dy=none) (hk:CG (x.fp σ) (y.fp σ1)=true)
  (h1:aI T dx x σ=some σ1) (h2:aI T dy y σ1=some σ2):∃τ,aI T dy y σ=some τ/\aI T dx x τ=some σ2/\y.fp σ1=y.fp σ/\x.fp τ=x.fp σ:=by
 unfold aC.fp at hk
 cases xI:x.ju σ.ev σ.h with
 |none=>rw[xI] at hk;cases hk
 |some wx=>
 cases xJ:y.ju σ1.ev σ1.h with
 |none=>rw[xI,xJ] at hk;cases hk
 |some wy=>
 rw[xI,xJ] at hk
 simp only[Option.map_some,CG] at hk
 rw[HB xI tJ] at h1
 rw[HB xJ Dc] at h2
 cases Hq:d7 T dx x σ.ev σ.h with
 |none=>rw[Hq] at h1;cases h1
 |some px=>
 obtain⟨vx,ux,nx⟩:=px
 rw[Hq] at h1
 simp only[Option.bind_some,vq,Option.map_eq_some_iff] at h1
 obtain⟨A,hA,rfl⟩:=h1
 have KF:∀q∈ux,q.1∈wx:=U0 xI Hq
 have Uy:∀q∈ux,σ.used q.1=true:=fun q hq=>Bk W H5 (ab5 xI (KF q hq))
 obtain⟨A',WY,rfl⟩:=ON Uy hA
 obtain⟨oa,ea⟩:=yq WY
 have pD:∀(s:St) (d:Option Nat) (v:ai),(s.put d v).h=s.h:=fun s d v=>by cases d<;>rfl
 have bn:∀a∈y.args,((A'.cI ux).put dx vx).ev a=σ.ev a:=fun a ha=>by
  rw[nO,Hy fun n hn=>pY fun ot=>jF n ot (hn▸ha)]
  cases a with
  |t n=>show(A'.cI ux).env n=σ.env n;rw[kD];show A'.env n=_;rw[ea]
  |k v=>rfl
 have af1:y.lm ((A'.cI ux).put dx vx).ev ((A'.cI ux).put dx vx).h=y.lm σ.ev σ.h/\y.ju ((A'.cI ux).put dx vx).ev ((A'.cI ux).put dx vx).h=y.ju σ.ev σ.h:=by
  have hh:∀n∈y.hZ σ.ev,((A'.cI ux).put dx vx).h n=σ.h n:=fun n hn=>by
   rw[pD,kD]
   show cZ A'.h ux n=_
   rw[m5 fun p hp e=>Mg hk (KF p hp) (by rw[e];exact JN (by rw[Ei bn];exact hn))]
   exact(oa n (Bk W x7 hn)).2
  exact⟨Rb bn hh,KN bn hh⟩
 obtain⟨r1,r2⟩:=af1
 have hh:∀n∈y.lm σ.ev σ.h,((A'.cI ux).put dx vx).h n=σ.h n:=fun n hn=>by
  rw[pD,kD]
  show cZ A'.h ux n=_
  rw[m5 fun p hp e=>Mg hk (KF p hp) (by rw[e];show n∈y.lm _ _;rw[r1];exact hn)]
  exact(oa n (aae W x7 hn)).2
 have eay:d7 T dy y ((A'.cI ux).put dx vx).ev ((A'.cI ux).put dx vx).h=d7 T dy y σ.ev σ.h:=UZ bn hh
 rw[eay] at h2
 rw[r2] at xJ
 cases Hr:d7 T dy y σ.ev σ.h with
 |none=>rw[Hr] at h2;cases h2
 |some py=>
 obtain⟨vy,uy,ny⟩:=py
 rw[Hr] at h2
 simp only[Option.bind_some,vq,Option.map_eq_some_iff] at h2
 obtain⟨D,hD,rfl⟩:=h2
 have uyw:∀q∈uy,q.1∈wy:=U0 xJ Hr
 have uyn:∀q∈uy,q.1∈y.hZ σ.ev:=fun q hq=>ab5 xJ (uyw q hq)
 have Uz:∀q∈uy,σ.used q.1=true:=fun q hq=>Bk W x7 (uyn q hq)
 have uyA:∀q∈uy,A'.used q.1=true:=fun q hq=>(oa _ (Uz q hq)).1
 have uxA:∀q∈ux,A'.used q.1=true:=fun q hq=>(oa _ (Uy q hq)).1
 have tI:∀p∈ux,∀q∈uy,p.1≠q.1:=fun p hp q hq e=>Mg hk (KF p hp) (by rw[e];show q.1∈y.lm _ _;rw[r1];exact JN (uyn q hq))
 rw[nO,abV,yr,Option.map_eq_some_iff] at hD
 obtain⟨D0,hD0,rfl⟩:=hD
 obtain⟨D1,hD1,rfl⟩:=ON (σ:=A'.cI ux) (fun q hq=>by rw[kD];exact uyA q hq) hD0
 obtain⟨F,hF,rfl⟩:=ON uxA hD1
 obtain⟨C',hC,hCF⟩:=OM WY hF
 obtain⟨oc,ec⟩:=yq hC
 have uyC:∀q∈uy,C'.used q.1=true:=fun q hq=>(oc _ (Uz q hq)).1
 have uxC:∀q∈ux,C'.used q.1=true:=fun q hq=>(oc _ (Uy q hq)).1
 have HW:∀a∈x.args,((C'.cI uy).put dy vy).ev a=σ.ev a:=fun a ha=>by
  rw[nO,Hy fun n hn=>pY fun ot=>r8 n ot (hn▸ha)]
  cases a with
  |t n=>show(C'.cI uy).env n=σ.env n;rw[kD];show C'.env n=_;rw[ec]
  |k v=>rfl
 have Xj:∀n∈x.lm σ.ev σ.h,((C'.cI uy).put dy vy).h n=σ.h n:=fun n hn=>by
  rw[pD,kD]
  show cZ C'.h uy n=_
  rw[m5 fun p hp e=>adb hk (uyw p hp) (by rw[e];exact hn)]
  exact(oc n (aae W H5 hn)).2
 have NM:∀n∈x.hZ σ.ev,((C'.cI uy).put dy vy).h n=σ.h n:=fun n hn=>Xj n (JN hn)
 refine⟨(C'.cI uy).put dy vy,?_,?_,?_,?_⟩
 ·rw[HB xJ Dc,Hr]
  simp only[Option.bind_some,vq,DP Uz hC,Option.map_some]
 ·rw[HB (ws:=wx) (by rw[KN HW NM];exact xI) tJ,UZ HW Xj,Hq]
  simp only[Option.bind_some,vq]
  rw[nO,abV,yr,DP (σ:=C'.cI uy) (fun q hq=>by rw[kD];exact uxC q hq) (DP uyC hCF)]
  simp only[Option.map_some]
  rw[nO,nO,aoi tI]
  congr 1
  have e1:(C'.cI uy).env=σ.env:=by rw[kD];exact ec
  have e2:(A'.cI ux).env=σ.env:=by rw[kD];exact ea
  show St.we _ (gE (gE (C'.cI uy).env dy vy) dx vx)=St.we _ (gE (gE (A'.cI ux).env dx vx) dy vy)
  rw[e1,e2,JU σ.env _ _ hd]
  rfl
 ·unfold aC.fp
  rw[r1,r2]
 ·unfold aC.fp
  rw[KN HW NM,Rb HW NM]
end
end Go.Am
end
section
namespace Go.Am
def CB (x y:bH):Bool:=x.op.dv==0||y.op.dv==0||(decide (x.op.dv<=1)&&decide (y.op.dv<=1))
def CD (x y:bH):Bool:=
 (match x.dst with|some d=>y.sT d&&(match y.dst with|some e=>e !=d|none=>true)|none=>true)&&
 (match y.dst with|some d=>x.sT d|none=>true)&&x.po&&y.po
theorem ac1 {T:be} {x y:bH} {σ σ1 σ2:St} (W:Wf σ) (hc:CD x y=true) (hk:CB x y=true\/CG (x.fp σ) (y.fp σ1)=true) (h1:d8 T x σ=some σ1) (h2:d8 T y σ1=some σ2):
  ∃τ,d8 T y σ=some τ/\d8 T x τ=some σ2/\y.fp σ1=y.fp σ/\x.fp τ=x.fp σ:=by
 simp only[CD,Bool.and_eq_true] at hc
 obtain⟨⟨⟨c1,c2⟩,c3⟩,c4⟩:=hc
 rw[zV] at h1 h2
 cases ex:lD x σ.env with
 |none=>rw[ex] at h1;cases h1
 |some iC=>
  rw[ex] at h1
  have h1:aI T x.dst iC σ=some σ1:=h1
  have jx:iC=x.op\/iC=.mv (.k (.bj [])):=Hs ex
  have y5:∀sz p v,iC=.store sz p v->x.dst=none:=by
   intro sz p v he
   rcases jx with rfl|rfl
   ·simp only[bH.po,Bool.and_eq_true,he] at c3;simpa using c3.2
   ·cases he
  have qS:=vp y5 h1
  have Om:∀s w,y.guard=some (s,w)->x.dst≠some s:=by
   intro s w hg hd
   rw[hd] at c1
   simp[bH.sT,hg] at c1
  have Il:∀s w,x.guard=some (s,w)->y.dst≠some s:=by
   intro s w hg hd
   rw[hd] at c2
   simp[bH.sT,hg] at c2
  have HC:lD y σ1.env=lD y σ.env:=CH fun s w hg=>by rw[qS];exact pY (Om s w hg)
  rw[HC] at h2
  cases ey:lD y σ.env with
  |none=>rw[ey] at h2;cases h2
  |some ia=>
   rw[ey] at h2
   have h2:aI T y.dst ia σ1=some σ2:=h2
   have jy:ia=y.op\/ia=.mv (.k (.bj [])):=Hs ey
   have wT:∀sz p v,ia=.store sz p v->y.dst=none:=by
    intro sz p v he
    rcases jy with rfl|rfl
    ·simp only[bH.po,Bool.and_eq_true,he] at c4;simpa using c4.2
    ·cases he
   have CP:∀a∈iC.args,a.flat=true:=by
    rcases jx with rfl|rfl
    ·simp only[bH.po,Bool.and_eq_true,List.all_eq_true] at c3;exact c3.1
    ·intro a ha;simp[aC.args] at ha;subst ha;rfl
   have CQ:∀a∈ia.args,a.flat=true:=by
    rcases jy with rfl|rfl
    ·simp only[bH.po,Bool.and_eq_true,List.all_eq_true] at c4;exact c4.1
    ·intro a ha;simp[aC.args] at ha;subst ha;rfl
   have jF:∀n,x.dst=some n->MO.t n∉ia.args:=by
    intro n hd
    rcases jy with rfl|rfl
    ·rw[hd] at c1
     simp only[Bool.and_eq_true] at c1
     exact bH.JO c1.1
    ·simp[aC.args]
   have r8:∀n,y.dst=some n->MO.t n∉iC.args:=by
    intro n hd
    rcases jx with rfl|rfl
    ·rw[hd] at c2
     exact bH.JO c2
    ·simp[aC.args]
   have tI:∀n,x.dst=some n->y.dst≠some n:=by
    intro n hd he
    rw[hd,he] at c1
    simp at c1
   have yfp:y.fp σ1=ia.fp σ1:=by unfold bH.fp;rw[HC,ey]
   have aoB:y.fp σ=ia.fp σ:=by unfold bH.fp;rw[ey]
   have ab6:x.fp σ=iC.fp σ:=by unfold bH.fp;rw[ex]
   have xfp:∀τ,aI T y.dst ia σ=some τ->x.fp τ=iC.fp τ:=by
    intro τ t1
    unfold bH.fp
    rw[CH (e:=σ.env) (fun s w hg=>by rw[vp wT t1];exact pY (Il s w hg)),ex]
   have gb:(∃τ,aI T y.dst ia σ=some τ/\aI T x.dst iC τ=some σ2/\ia.fp σ1=ia.fp σ/\iC.fp τ=iC.fp σ)->∃τ,d8 T y σ=some τ/\d8 T x τ=some σ2/\y.fp σ1=y.fp σ/\x.fp τ=x.fp σ:=by
    rintro⟨τ,t1,t2,t3,t4⟩
    refine⟨τ,?_,?_,?_,?_⟩
    ·rw[zV,ey];exact t1
    ·rw[zV,CH (e:=σ.env) (fun s w hg=>by rw[vp wT t1];exact pY (Il s w hg)),ex];exact t2
    ·rw[yfp,aoB,t3]
    ·rw[xfp τ t1,ab6,t4]
   apply gb
   rcases hk with c5|hk
   ·have bI:iC.dv=0\/ia.dv=0\/(iC.dv<=1/\ia.dv<=1):=by
     rcases jx with rfl|rfl
     ·rcases jy with rfl|rfl
      ·simp only[CB,Bool.or_eq_true,beq_iff_eq,Bool.and_eq_true,decide_eq_true_eq,or_assoc] at c5
       exact c5
      ·exact .inr (.inl rfl)
     ·exact .inl rfl
    obtain⟨τ,t1,t2⟩:=VH W tI jF r8 CP CQ y5 wT bI h1 h2
    refine⟨τ,t1,t2,WU W jF CQ y5 (by omega) h1,WU W r8 CP wT (by omega) t1⟩
   ·rw[yfp,ab6] at hk
    exact ac0 W tI jF r8 CP CQ y5 wT hk h1 h2
def Cm (T:be) (ms:List bH) (F:Nat->Option FP):List Nat->St->St->Prop
 |[],σ,ii=>σ=ii
 |i::L,σ,ii=>∃m σ1,ms[i]? =some m/\F i=m.fp σ/\d8 T m σ=some σ1/\Cm T ms F L σ1 ii
def UX (F:Nat->Option FP) (ms:List bH) (i j:Nat) (m:bH):Prop:=∃mj,ms[j]? =some mj/\CD mj m=true/\(CB mj m=true\/CG (F j) (F i)=true)
structure UO (F:Nat->Option FP) (ops:Array Oper) (ms:List bH):Prop where
 back:∀(i:Nat) (o:Oper),ops[i]? =some o->∀e∈o.after,Region.binds .any e=true->e.on<i
 pair:∀(i j:Nat) (o:Oper) (m:bH),ops[i]? =some o->ms[i]? =some m->j<i->uP ops i j\/UX F ms i j m
section
variable {B:Nat} {E:Ex} {w0 w w':World} {G G':Gh} {N:Nat}
variable {P:Program} {T:be} {o:Oper} {mo:bH} {a:Act} {σ σ':St} {Q:Exit->Act->World->Prop} {ops:Array Oper}
theorem aat (hT:m8 P T) {ms:List bH} {F:Nat->Option FP} (qI:∀(i:Nat) (m:bH),ms[i]? =some m->∃o,ops[i]? =some o/\tu P N ops o m=true) {i:Nat} {mi:bH} (hi:ms[i]? =some mi) {post:List Nat} {ii:St}:
  ∀{pre:List Nat} {σ:St},FG B E w0 N σ->Cm T ms F (pre++i::post) σ ii->(∀j∈pre,UX F ms i j mi)->
  ∃τ,F i=mi.fp σ/\d8 T mi σ=some τ/\Cm T ms F (pre++post) τ ii
 |[],σ,hr,hx,hc=>by
  obtain⟨m,σ1,h1,h2,h3,h4⟩:=hx
  rw[hi] at h1
  injection h1 with h1
  subst h1
  exact⟨σ1,h2,h3,h4⟩
 |j::pre,σ,hr,hx,hc=>by
  obtain⟨mj,σ1,k1,k2,k3,k4⟩:=hx
  obtain⟨mj',hj,mC,bI⟩:=hc j (by simp)
  rw[k1] at hj
  injection hj with hj
  subst hj
  obtain⟨oj,_,fG⟩:=qI j mj k1
  obtain⟨nV,t0,t1,t2⟩:=aat hT qI hi (aak hr hT fG k3) k4 (fun k hk=>hc k (by simp[hk]))
  obtain⟨a,w,G,r⟩:=hr
  rw[k2,t0] at bI
  obtain⟨τ,s1,s2,s3,s4⟩:=ac1 r.wf mC bI k3 t1
  exact⟨τ,by rw[t0,s3],s1,mj,nV,k1,by rw[s4];exact k2,s2,t2⟩
theorem aox (hT:m8 P T) {ms:List bH} {F:Nat->Option FP} (qI:∀(i:Nat) (m:bH),ms[i]? =some m->∃o,ops[i]? =some o/\tu P N ops o m=true) (hlen:ms.length=ops.size) (hd:UO F ops ms) {ii:St}
  (hQ:∀a w G,R B E w0 N ii a w G->Q .normal a w):
  ∀(gO:Nat) (L:List Nat) (cB:Array Bool) (σ:St) (a:Act) (w:World) (G:Gh),R B E w0 N σ a w G->Cm T ms F L σ ii->L.Pairwise (·<·)->L.length<=gO->cB.size=ops.size->
   (∀j,j∈L↔cB.getD j true=false)->KQ ops cB->wpAny P .any ops Q gO cB a w:=by
 have first:∀(L:List Nat) (cB:Array Bool),L.Pairwise (·<·)->cB.size=ops.size->(∀j,j∈L↔cB.getD j true=false)->Region.ready .any ops cB=[]->L=[]:=by
  intro L cB hp hs hL hr
  cases L with
  |nil=>rfl
  |cons j L=>
   exfalso
   have hj:=(hL j).1 (by simp)
   have ka:j<ops.size:=by
    rw[<-hs]
    rcases Nat.lt_or_ge j cB.size with h|h
    ·exact h
    ·simp[Array.getElem?_eq_none h] at hj
   have ho:ops[j]? =some ops[j]:=Array.getElem?_eq_getElem ka
   have:j∈Region.ready .any ops cB:=by
    rw[mem_ready]
    refine⟨hj,_,ho,fun e he hb=>?_⟩
    have bN:=hd.back j _ ho e he hb
    have nt:e.on∉j::L:=by
     intro hm
     cases hm with
     |head=>omega
     |tail _ hm=>have:=(List.pairwise_cons.1 hp).1 _ hm;omega
    have aA:cB.getD e.on true≠false:=fun h=>nt ((hL e.on).2 h)
    have ou:e.on<cB.size:=by omega
    simp[ou] at aA⊢
    exact aA
   rw[hr] at this
   cases this
 intro gO
 induction gO with
 |zero=>
  intro L cB σ a w G r hx hp hl hs hL hC
  have qH:L=[]:=List.eq_nil_of_length_eq_zero (by omega)
  subst qH
  have hx:σ=ii:=hx
  subst hx
  refine⟨?_,hQ _ _ _ r⟩
  cases hr:Region.ready .any ops cB with
  |nil=>rfl
  |cons i l=>
   have hm:i∈Region.ready .any ops cB:=by rw[hr];simp
   have:=(hL i).2 (mem_ready.1 hm).1
   cases this
 |succ gO ih=>
  intro L cB σ a w G r hx hp hl hs hL hC
  refine⟨fun hr=>?_,fun i hi=>?_⟩
  ·have qH:=first L cB hp hs hL hr
   subst qH
   have hx:σ=ii:=hx
   subst hx
   exact hQ _ _ _ r
  ·obtain⟨NP,oi,jg,C5⟩:=mem_ready.1 hi
   have pA:i∈L:=(hL i).2 NP
   obtain⟨pre,post,rfl⟩:=List.append_of_mem pA
   have his:i<ops.size:=(Array.getElem?_eq_some_iff.1 jg).1
   have yc:ms[i]? =some ms[i]:=List.getElem?_eq_getElem (by omega)
   obtain⟨o',fU,NB⟩:=qI i _ yc
   rw[jg] at fU
   injection fU with fU
   subst fU
   have fw:=List.pairwise_append.1 hp
   obtain⟨τ,t0,t1,t2⟩:=aat (ops:=ops) hT qI yc ⟨a,w,G,r⟩ hx (fun j hj=>by
    have qL:j<i:=fw.2.2 j hj i (by simp)
    rcases hd.pair i j oi _ jg yc qL with Nq|h
    ·have h1:=Vj hC Nq (fun o ho e he hb=>by
      rw[jg] at ho
      injection ho with ho
      subst ho
      have h1:=C5 e he hb
      have bN:=hd.back i _ jg e he hb
      have ou:e.on<cB.size:=by omega
      simp[ou] at h1⊢
      exact h1)
     have h2:=(hL j).1 (by simp[hj])
     rw[h1] at h2
     cases h2
    ·exact h)
   have Dx:∀a' w',Nx B E w0 N τ a' w'->wpAny P .any ops Q gO (cB.setIfInBounds i true) a' w':=by
    rintro a' w' ⟨G',r'⟩
    refine ih (pre++post) _ τ a' w' G' r' t2 ?_ (by simp at hl⊢;omega) (by simpa using hs) (fun j=>?_) (fun k o ho hk e he hb=>?_)
    ·rw[List.pairwise_append]
     exact⟨fw.1,(List.pairwise_cons.1 fw.2.1).2,fun x hx y hy=>fw.2.2 x hx y (by simp[hy])⟩
    ·by_cases qL:j=i
     ·subst qL
      have ka:j<cB.size:=by omega
      simp only[List.mem_append]
      constructor
      ·rintro(h|h)
       ·have:=fw.2.2 j h j (by simp);omega
       ·have:=(List.pairwise_cons.1 fw.2.1).1 j h;omega
      ·intro h
       simp[ka] at h
     ·rw[getD_set_ne true (Ne.symm qL),<-hL j]
      simp[qL]
    ·have Dk:∀q,cB.getD q true=true->(cB.setIfInBounds i true).getD q true=true:=by
      intro q hq
      by_cases ox:q=i
      ·subst ox
       have:q<cB.size:=by omega
       simp[this]
      ·rw[getD_set_ne true (Ne.symm ox)];exact hq
     by_cases Dh:k=i
     ·subst Dh
      rw[jg] at ho
      injection ho with ho
      subst ho
      have h1:=C5 e he hb
      have bN:=hd.back k _ jg e he hb
      have ou:e.on<cB.size:=by omega
      refine Dk _ ?_
      simp[ou] at h1⊢
      exact h1
     ·rw[getD_set_ne true (Ne.symm Dh)] at hk
      exact Dk _ (hC k o ho hk e he hb)
   unfold wpOp
   rw[jg]
   simp only
   rcases HA (Q:=Q) r hT NB t1 with⟨hw,h⟩|⟨hw,h⟩
   ·rw[if_pos hw]
    exact .inl (Oper.wp_mono Dx h)
   ·rw[if_neg (by simp[hw])]
    exact Dx _ _ h
def G4 (ps:List (Nat×Nat)) (ops:List Oper) (ms:List bH):Bool:=
 (fun ks:List Nat=>(List.range ops.length).all fun i=>match ops[i]?,ms[i]? with
  |some o,some m=>(o.after.toList.all fun e=> !Region.binds .any e||decide (e.on<i))&&
   (List.range i).all fun j=>(ks.getD i 0).testBit j||(match ms[j]? with|some mj=>CD mj m&&(CB mj m||ps.contains (j,i))|none=>false)
  |_,_=>false) (Bg ops [])
theorem acM {ps:List (Nat×Nat)} {ms:List bH} {fs:List (Option FP)} (h:G4 ps ops.toList ms=true) (hp:wE ps fs=true):UO (fun i=>fs.getD i none) ops ms:=by
  simp only[G4,List.all_eq_true,List.mem_range] at h
  have cq:∀(i:Nat) (o:Oper),ops[i]? =some o->∃m,ms[i]? =some m/\(o.after.toList.all fun e=> !Region.binds .any e||decide (e.on<i))=true/\
        ∀j,j<i->(((Bg ops.toList []).getD i 0).testBit j||(match ms[j]? with|some mj=>CD mj m&&(CB mj m||ps.contains (j,i))|none=>false))=true:=by
    intro i o ho
    have hi:i<ops.toList.length:=by simpa using(Array.getElem?_eq_some_iff.1 ho).1
    have hi':=h i hi
    have fU:ops.toList[i]? =some o:=by simpa using ho
    rw[fU] at hi'
    cases hm:ms[i]? with
    |none=>rw[hm] at hi';cases hi'
    |some m=>
     rw[hm] at hi'
     simp only[Bool.and_eq_true,List.all_eq_true,List.mem_range] at hi'
     exact⟨m,rfl,by rw[List.all_eq_true];exact hi'.1,hi'.2⟩
  refine⟨fun i o ho e he hb=>?_,fun i j o m ho hm hj=>?_⟩
  · obtain⟨m,_,k1,_⟩:=cq i o ho
    have:=List.all_eq_true.1 k1 e (Array.mem_toList_iff.2 he)
    simp[hb] at this
    exact this
  · obtain⟨m',bz,_,k2⟩:=cq i o ho
    rw[hm] at bz
    injection bz with bz
    subst bz
    have:=k2 j hj
    rw[Bool.or_eq_true] at this
    rcases this with h1|h1
    · exact .inl (PS ops.toList [] [] rfl rfl (by intro i k hb;simp at hb) i j h1)
    · cases Ag:ms[j]? with
      |none=>rw[Ag] at h1;cases h1
      |some mj=>
       rw[Ag] at h1
       simp only[Bool.and_eq_true,Bool.or_eq_true] at h1
       refine .inr ⟨mj,Ag,h1.1,?_⟩
       rcases h1.2 with h2|h2
       · exact .inl h2
       · refine .inr ?_
         have:=List.all_eq_true.1 hp (j,i) (by simpa using h2)
         exact this
theorem Wq {ms:List bH}:∀(post pre:List bH) (σ ii:St) (fs cC:List (Option FP)),ms=pre++post->cC.length=pre.length->qz T post cC σ=some (fs,ii)->
  cC=fs.take cC.length/\Cm T ms (fun i=>fs.getD i none) (List.range' pre.length post.length) σ ii
 |[],pre,σ,ii,fs,cC,he,hl,hx=>by
  simp only[qz] at hx
  injection hx with hx
  injection hx with h1 h2
  subst h1 h2
  exact⟨by simp,rfl⟩
 |m::post,pre,σ,ii,fs,cC,he,hl,hx=>by
  simp only[qz] at hx
  split at hx
  ·rename_i σ1 e1
   obtain⟨h1,h2⟩:=Wq (ms:=ms) post (pre++[m]) σ1 ii fs (cC++[m.fp σ]) (by simp[he]) (by simp[hl]) hx
   have h3:fs[cC.length]? =some (m.fp σ):=by
    have:(fs.take (cC++[m.fp σ]).length)[cC.length]? =some (m.fp σ):=by rw[<-h1];simp
    rw[List.getElem?_take] at this
    split at this
    ·exact this
    ·cases this
   have h4:cC=fs.take cC.length:=by
    have:=congrArg (List.take cC.length) h1
    simpa[List.take_take] using this
   refine⟨h4,m,σ1,?_,?_,e1,?_⟩
   ·rw[he,List.getElem?_append_right (Nat.le_refl _),Nat.sub_self];rfl
   ·show fs.getD pre.length none=_
    rw[<-hl,List.getD_eq_getElem?_getD,h3];rfl
   ·simpa using h2
  ·cases hx
theorem amN (hT:m8 P T) (hm:P.follows .mixedOrders=true) {id:Nat} {ps:List (Nat×Nat)} {ms:List bH} {fs:List (Option FP)} (hc:n8 P N ops ops.toList ms=true) (hd:G4 ps ops.toList ms=true)
  (hx:qz T ms [] σ=some (fs,σ')) (hp:wE ps fs=true) (r:R B E w0 N σ a w G) (hQ:∀a w G,R B E w0 N σ' a w G->Q .normal a w):(Code.region id ops true).wp P Q a w:=by
 obtain⟨k1,k2⟩:=LU hc
 have hlen:ms.length=ops.size:=by simpa using k1
 refine wp_region_any hm (aox (B:=B) (E:=E) (w0:=w0) (N:=N) hT (fun i m h=>by
  obtain⟨o,h1,h2⟩:=k2 i m h;exact⟨o,by simpa using h1,h2⟩) hlen (acM hd hp) hQ ops.size (List.range ops.size) _ σ a _ G (r.drawn _) ?_ ?_ (by simp) (by simp) (fun j=>?_) (fun k o ho hk=>?_))
 ·have:=(Wq (T:=T) (ms:=ms) ms [] σ σ' fs [] rfl rfl hx).2
  simp only[List.length_nil,hlen,<-List.range_eq_range'] at this
  exact this
 ·exact List.pairwise_lt_range
 ·rw[List.mem_range]
  constructor
  ·intro h;simp[h]
  ·intro h
   rcases Nat.lt_or_ge j ops.size with h'|h'
   ·exact h'
   ·simp[Array.getElem?_eq_none (show(Array.replicate ops.size false).size<=j by simpa using h')] at h
 ·exfalso
  have NU:k<ops.size:=(Array.getElem?_eq_some_iff.1 ho).1
  simp[NU] at hk
end
end Go.Am
end
