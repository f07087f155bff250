/- AmP, AmQ: parts of the proof. No condition. -/
import Derived.Test.YtbgmbplglejidaaAm21
set_option linter.unusedVariables false
set_option linter.unusedSimpArgs false
section
namespace Go.Am
theorem ah.alM {c:ah} {m:Nat}:m∈c.rT↔c.iD m:=by
 cases c<;>simp[ah.rT,ah.iD]
theorem ah.Ew {c:ah} {m:Nat}:m∈c.nm↔c.ref m:=by
 cases c with
 |fn f cr=>simp[ah.nm,ah.ref,List.mem_flatMap,ah.alM]
 |_=>simp[ah.nm,ah.rT,ah.ref,ah.iD]
theorem aj.yX {v:aj} {m:Nat}:m∈v.gp↔v.ref m:=by
 cases v with
 |one c=>exact ah.Ew
 |agg cs=>simp[aj.gp,aj.ref,List.mem_flatMap,ah.Ew]
 |bn xs=>simp only[aj.gp,aj.ref,List.mem_flatMap,ah.Ew]
theorem po {op:aE} {ev:MO->aj} {n:Nat}:n∈op.iM ev↔∃a∈op.args,(ev a).ref n:=by
 simp[aE.iM,List.mem_flatMap,aj.yX]
theorem Jy {op:aE} {ev:MO->aj} {h:Nat->Option ao} {n:Nat} (hn:n∈op.iM ev):n∈op.lT ev h:=by
 unfold aE.lT
 cases op.Eg with
 |true=>exact List.mem_append.2 (.inl hn)
 |false=>exact hn
theorem ac6 {op:aE} {ev:MO->aj} {h:Nat->Option ao} {ws:List Nat} (hw:op.j0 ev h=some ws) {n:Nat} (hn:n∈ws):n∈op.iM ev:=by
 cases op<;>simp only[aE.j0] at hw<;>first|(cases hw;cases hn)|(cases hw;done)|skip
 case store sz x v=>
  split at hw
  ·rename_i q _ _ _ hx
   have hq:q∈(aE.store sz x v).iM ev:=po.2 ⟨x,by simp[aE.args],by rw[hx];exact rfl⟩
   split at hw
   ·injection hw with hw;subst hw;simp at hn;subst hn;exact hq
   ·injection hw with hw;subst hw
    rcases List.mem_cons.1 hn with rfl|hn
    ·exact hq
    ·exact po.2 ⟨v,by simp[aE.args],aj.yX.1 hn⟩
   ·cases hw
  ·rename_i q _ _ _ _ _ hx
   have hq:q∈(aE.store sz x v).iM ev:=po.2 ⟨x,by simp[aE.args],by rw[hx];exact rfl⟩
   injection hw with hw;subst hw;simp at hn;subst hn;exact hq
  ·cases hw
 case copy sz x y=>
  split at hw
  ·rename_i q _ _ _ hx
   injection hw with hw;subst hw;simp at hn;subst hn
   exact po.2 ⟨x,by simp[aE.args],by rw[hx];exact rfl⟩
  ·cases hw
 case kB z x=>
  split at hw
  ·rename_i q _ _ _ hx
   injection hw with hw;subst hw;simp at hn;subst hn
   exact po.2 ⟨x,by simp[aE.args],by rw[hx];exact rfl⟩
  ·cases hw
 case fI sz ps=>
  injection hw with hw
  subst hw
  obtain⟨a,ha,hn⟩:=List.mem_flatMap.1 hn
  exact po.2 ⟨a,ha,aj.yX.1 hn⟩
 case du f xs=>
  injection hw with hw
  subst hw
  obtain⟨a,ha,hn⟩:=List.mem_flatMap.1 hn
  exact po.2 ⟨a,ha,aj.yX.1 hn⟩
 case append fl sz by_ x y=>
  injection hw with hw
  subst hw
  rcases List.mem_append.1 hn with hn|hn
  ·exact po.2 ⟨x,by simp[aE.args],aj.yX.1 hn⟩
  ·exact po.2 ⟨y,by simp[aE.args],aj.yX.1 hn⟩
def St.dd (σ:St):List (Nat×Option ao)->St
 |[]=>σ
 |(n,b)::l=>St.dd {σ with h:=au σ.h n b} l
def dq (h:Nat->Option ao):List (Nat×Option ao)->(Nat->Option ao)
 |[]=>h
 |(n,b)::l=>dq (au h n b) l
theorem kY:∀(l:List (Nat×Option ao)) (σ:St),σ.dd l={σ with h:=dq σ.h l}
 |[],σ=>rfl
 |(n,b)::l,σ=>by simp only[St.dd,dq];rw[kY l]
theorem nC:∀{l:List (Nat×Option ao)} {h:Nat->Option ao} {n:Nat},(∀p∈l,p.1≠n)->dq h l n=h n
 |[],h,n,_=>rfl
 |(m,b)::l,h,n,hn=>by
  simp only[dq]
  rw[nC fun p hp=>hn p (List.mem_cons_of_mem _ hp)]
  exact cq _ _ _ _ (fun e=>hn (m,b) (by simp) e.symm)
theorem aps (h:Nat->Option ao) (l l':List (Nat×Option ao)):dq h (l++l')=dq (dq h l) l':=by
 induction l generalizing h with
 |nil=>rfl
 |cons x l ih=>obtain⟨n,b⟩:=x;exact ih _
theorem Cv (σ:St) (l l':List (Nat×Option ao)):σ.dd (l++l')=(σ.dd l).dd l':=by
 simp only[kY,aps]
theorem Fv:∀{l:List (Nat×Option ao)} {h h':Nat->Option ao} {n:Nat},(∃p∈l,p.1=n)->dq h l n=dq h' l n
 |[],h,h',n,hn=>by obtain⟨p,hp,_⟩:=hn;cases hp
 |(m,b)::l,h,h',n,hn=>by
  simp only[dq]
  by_cases hl:∃p∈l,p.1=n
  ·exact Fv hl
  ·have ca:∀p∈l,p.1≠n:=fun p hp e=>hl ⟨p,hp,e⟩
   rw[nC ca,nC ca]
   obtain⟨p,hp,e⟩:=hn
   rcases List.mem_cons.1 hp with rfl|hp
   ·simp only at e;subst e;rw[bF,bF]
   ·exact absurd e (ca p hp)
theorem acV {u v:List (Nat×Option ao)} (hd:∀p∈u,∀q∈v,p.1≠q.1) (h:Nat->Option ao):dq (dq h u) v=dq (dq h v) u:=by
 funext n
 by_cases hu:∃p∈u,p.1=n
 ·obtain⟨p,hp,rfl⟩:=hu
  rw[nC (l:=v) fun q hq e=>hd p hp q hq e.symm]
  exact Fv ⟨p,hp,rfl⟩
 ·rw[nC (l:=u) (h:=dq h v) fun p hp e=>hu ⟨p,hp,e⟩]
  by_cases hv:∃q∈v,q.1=n
  ·exact Fv hv
  ·rw[nC fun q hq e=>hv ⟨q,hq,e⟩,nC fun p hp e=>hu ⟨p,hp,e⟩,nC fun q hq e=>hv ⟨q,hq,e⟩]
theorem apu {u v:List (Nat×Option ao)} (hd:∀p∈u,∀q∈v,p.1≠q.1) (σ:St):(σ.dd u).dd v=(σ.dd v).dd u:=by
 simp only[kY,acV hd]
theorem acW (σ:St) (e:Nat->aj) (l:List (Nat×Option ao)):(σ.we e).dd l=(σ.dd l).we e:=by
 simp only[kY];rfl
theorem apt {l:List (Nat×Option ao)} {h:Nat->Option ao} {n:Nat} {b:Option ao} (hn:∀p∈l,p.1≠n):dq (au h n b) l=au (dq h l) n b:=by
 have:=acV (u:=l) (v:=[(n,b)]) (fun p hp q hq=>by simp at hq;subst hq;exact hn p hp) h
 exact this.symm
theorem ah2 {σ σ1:St} {l:List (Nat×Option ao)} {n:Nat} {b:ao} (hl:∀p∈l,σ.used p.1=true) (h:σ.ins n b=some σ1):(σ.dd l).ins n b=some (σ1.dd l):=by
 obtain⟨u1,rfl⟩:=lL h
 unfold St.ins
 rw[kY,kY]
 rw[if_neg (show¬σ.used n=true by rw[u1];simp)]
 simp only
 rw[apt fun p hp e=>by rw[<-e,hl p hp] at u1;cases u1]
theorem Ee:∀{A:List (Nat×ao)} {σ σ1:St} {l:List (Nat×Option ao)},(∀p∈l,σ.used p.1=true)->σ.cA A=some σ1->(σ.dd l).cA A=some (σ1.dd l)
 |[],σ,σ1,l,hl,h=>by
  simp only[St.cA] at h⊢
  injection h with h
  rw[h]
 |(n,b)::A,σ,σ1,l,hl,h=>by
  simp only[St.cA] at h⊢
  split at h
  ·rename_i jK e
   rw[ah2 hl e]
   obtain⟨u1,rfl⟩:=lL e
   exact Ee (fun p hp=>qR _ _ (hl p hp)) h
  ·cases h
theorem ZA:∀{A:List (Nat×ao)} {σ σ':St},σ.used=σ'.used->(σ.cA A).isSome=true->(σ'.cA A).isSome=true
 |[],σ,σ',hu,h=>rfl
 |(n,b)::A,σ,σ',hu,h=>by
  simp only[St.cA,St.ins] at h⊢
  rw[<-hu]
  split at h
  ·rename_i jK e
   split at e
   ·cases e
   ·rename_i hn
    injection e with e
    subst e
    rw[if_neg hn]
    simp only
    exact ZA (by rfl) h
  ·cases h
theorem Pb {A:List (Nat×ao)} {σ B:St} {l:List (Nat×Option ao)} (hl:∀p∈l,σ.used p.1=true) (h:(σ.dd l).cA A=some B):∃B',σ.cA A=some B'/\B=B'.dd l:=by
 have hs:(σ.cA A).isSome=true:=ZA (A:=A) (σ:=σ.dd l) (σ':=σ) (by rw[kY]) (by rw[h];rfl)
 cases e:σ.cA A with
 |none=>rw[e] at hs;cases hs
 |some B'=>
  refine⟨B',rfl,?_⟩
  have:=Ee hl e
  rw[h] at this
  injection this
abbrev Us:=List (Nat×Option ao)
def r6 (h:Nat->Option ao):ah->Option (C×Bool×Us)
 |.c x=>some (x,x.eN,[])
 |.nil sz=>if 0<sz then some (.list sz [],true,[]) else none
 |.sl n sz lo len=>
  match h n with
  |some (.row _ m rs xs)=>if rs=sz/\lo=0/\len<=xs.length then some (.list sz (xs.take len),decide (m≠ .aD),[(n,none)]) else none
  |_=>none
 |_=>none
def jI (h:Nat->Option ao):List ah->Option (List C×Bool×Us)
 |[]=>some ([],true,[])
 |c::cs=>match r6 h c with
  |some (x,o,u)=>match jI (dq h u) cs with
   |some (xs,o',u')=>some (x::xs,o&&o',u++u')
   |none=>none
  |none=>none
def oy (sz:Nat) (h:Nat->Option ao):List aj->Option (List (List C)×Bool×Us)
 |[]=>some ([],true,[])
 |v::vs=>match v.cells? with
  |some (_,cs)=>if cs.length=sz then
   match jI h cs with
   |some (e,o,u)=>match oy sz (dq h u) vs with
    |some (es,o',u')=>some (e::es,o&&o',u++u')
    |none=>none
   |none=>none
   else none
  |none=>none
theorem Fw (σ:St) (l:Us):(σ.dd l).h=dq σ.h l:=by rw[kY]
theorem aph (σ:St) (c:ah):σ.fS c=(r6 σ.h c).map fun x=>(x.1,x.2.1,σ.dd x.2.2):=by
 cases c with
 |sl n sz lo len=>
  simp only[St.fS,r6]
  cases σ.h n with
  |none=>rfl
  |some b=>cases b with
   |box cs=>rfl
   |row gr m rs xs=>simp only;split<;>rfl
 |nil sz=>simp only[St.fS,r6];split<;>rfl
 |_=>rfl
theorem Kw:∀(cs:List ah) (σ:St),σ.ft cs=(jI σ.h cs).map fun x=>(x.1,x.2.1,σ.dd x.2.2)
 |[],σ=>rfl
 |c::cs,σ=>by
  simp only[St.ft,jI,aph]
  cases r6 σ.h c with
  |none=>rfl
  |some x=>
   obtain⟨x,o,u⟩:=x
   simp only[Option.map_some,Kw cs,Fw]
   cases jI (dq σ.h u) cs with
   |none=>rfl
   |some y=>obtain⟨xs,o',u'⟩:=y;simp only[Option.map_some,Cv]
theorem acO (sz:Nat):∀(vs:List aj) (σ:St),σ.kU sz vs=(oy sz σ.h vs).map fun x=>(x.1,x.2.1,σ.dd x.2.2)
 |[],σ=>rfl
 |v::vs,σ=>by
  simp only[St.kU,oy]
  cases v.cells? with
  |none=>rfl
  |some x=>
   obtain⟨b,cs⟩:=x
   simp only
   split
   ·rw[Kw]
    cases jI σ.h cs with
    |none=>rfl
    |some y=>
     obtain⟨e,o,u⟩:=y
     simp only[Option.map_some,acO sz vs,Fw]
     cases oy sz (dq σ.h u) vs with
     |none=>rfl
     |some y=>obtain⟨es,o',u'⟩:=y;simp only[Option.map_some,Cv]
   ·rfl
theorem apf {h:Nat->Option ao} {c:ah} {x:C} {o:Bool} {u:Us} (e:r6 h c=some (x,o,u)):∀q∈u,q.1∈c.nm:=by
 unfold r6 at e
 split at e
 ·injection e with e;injection e with _ e;injection e with _ e;subst e;intro q hq;cases hq
 ·split at e
  ·injection e with e;injection e with _ e;injection e with _ e;subst e;intro q hq;cases hq
  ·cases e
 ·split at e
  ·split at e
   ·injection e with e;injection e with _ e;injection e with _ e;subst e;intro q hq;simp at hq;subst hq;simp[ah.nm,ah.rT]
   ·cases e
  ·cases e
 ·cases e
theorem Kv:∀{cs:List ah} {h:Nat->Option ao} {xs:List C} {o:Bool} {u:Us},jI h cs=some (xs,o,u)->∀q∈u,q.1∈cs.flatMap ah.nm
 |[],h,xs,o,u,e=>by
  simp only[jI] at e
  injection e with e;injection e with _ e;injection e with _ e;subst e;intro q hq;cases hq
 |c::cs,h,xs,o,u,e=>by
  simp only[jI] at e
  split at e
  ·rename_i x o1 u1 e1
   split at e
   ·rename_i ii o2 u2 e2
    injection e with e;injection e with _ e;injection e with _ e;subst e
    intro q hq
    rw[List.flatMap_cons]
    rcases List.mem_append.1 hq with hq|hq
    ·exact List.mem_append.2 (.inl (apf e1 q hq))
    ·exact List.mem_append.2 (.inr (Kv e2 q hq))
   ·cases e
  ·cases e
theorem Ao {v:aj} {b:Bool} {cs:List ah} (h:v.cells?=some (b,cs)):cs.flatMap ah.nm=v.gp:=by
 cases v with
 |one c=>cases c<;>simp[aj.cells?] at h<;>(obtain⟨_,rfl⟩:=h;simp[aj.gp])
 |agg cs'=>simp[aj.cells?] at h;obtain⟨_,rfl⟩:=h;rfl
 |bn xs=>simp[aj.cells?] at h
theorem acN {sz:Nat}:∀{vs:List aj} {h:Nat->Option ao} {xs:List (List C)} {o:Bool} {u:Us},oy sz h vs=some (xs,o,u)->∀q∈u,q.1∈vs.flatMap aj.gp
 |[],h,xs,o,u,e=>by
  simp only[oy] at e
  injection e with e;injection e with _ e;injection e with _ e;subst e;intro q hq;cases hq
 |v::vs,h,xs,o,u,e=>by
  simp only[oy] at e
  split at e
  ·rename_i b cs hv
   split at e
   ·split at e
    ·rename_i x o1 u1 e1
     split at e
     ·rename_i ii o2 u2 e2
      injection e with e;injection e with _ e;injection e with _ e;subst e
      intro q hq
      rw[List.flatMap_cons]
      rcases List.mem_append.1 hq with hq|hq
      ·exact List.mem_append.2 (.inl (Ao hv▸Kv e1 q hq))
      ·exact List.mem_append.2 (.inr (acN e2 q hq))
     ·cases e
    ·cases e
   ·cases e
  ·cases e
theorem Fu {h h':Nat->Option ao} {n:Nat} (hh:h' n=h n) (u:Us):dq h' u n=dq h u n:=by
 by_cases hu:∃p∈u,p.1=n
 ·exact Fv hu
 ·rw[nC fun p hp e=>hu ⟨p,hp,e⟩,nC fun p hp e=>hu ⟨p,hp,e⟩,hh]
theorem ape {h h':Nat->Option ao} {c:ah} (hh:∀n∈c.nm,h' n=h n):r6 h' c=r6 h c:=by
 cases c with
 |sl n sz lo len=>simp only[r6];rw[hh n (by simp[ah.nm,ah.rT])]
 |_=>rfl
theorem Ku:∀{cs:List ah} {h h':Nat->Option ao},(∀n∈cs.flatMap ah.nm,h' n=h n)->jI h' cs=jI h cs
 |[],h,h',_=>rfl
 |c::cs,h,h',hh=>by
  simp only[jI]
  rw[ape fun n hn=>hh n (by rw[List.flatMap_cons];exact List.mem_append.2 (.inl hn))]
  cases r6 h c with
  |none=>rfl
  |some x=>
   obtain⟨x,o,u⟩:=x
   simp only
   rw[Ku (cs:=cs) (h:=dq h u) (h':=dq h' u) fun n hn=>Fu (hh n (by rw[List.flatMap_cons];exact List.mem_append.2 (.inr hn))) u]
theorem acM {sz:Nat}:∀{vs:List aj} {h h':Nat->Option ao},(∀n∈vs.flatMap aj.gp,h' n=h n)->oy sz h' vs=oy sz h vs
 |[],h,h',_=>rfl
 |v::vs,h,h',hh=>by
  simp only[oy]
  cases hv:v.cells? with
  |none=>rfl
  |some x=>
   obtain⟨b,cs⟩:=x
   simp only
   rw[Ku (cs:=cs) fun n hn=>hh n (by rw[List.flatMap_cons];exact List.mem_append.2 (.inl (Ao hv▸hn)))]
   cases jI h cs with
   |none=>rfl
   |some y=>
    obtain⟨e,o,u⟩:=y
    simp only
    rw[acM (vs:=vs) (h:=dq h u) (h':=dq h' u) fun n hn=>Fu (hh n (by rw[List.flatMap_cons];exact List.mem_append.2 (.inr hn))) u]
def xb (h:Nat->Option ao) (n:Nat) (gr:Bool) (m:Mode) (rs:Nat) (xs:List (List C)) (k off:Nat) (e:List C) (vs:List ah):Option Us:=
 match sub e off vs.length with
 |none=>none
 |some fq=>match jI h vs with
  |none=>none
  |some (cs,o,u)=>
   if m=.live then
    if fA cs=true/\fA fq=true/\(dq h u n).isSome=true then some (u++[(n,some (.row gr m rs (xs.set k (cj e off cs))))]) else none
   else if(dq h u n).isSome=true then some (u++[(n,some (.row gr (if o=true then m else .aD) rs (xs.set k (cj e off cs))))])
   else none
theorem aoZ (σ:St) (n:Nat) (gr:Bool) (m:Mode) (rs:Nat) (xs:List (List C)) (k off:Nat) (e:List C) (vs:List ah):
  mX σ n gr m rs xs k off e vs=(xb σ.h n gr m rs xs k off e vs).map fun u=>σ.dd u:=by
 unfold mX xb
 cases sub e off vs.length with
 |none=>rfl
 |some fq=>
  simp only[Kw]
  cases jI σ.h vs with
  |none=>rfl
  |some x=>
   obtain⟨cs,o,u⟩:=x
   simp only[Option.map_some,Fw]
   repeat' split
   all_goals first|rfl|(simp only[Option.map_some,Cv];rfl)
def vw (h:Nat->Option ao) (sz:Nat):aj->Option (List (List C)×Mode×List (Nat×Option ao))
 |.one (.nil _)=>some ([],.ae,[])
 |.one (.sl a s 0 len)=>match h a with
  |some (.row true m rs xs)=>if rs=sz/\s=sz/\len=xs.length then some (xs,m,[(a,none)]) else none
  |_=>none
 |_=>none
def tD (fl:Bool) (h:Nat->Option ao) (sz:Nat) (m:Mode):aj->Option (List (List C)×Mode×List (Nat×Option ao))
  |.one (.nil _)=>some ([],m,[])
  |.one (.c (.list s ys))=>if s=sz then(if(fl&&fZ ys)=true then some (ys,m,[]) else if m=.live then none else some (ys,.aD,[])) else none
  |.one (.sl b s lo len)=>match h b with
   |some (.row _ m' rs ys)=>if rs=sz/\s=sz/\lo+len<=ys.length then
       (if(fl&&fZ ((ys.drop lo).take len))=true then some ((ys.drop lo).take len,m,[])
        else if lo=0/\len=ys.length then(if m=m' then some (ys,m,[(b,none)]) else if m=.live\/m'=.live then none else some (ys,.aD,[(b,none)])) else none)
    else none
   |_=>none
  |_=>none
theorem adt (σ:St) (sz:Nat) (v:aj):pP σ sz v=(vw σ.h sz v).map fun x=>(x.1,x.2.1,σ.dd x.2.2):=by
 cases v with
 |one v=>cases v with
  |sl a s lo len=>cases lo with
   |zero=>
    simp only[pP,vw]
    cases σ.h a with
    |none=>rfl
    |some b=>cases b with
     |box cs=>rfl
     |row gr m rs xs=>cases gr with
      |true=>simp only;split<;>rfl
      |false=>rfl
   |succ lo=>rfl
  |_=>rfl
 |_=>rfl
theorem adv (fl:Bool) (σ:St) (sz:Nat) (m:Mode) (v:aj):lm fl σ sz m v=(tD fl σ.h sz m v).map fun x=>(x.1,x.2.1,σ.dd x.2.2):=by
 cases v with
 |one v=>cases v with
  |sl b s lo len=>
   simp only[lm,tD]
   cases σ.h b with
   |none=>rfl
   |some b=>cases b with
    |box cs=>rfl
    |row gr m rs xs=>
     simp only
     repeat' split
     all_goals rfl
  |c x=>cases x with
   |list s ys=>
    simp only[lm,tD]
    repeat' split
    all_goals rfl
   |_=>rfl
  |_=>rfl
 |_=>rfl
def lp (h:Nat->Option ao):List aj->Option (List Dv×List Nat×Us)
 |[]=>some ([],[],[])
 |v::vs=>match lr h v with
  |some (n,xs)=>match lp h vs with
   |some (ds,ns,u)=>some ((.ptr,xs)::ds,n::ns,u)
   |none=>none
  |none=>match v.cells? with
   |some (ag,cs)=>match jI h cs with
    |some (xs,_,u)=>match lp (dq h u) vs with
     |some (ds,ns,u')=>some ((if ag=true then .agg else .one,xs)::ds,ns,u++u')
     |none=>none
    |none=>none
   |none=>none
theorem LS:∀(vs:List aj) (σ:St),σ.gK vs=(lp σ.h vs).map fun x=>(x.1,x.2.1,σ.dd x.2.2)
 |[],σ=>rfl
 |v::vs,σ=>by
  simp only[St.gK,lp]
  cases lr σ.h v with
  |some x=>
   obtain⟨n,xs⟩:=x
   simp only[LS vs σ]
   cases lp σ.h vs<;>rfl
  |none=>
   simp only
   cases v.cells? with
   |none=>rfl
   |some x=>
    obtain⟨ag,cs⟩:=x
    simp only
    rw[Kw]
    cases jI σ.h cs with
    |none=>rfl
    |some y=>
     obtain⟨e,o,u⟩:=y
     simp only[Option.map_some,LS vs,Fw]
     cases lp (dq σ.h u) vs with
     |none=>rfl
     |some y=>obtain⟨ds,ns,u'⟩:=y;simp only[Option.map_some,Cv]
theorem adJ {h:Nat->Option ao} {v:aj} {n:Nat} {xs:List C} (e:lr h v=some (n,xs)):n∈v.gp:=by
 obtain⟨sz,cs,rfl,_⟩:=LV e
 simp[aj.gp,ah.nm,ah.rT]
theorem Hv:∀{vs:List aj} {h:Nat->Option ao} {ds:List Dv} {ns:List Nat} {u:Us},lp h vs=some (ds,ns,u)->(∀q∈u,q.1∈vs.flatMap aj.gp)/\∀n∈ns,n∈vs.flatMap aj.gp
 |[],h,ds,ns,u,e=>by
  simp only[lp] at e
  injection e with e;injection e with _ e;injection e with e1 e;subst e e1;exact⟨fun q hq=>(by cases hq),fun q hq=>(by cases hq)⟩
 |v::vs,h,ds,ns,u,e=>by
  simp only[lp] at e
  split at e
  ·rename_i n xs hp
   split at e
   ·rename_i tK jW u' e2
    injection e with e;injection e with _ e;injection e with e1 e;subst e e1
    obtain⟨i1,i2⟩:=Hv e2
    rw[List.flatMap_cons]
    refine⟨fun q hq=>List.mem_append.2 (.inr (i1 q hq)),fun m hm=>?_⟩
    rcases List.mem_cons.1 hm with rfl|hm
    ·exact List.mem_append.2 (.inl (adJ hp))
    ·exact List.mem_append.2 (.inr (i2 m hm))
   ·cases e
  ·split at e
   ·rename_i b cs hv
    split at e
    ·rename_i x o1 u1 e1
     split at e
     ·rename_i ds2 ns2 u2 e2
      injection e with e;injection e with _ e;injection e with e3 e;subst e e3
      obtain⟨i1,i2⟩:=Hv e2
      rw[List.flatMap_cons]
      refine⟨fun q hq=>?_,fun m hm=>List.mem_append.2 (.inr (i2 m hm))⟩
      rcases List.mem_append.1 hq with hq|hq
      ·exact List.mem_append.2 (.inl (Ao hv▸Kv e1 q hq))
      ·exact List.mem_append.2 (.inr (i1 q hq))
     ·cases e
    ·cases e
   ·cases e
theorem adI {h h':Nat->Option ao} {v:aj} (hh:∀n∈v.gp,h' n=h n):lr h' v=lr h v:=by
 cases v with
 |one c=>cases c with
  |ptr n k sz off=>simp only[lr];rw[hh n (by simp[aj.gp,ah.nm,ah.rT])]
  |_=>rfl
 |_=>rfl
theorem LQ:∀{vs:List aj} {h h':Nat->Option ao},(∀n∈vs.flatMap aj.gp,h' n=h n)->lp h' vs=lp h vs
 |[],h,h',_=>rfl
 |v::vs,h,h',hh=>by
  have h1:∀n∈v.gp,h' n=h n:=fun n hn=>hh n (by rw[List.flatMap_cons];exact List.mem_append.2 (.inl hn))
  have h2:∀n∈vs.flatMap aj.gp,h' n=h n:=fun n hn=>hh n (by rw[List.flatMap_cons];exact List.mem_append.2 (.inr hn))
  simp only[lp]
  rw[adI h1]
  cases lr h v with
  |some x=>
   obtain⟨n,xs⟩:=x
   simp only
   rw[LQ h2]
  |none=>
   simp only
   cases hv:v.cells? with
   |none=>rfl
   |some x=>
    obtain⟨b,cs⟩:=x
    simp only
    rw[Ku (cs:=cs) fun n hn=>h1 n (Ao hv▸hn)]
    cases jI h cs with
    |none=>rfl
    |some y=>
     obtain⟨e,o,u⟩:=y
     simp only
     rw[LQ (vs:=vs) (h:=dq h u) (h':=dq h' u) fun n hn=>Fu (h2 n hn) u]
def uS (h:Nat->Option ao):List Nat->List C->Option Us
 |[],[]=>some []
 |[n],out=>match h n with
  |some (.box cs)=>if cs.length=out.length then some [(n,some (.box (out.map .c)))] else none
  |_=>none
 |_,_=>none
theorem anb (σ:St) (ns:List Nat) (out:List C):σ.qB ns out=(uS σ.h ns out).map σ.dd:=by
 match ns,out with
 |[],[]=>rfl
 |[],_::_=>rfl
 |[n],out=>
  simp only[St.qB,uS]
  cases σ.h n with
  |none=>rfl
  |some b=>
   cases b with
   |box cs=>simp only;split<;>rfl
   |row gr m rs xs=>rfl
 |_::_::_,out=>rfl
theorem ana {h:Nat->Option ao} {ns:List Nat} {out:List C} {u:Us} (e:uS h ns out=some u):∀q∈u,q.1∈ns:=by
 unfold uS at e
 split at e
 ·injection e with e;subst e;intro q hq;cases hq
 ·split at e
  ·split at e
   ·injection e with e;subst e;intro q hq;simp at hq;subst hq;simp
   ·cases e
  ·cases e
 ·cases e
theorem am9 {h h':Nat->Option ao} {ns:List Nat} {out:List C} (hh:∀n∈ns,h' n=h n):uS h' ns out=uS h ns out:=by
 match ns,out with
 |[],[]=>rfl
 |[],_::_=>rfl
 |[n],out=>simp only[uS];rw[hh n (by simp)]
 |_::_::_,out=>rfl
def Ad (d:Option Nat):List Dv->Option (aj×List (Nat×ao))
 |[(.ptr,cs)]=>match d with
  |some q=>some (.one (.ptr q 0 0 0),[(q,.box (cs.map .c))])
  |none=>none
 |rs=>match gx rs with
  |some ls=>some (kQ ls,[])
  |none=>none
theorem adK (σ:St) (d:Option Nat) (rs:List Dv):pQ σ d rs=(Ad d rs).bind fun x=>(σ.cA x.2).map (·.put d x.1):=by
 unfold pQ
 split
 ·cases d with
  |none=>rfl
  |some q=>
   simp only[Ad,Option.bind_some,St.cA]
   cases σ.ins q _<;>rfl
 ·rename_i aB
  have e:Ad d rs=match gx rs with
    |some ls=>some (kQ ls,[])
    |none=>none:=by
   unfold Ad
   split
   ·exact absurd rfl (aB _)
   ·rfl
  rw[e]
  cases gx rs with
  |none=>rfl
  |some ls=>rfl
abbrev LC:=aj×List (Nat×Option ao)×List (Nat×ao)
def eW (T:aO) (d:Option Nat) (op:aE) (ev:MO->aj) (h:Nat->Option ao):Option LC:=
 match op with
 |.store sz x v=>match ev x,(ev v).cells? with
  |.one (.ptr n k az off),some (_,vs)=>if vs.length=sz then
   match h n with
   |some (.box cs)=>if k=0/\off+sz<=cs.length then some (.one .bm,[(n,some (.box (cj cs off vs)))],[]) else none
   |some (.row gr m rs xs)=>if az=rs then
    match xs[k]? with
    |some e=>match xb h n gr m rs xs k off e vs with
     |some u=>some (.one .bm,u,[])
     |none=>none
    |none=>none
    else none
   |none=>none
   else none
  |.one (.cQ n k az off s i),some (_,vs)=>if vs.length=sz then
   match h n with
   |some (.row gr .live rs xs)=>if az=rs then
    match u4 xs k off s i vs with
    |some aq=>some (.one .bm,[(n,some (.row gr .live rs aq))],[])
    |none=>none
    else none
   |_=>none
   else none
  |_,_=>none
 |.fI sz ps=>match d,oy sz h (ps.map ev) with
  |some n,some (es,o,u)=>some (.one (.sl n sz 0 es.length),u,[(n,.row true (if o=true then .ae else .aD) sz es)])
  |_,_=>none
 |.append fl sz by_ x y=>match d with
  |none=>none
  |some n=>match vw h sz (ev x) with
   |none=>none
   |some (xs,m,u1)=>match tD fl (dq h u1) sz m (ev y) with
    |none=>none
    |some (ys,m2,u2)=>if(xs.length+ys.length)*by_<=dF then some (.one (.sl n sz 0 (xs.length+ys.length)),u1++u2,[(n,.row true m2 sz (xs++ys))]) else none
 |.du f xs=>match lp h (xs.map ev),aO.j8 T.vs f with
  |some (ds,ns,u),some M=>match M ds with
   |some (rs,out)=>match uS (dq h u) ns out,Ad d rs with
    |some u',some (v,is)=>some (v,u++u',is)
    |_,_=>none
   |none=>none
  |_,_=>none
 |.copy sz x y=>match ev x,ev y with
  |.one (.sl n s lo len),.one c=>match h n,cg h c with
   |some (.row gr m rs xs),some (.list s' ys)=>if sz=1/\s=1/\rs=1/\s'=1/\m≠ .aD/\fZ xs=true/\fZ ys=true/\lo+len<=xs.length then
    some (.one (.c (.int .i64 (Nat.min ys.length len:Nat))),[(n,some (.row gr m 1 (cj xs lo (ys.take len))))],[]) else none
   |_,_=>none
  |_,_=>none
 |.kB z x=>match ev x with
  |.one (.sl n s lo len)=>match h n with
   |some (.row gr m rs xs)=>if s=1/\rs=1/\z.eN=true/\m≠ .aD/\fZ xs=true/\lo+len<=xs.length then
    some (.bn [],[(n,some (.row gr m 1 (cj xs lo (List.replicate len [z]))))],[]) else none
   |_=>none
  |_=>none
 |op=>(rd T d op ev h).map fun x=>(x.1,[],x.2)
def vM (d:Option Nat) (σ:St) (p:LC):Option St:=((σ.dd p.2.1).cA p.2.2).map (·.put d p.1)
theorem Ij {T:aO} {d:Option Nat} {op:aE} {σ:St} {ws:List Nat} (hw:op.j0 σ.ev σ.h=some ws) (hd:∀sz x v,op=.store sz x v->d=none):
  exec T d op σ=(eW T d op σ.ev σ.h).bind (vM d σ):=by
 by_cases hc:op.dE<=1
 ·rw[oJ T d op σ hc]
  have:eW T d op σ.ev σ.h=(rd T d op σ.ev σ.h).map fun x=>(x.1,[],x.2):=by
   cases op<;>first|rfl|(simp[aE.dE] at hc)
  rw[this]
  cases rd T d op σ.ev σ.h with
  |none=>rfl
  |some x=>rfl
 ·cases op<;>simp[aE.dE] at hc<;>simp only[aE.j0] at hw
  case gd=>cases hw
  case copy sz x y=>
   simp only[exec,eW]
   cases σ.ev x with
   |one p=>cases p with
    |sl n s lo len=>
     cases σ.ev y with
     |one c=>
      simp only
      cases σ.h n with
      |none=>rfl
      |some b=>cases b with
       |box cs=>rfl
       |row gr m rs xs=>
        cases cg σ.h c with
        |none=>rfl
        |some q=>cases q with
         |list s' ys=>
          simp only
          split<;>rfl
         |_=>rfl
     |_=>rfl
    |_=>rfl
   |_=>rfl
  case kB z x=>
   simp only[exec,eW]
   cases σ.ev x with
   |one p=>cases p with
    |sl n s lo len=>
     simp only
     cases σ.h n with
     |none=>rfl
     |some b=>cases b with
      |box cs=>rfl
      |row gr m rs xs=>
       simp only
       split<;>rfl
    |_=>rfl
   |_=>rfl
  case tail=>cases hw
  case mQ=>cases hw
  case du f xs=>
   simp only[exec,eW,pU,LS]
   cases lp σ.h (xs.map σ.ev) with
   |none=>rfl
   |some x=>
    obtain⟨ds,ns,u⟩:=x
    simp only[Option.map_some]
    cases aO.j8 T.vs f with
    |none=>rfl
    |some M=>
     simp only
     cases M ds with
     |none=>rfl
     |some z=>
      obtain⟨rs,out⟩:=z
      simp only[anb,Fw]
      cases uS (dq σ.h u) ns out with
      |none=>rfl
      |some u'=>
       simp only[Option.map_some,adK]
       cases Ad d rs with
       |none=>rfl
       |some z=>
        obtain⟨v,is⟩:=z
        simp only[Option.bind_some,vM,Cv]
  case fI sz ps=>
   simp only[exec,eW]
   rw[acO]
   cases d with
   |none=>rfl
   |some n=>
    cases oy sz σ.h (ps.map σ.ev) with
    |none=>rfl
    |some x=>
     obtain⟨es,o,u⟩:=x
     simp only[Option.map_some,Option.bind_some,vM,St.cA]
     cases (σ.dd u).ins n (.row true (if o=true then .ae else .aD) sz es)<;>rfl
  case append fl sz by_ x y=>
   simp only[exec,eW,adt]
   cases d with
   |none=>rfl
   |some n=>
    simp only
    cases vw σ.h sz (σ.ev x) with
    |none=>rfl
    |some z=>
     obtain⟨xs,m,u1⟩:=z
     simp only[Option.map_some,adv]
     have hh:(σ.dd u1).h=dq σ.h u1:=by rw[kY]
     rw[hh]
     cases tD fl (dq σ.h u1) sz m (σ.ev y) with
     |none=>rfl
     |some z=>
      obtain⟨ys,m2,u2⟩:=z
      simp only[Option.map_some]
      split
      ·simp only[Option.bind_some,vM,Cv,St.cA]
       cases ((σ.dd u1).dd u2).ins n (.row true m2 sz (xs++ys))<;>rfl
      ·rfl
  case store sz x v=>
   have hd:=hd sz x v rfl
   subst hd
   simp only[exec,eW]
   split at hw
   ·rename_i n k az off hx
    simp only[hx]
    cases hv:(σ.ev v).cells? with
    |none=>rfl
    |some y=>
     obtain⟨ag,vs⟩:=y
     simp only
     split
     ·split at hw
      ·rename_i cs hn
       simp only[hn]
       split
       ·rfl
       ·rfl
      ·rename_i gr m rs xs hn
       simp only[hn]
       split
       ·cases xs[k]? with
        |none=>rfl
        |some e=>
         simp only
         rw[aoZ]
         cases xb σ.h n gr m rs xs k off e vs with
         |none=>rfl
         |some b=>rfl
       ·rfl
      ·cases hw
     ·rfl
   ·rename_i n k az off s i hx
    simp only[hx]
    cases hv:(σ.ev v).cells? with
    |none=>rfl
    |some y=>
     obtain⟨ag,vs⟩:=y
     simp only
     split
     ·cases σ.h n with
      |none=>rfl
      |some b=>cases b with
       |box cs=>rfl
       |row gr m rs xs=>cases m with
        |live=>
         simp only
         split
         ·cases u4 xs k off s i vs<;>rfl
         ·rfl
        |_=>rfl
     ·rfl
   ·cases hw
theorem VY {T:aO} {d:Option Nat} {op:aE} {ev:MO->aj} {h:Nat->Option ao} {ws:List Nat} {p:LC} (hw:op.j0 ev h=some ws) (ha:eW T d op ev h=some p):∀q∈p.2.1,q.1∈ws:=by
 by_cases hc:op.dE<=1
 ·have:eW T d op ev h=(rd T d op ev h).map fun x=>(x.1,[],x.2):=by
   cases op<;>first|rfl|(simp[aE.dE] at hc)
  rw[this,Option.map_eq_some_iff] at ha
  obtain⟨x,_,rfl⟩:=ha
  intro q hq
  cases hq
 ·cases op<;>simp[aE.dE] at hc<;>simp only[aE.j0] at hw
  case gd=>cases hw
  case copy sz x y=>
   simp only[eW] at ha
   split at ha
   ·rename_i n s lo len c hx hy
    simp only[hx] at hw
    injection hw with hw
    subst hw
    repeat' split at ha
    all_goals first|cases ha|skip
    intro q hq
    simp at hq
    subst hq
    simp
   ·cases ha
  case kB z x=>
   simp only[eW] at ha
   split at ha
   ·rename_i n s lo len hx
    simp only[hx] at hw
    injection hw with hw
    subst hw
    repeat' split at ha
    all_goals first|cases ha|skip
    intro q hq
    simp at hq
    subst hq
    simp
   ·cases ha
  case tail=>cases hw
  case mQ=>cases hw
  case du f xs=>
   injection hw with hw
   subst hw
   simp only[eW] at ha
   split at ha
   ·rename_i ds ns u M e1 e2
    split at ha
    ·rename_i rs out e3
     split at ha
     ·rename_i u' v is e4 e5
      injection ha with ha;subst ha
      obtain⟨i1,i2⟩:=Hv e1
      intro q hq
      rw[List.flatMap_map] at i1 i2
      rcases List.mem_append.1 hq with hq|hq
      ·exact i1 q hq
      ·exact i2 _ (ana e4 q hq)
     ·cases ha
    ·cases ha
   ·cases ha
  case fI sz ps=>
   injection hw with hw
   subst hw
   simp only[eW] at ha
   split at ha
   ·rename_i n es o u e
    injection ha with ha;subst ha
    intro q hq
    have:=acN e q hq
    rw[List.flatMap_map] at this
    exact this
   ·cases ha
  case append fl sz by_ x y=>
   injection hw with hw
   subst hw
   simp only[eW] at ha
   split at ha
   ·cases ha
   ·split at ha
    ·cases ha
    ·rename_i xs m u1 e1
     split at ha
     ·cases ha
     ·rename_i ys m2 u2 e2
      split at ha
      ·injection ha with ha
       subst ha
       intro q hq
       rcases List.mem_append.1 hq with ul|ul
       ·clear hq
        refine List.mem_append.2 (.inl ?_)
        unfold vw at e1
        split at e1
        ·injection e1 with e1;injection e1 with _ e1;injection e1 with _ e1;subst e1;cases ul
        ·rename_i a s len hv
         split at e1
         ·split at e1
          ·injection e1 with e1;injection e1 with _ e1;injection e1 with _ e1;subst e1
           simp at ul;subst ul;simp[aj.gp,ah.nm,ah.rT,hv]
          ·cases e1
         ·cases e1
        ·cases e1
       ·clear hq
        refine List.mem_append.2 (.inr ?_)
        have AU:∀(b:Nat),u2=[]\/u2=[(b,none)]->b∈(ev y).gp->q.1∈(ev y).gp:=by
         intro b hb hm
         rcases hb with hb|hb
         ·subst hb;cases ul
         ·subst hb;simp at ul;subst ul;exact hm
        unfold tD at e2
        split at e2
        ·injection e2 with e2;injection e2 with _ e2;injection e2 with _ e2;subst e2;cases ul
        ·repeat' split at e2
         all_goals first|cases e2|skip
         all_goals (cases ul)
        ·rename_i b s lo len hv
         have hm:b∈(ev y).gp:=by simp[hv,aj.gp,ah.nm,ah.rT]
         refine AU b ?_ hm
         repeat' split at e2
         all_goals first|cases e2|skip
         all_goals first|exact .inl rfl|exact .inr rfl
        ·cases e2
      ·cases ha
  case store sz x v=>
   simp only[eW] at ha
   split at ha
   ·rename_i n k az off b vs hx hv
    simp only[hx] at hw
    split at ha
    ·split at ha
     ·rename_i cs hn
      simp only[hn] at hw
      split at ha
      ·injection ha with ha;subst ha;injection hw with hw;subst hw
       intro q hq;simp at hq;subst hq;simp
      ·cases ha
     ·rename_i gr m rs xs hn
      simp only[hn] at hw
      injection hw with hw
      subst hw
      split at ha
      ·split at ha
       ·split at ha
        ·rename_i u e0
         injection ha with ha;subst ha
         intro q hq
         have hq:q∈u:=hq
         have two:∀(u1:Us) (bb:Option ao),u=u1++[(n,bb)]->(∀q∈u1,q.1∈vs.flatMap ah.nm)->q.1∈n::(ev v).gp:=by
          intro u1 bb he Bj
          rw[he] at hq
          rcases List.mem_append.1 hq with hq|hq
          ·exact List.mem_cons_of_mem _ (Ao hv▸Bj q hq)
          ·simp at hq;subst hq;simp
         unfold xb at e0
         split at e0
         ·cases e0
         ·split at e0
          ·cases e0
          ·rename_i cs o u1 e1
           have Bj:=Kv e1
           repeat' split at e0
           all_goals first|(injection e0 with e0;exact two _ _ e0.symm Bj)|cases e0
        ·cases ha
       ·cases ha
      ·cases ha
     ·cases ha
    ·cases ha
   ·rename_i n k az off s i b vs hx hv
    simp only[hx] at hw
    injection hw with hw
    subst hw
    repeat' split at ha
    all_goals first|cases ha|skip
    intro q hq
    simp at hq
    subst hq
    simp
   ·cases ha
section
variable {T:aO} {d:Option Nat} {op:aE} {ev ev':MO->aj} {h h':Nat->Option ao}
theorem Ev (bo:∀x∈op.args,ev' x=ev x):op.iM ev'=op.iM ev:=by
 unfold aE.iM
 generalize op.args=l at bo
 induction l with
 |nil=>rfl
 |cons x l ih=>simp only[List.flatMap_cons];rw[bo x (by simp),ih fun y hy=>bo y (List.mem_cons_of_mem _ hy)]
theorem Wl:∀{l:List Nat} (_:∀n∈l,h' n=h n),Aj h' l=Aj h l
 |[],_=>rfl
 |n::l,hh=>by
  have:=Wl (l:=l) fun m hm=>hh m (List.mem_cons_of_mem _ hm)
  simp only[Aj,List.flatMap_cons] at this⊢
  rw[hh n (by simp),this]
theorem Rp (bo:∀x∈op.args,ev' x=ev x) (hh:∀n∈op.iM ev,h' n=h n):op.lT ev' h'=op.lT ev h:=by
 unfold aE.lT
 rw[Ev bo,Wl hh]
theorem KM (bo:∀x∈op.args,ev' x=ev x) (hh:∀n∈op.iM ev,h' n=h n):op.j0 ev' h'=op.j0 ev h:=by
 cases op<;>first|rfl|skip
 case store sz x v=>
  have h1:=bo x (by simp[aE.args])
  have h2:=bo v (by simp[aE.args])
  simp only[aE.j0,h1,h2]
  cases hv:ev x with
  |one p=>cases p with
   |ptr n k az off=>simp only;rw[hh n (po.2 ⟨x,by simp[aE.args],by rw[hv];exact rfl⟩)]
   |_=>rfl
  |_=>rfl
 case copy sz x y=>
  simp only[aE.j0,bo x (by simp[aE.args])]
 case kB z x=>
  simp only[aE.j0,bo x (by simp[aE.args])]
 case du f xs=>
  have:=Ev (op:=.du f xs) bo
  simp only[aE.iM,aE.args] at this
  simp only[aE.j0,this]
 case fI sz ps=>
  have:=Ev (op:=.fI sz ps) bo
  simp only[aE.iM,aE.args] at this
  simp only[aE.j0,this]
 case append fl sz by_ x y=>
  simp only[aE.j0,bo x (by simp[aE.args]),bo y (by simp[aE.args])]
theorem VX (bo:∀x∈op.args,ev' x=ev x) (hh:∀n∈op.lT ev h,h' n=h n):eW T d op ev' h'=eW T d op ev h:=by
 have DQ:∀n∈op.iM ev,h' n=h n:=fun n hn=>hh n (Jy hn)
 have hn:∀a∈op.args,∀n,(ev a).ref n->h' n=h n:=fun a ha n hr=>DQ n (po.2 ⟨a,ha,hr⟩)
 have gen:rd T d op ev' h'=rd T d op ev h:=by
  rw[B0 T d op _ bo]
  refine abb (u:=fun n=>h' n=h n) (vv:=fun n=>n∈op.iM ev) T d op ev (fun n hn=>hn) (fun hc m cs c n hm hb ez hr=>?_) (fun x hx m hm=>hn x hx m hm) (fun x hx m hm=>po.2 ⟨x,hx,hm⟩)
  refine hh n ?_
  unfold aE.lT
  rw[hc]
  refine List.mem_append.2 (.inr ?_)
  unfold Aj
  rw[List.mem_flatMap]
  exact⟨m,hm,by rw[hb];exact List.mem_flatMap.2 ⟨c,ez,ah.Ew.2 hr⟩⟩
 cases op<;>first|(simp only[eW];rw[gen];done)|skip
 case store sz x v=>
  have h1:=bo x (by simp[aE.args])
  have h2:=bo v (by simp[aE.args])
  simp only[eW,h1,h2]
  have h3:=hn x (by simp[aE.args])
  cases hv:ev x with
  |one p=>cases p with
   |ptr n k az off=>
    rw[hv] at h3
    have h3:=h3 n rfl
    have h5:=hn v (by simp[aE.args])
    cases hc:(ev v).cells? with
    |none=>rfl
    |some y=>
     obtain⟨b,vs⟩:=y
     have h6:∀gr m rs xs e,xb h' n gr m rs xs k off e vs=xb h n gr m rs xs k off e vs:=by
      intro gr m rs xs e
      have h7:jI h' vs=jI h vs:=Ku fun q hq=>h5 q (aj.yX.1 (Ao hc▸hq))
      unfold xb
      rw[h7]
      cases jI h vs with
      |none=>rfl
      |some y=>
       obtain⟨cs,o,u⟩:=y
       simp only[Fu h3 u]
     simp only[h3,h6]
   |cQ n k az off s i=>
    rw[hv] at h3
    have h3:=h3 n rfl
    cases hc:(ev v).cells? with
    |none=>rfl
    |some y=>
     simp only[h3]
   |_=>cases (ev v).cells?<;>rfl
  |_=>cases (ev v).cells?<;>rfl
 case copy sz x y=>
  have h1:=bo x (by simp[aE.args])
  have h2:=bo y (by simp[aE.args])
  have h3:=hn x (by simp[aE.args])
  have h4:=hn y (by simp[aE.args])
  simp only[eW,h1,h2]
  cases hv:ev x with
  |one p=>cases p with
   |sl n s lo len=>
    rw[hv] at h3
    have h3:=h3 n rfl
    cases hc:ev y with
    |one c=>
     rw[hc] at h4
     have h5:cg h' c=cg h c:=zw (u:=fun n=>h' n=h n) (fun n hn=>hn) fun m hm=>h4 m (ah.wS hm)
     simp only[h3,h5]
    |_=>rfl
   |_=>rfl
  |_=>rfl
 case kB z x=>
  have h1:=bo x (by simp[aE.args])
  have h3:=hn x (by simp[aE.args])
  simp only[eW,h1]
  cases hv:ev x with
  |one p=>cases p with
   |sl n s lo len=>
    rw[hv] at h3
    have h3:=h3 n rfl
    simp only[h3]
   |_=>rfl
  |_=>rfl
 case du f xs=>
  have hl:xs.map ev'=xs.map ev:=List.map_congr_left bo
  have h2:lp h' (xs.map ev)=lp h (xs.map ev):=LQ fun n bj=>by
   rw[List.flatMap_map] at bj
   exact DQ n bj
  simp only[eW,hl,h2]
  cases e1:lp h (xs.map ev) with
  |none=>rfl
  |some x=>
   obtain⟨ds,ns,u⟩:=x
   try simp only
   cases aO.j8 T.vs f with
   |none=>rfl
   |some M=>
    try simp only
    cases M ds with
    |none=>rfl
    |some z=>
     obtain⟨rs,out⟩:=z
     try simp only
     rw[am9 (h:=dq h u) (h':=dq h' u) fun n bj=>Fu (DQ n (by
      have:=(Hv e1).2 n bj
      rw[List.flatMap_map] at this
      exact this)) u]
 case fI sz ps=>
  have hl:ps.map ev'=ps.map ev:=List.map_congr_left bo
  have h2:oy sz h' (ps.map ev)=oy sz h (ps.map ev):=acM fun n bj=>by
   rw[List.flatMap_map] at bj
   exact DQ n bj
  simp only[eW,hl,h2]
 case append fl sz by_ x y=>
  have h1:=bo x (by simp[aE.args])
  have h2:=bo y (by simp[aE.args])
  have h3:=hn x (by simp[aE.args])
  have h4:=hn y (by simp[aE.args])
  have e1:vw h' sz (ev x)=vw h sz (ev x):=by
   cases hv:ev x with
   |one p=>cases p with
    |sl a s lo len=>
     rw[hv] at h3
     cases lo with
     |zero=>simp only[vw,h3 a rfl]
     |succ lo=>rfl
    |_=>rfl
   |_=>rfl
  have e2:∀(us:List (Nat×Option ao)) (m:Mode),tD fl (dq h' us) sz m (ev y)=tD fl (dq h us) sz m (ev y):=by
   intro us m
   cases hv:ev y with
   |one p=>cases p with
    |sl b s lo len=>
     rw[hv] at h4
     have hb:dq h' us b=dq h us b:=by
      by_cases hu:∃p∈us,p.1=b
      ·exact Fv hu
      ·rw[nC fun p hp e=>hu ⟨p,hp,e⟩,nC fun p hp e=>hu ⟨p,hp,e⟩]
       exact h4 b rfl
     simp only[tD,hb]
    |c x=>cases x<;>rfl
    |_=>rfl
   |_=>rfl
  simp only[eW,h1,h2,e1,e2]
end
theorem Mu {f g:List Nat×List Nat} (h:C7 f g=true) {n:Nat} (h1:n∈f.2) (h2:n∈g.1):False:=by
 simp only[C7,Bool.and_eq_true,List.all_eq_true] at h
 have:=h.1 n h1
 simp[h2] at this
theorem aew {f g:List Nat×List Nat} (h:C7 f g=true) {n:Nat} (h1:n∈g.2) (h2:n∈f.1):False:=by
 simp only[C7,Bool.and_eq_true,List.all_eq_true] at h
 have:=h.2 n h1
 simp[h2] at this
theorem BQ {σ:St} (W:Wf σ) {op:aE} (hf:∀a∈op.args,a.flat=true) {n:Nat} (hn:n∈op.iM σ.ev):σ.used n=true:=by
 obtain⟨a,ha,hr⟩:=po.1 hn
 exact W.arg (hf a ha) n hr
theorem aa9 {σ:St} (W:Wf σ) {op:aE} (hf:∀a∈op.args,a.flat=true) {n:Nat} (hn:n∈op.lT σ.ev σ.h):σ.used n=true:=by
 unfold aE.lT at hn
 cases hc:op.Eg with
 |true=>
  rw[hc] at hn
  rcases List.mem_append.1 hn with hn|hn
  ·exact BQ W hf hn
  ·unfold Aj at hn
   rw[List.mem_flatMap] at hn
   obtain⟨m,hm,hn⟩:=hn
   split at hn
   ·rename_i cs hb
    obtain⟨c,hc,hr⟩:=List.mem_flatMap.1 hn
    exact W.box m cs c n hb hc (ah.Ew.1 hr)
   ·cases hn
 |false=>rw[hc] at hn;exact BQ W hf hn
section
variable {T:aO} {dx dy:Option Nat} {x y:aE} {σ σ1 σ2:St}
theorem Yf (W:Wf σ) (kf:∀n,dx=some n->MO.t n∉y.args) (yi:∀a∈y.args,a.flat=true) (ua:∀sz p v,x=.store sz p v->dx=none)
  (hc:x.dE<=1\/y.dE=0) (h1:exec T dx x σ=some σ1):y.fp σ1=y.fp σ:=by
 have rC:=vL ua h1
 have bo:∀a∈y.args,σ1.ev a=σ.ev a:=fun a ha=>by
  cases a with
  |t n=>show σ1.env n=σ.env n;rw[rC];exact qC fun oR=>kf n oR ha
  |k v=>rfl
 rcases hc with hc|hc
 ·rw[oJ T dx x σ hc] at h1
  have hh:∀n∈y.iM σ.ev,σ1.h n=σ.h n:=by
   intro n hn
   cases hr:rd T dx x σ.ev σ.h with
   |none=>rw[hr] at h1;cases h1
   |some p=>
    rw[hr] at h1
    simp only[Option.bind_some,fin,Option.map_eq_some_iff] at h1
    obtain⟨A,hA,rfl⟩:=h1
    have:(A.put dx p.1).h=A.h:=by cases dx<;>rfl
    rw[this]
    exact((yF hA).1 n (BQ W yi hn)).2
  unfold aE.fp
  rw[KM bo hh,Rp bo hh]
 ·unfold aE.fp
  have c1:y.Eg=false:=by cases y<;>first|rfl|(simp[aE.dE] at hc)
  have w:∀ev h,y.j0 ev h=some []:=by intro ev h;cases y<;>first|rfl|(simp[aE.dE] at hc)
  simp only[w,aE.lT,c1,cond_false,Ev bo]
theorem aem (W:Wf σ) (hd:∀n,dx=some n->dy≠some n) (kf:∀n,dx=some n->MO.t n∉y.args) (sP:∀n,dy=some n->MO.t n∉x.args)
  (IK:∀a∈x.args,a.flat=true) (yi:∀a∈y.args,a.flat=true)
  (ua:∀sz p v,x=.store sz p v->dx=none) (DN:∀sz p v,y=.store sz p v->dy=none) (hk:C8 (x.fp σ) (y.fp σ1)=true)
  (h1:exec T dx x σ=some σ1) (h2:exec T dy y σ1=some σ2):∃τ,exec T dy y σ=some τ/\exec T dx x τ=some σ2/\y.fp σ1=y.fp σ/\x.fp τ=x.fp σ:=by
 unfold aE.fp at hk
 cases xX:x.j0 σ.ev σ.h with
 |none=>rw[xX] at hk;cases hk
 |some wx=>
 cases xY:y.j0 σ1.ev σ1.h with
 |none=>rw[xX,xY] at hk;cases hk
 |some wy=>
 rw[xX,xY] at hk
 simp only[Option.map_some,C8] at hk
 rw[Ij xX ua] at h1
 rw[Ij xY DN] at h2
 cases H5:eW T dx x σ.ev σ.h with
 |none=>rw[H5] at h1;cases h1
 |some px=>
 obtain⟨vx,ux,nx⟩:=px
 rw[H5] at h1
 simp only[Option.bind_some,vM,Option.map_eq_some_iff] at h1
 obtain⟨A,hA,rfl⟩:=h1
 have KD:∀q∈ux,q.1∈wx:=VY xX H5
 have Vo:∀q∈ux,σ.used q.1=true:=fun q hq=>BQ W IK (ac6 xX (KD q hq))
 obtain⟨A',Iz,rfl⟩:=Pb Vo hA
 obtain⟨oa,ea⟩:=yF Iz
 have qg:∀(s:St) (d:Option Nat) (v:aj),(s.put d v).h=s.h:=fun s d v=>by cases d<;>rfl
 have bo:∀a∈y.args,((A'.dd ux).put dx vx).ev a=σ.ev a:=fun a ha=>by
  rw[oh,Ig fun n hn=>qC fun oR=>kf n oR (hn▸ha)]
  cases a with
  |t n=>show(A'.dd ux).env n=σ.env n;rw[kY];show A'.env n=_;rw[ea]
  |k v=>rfl
 have ahx:y.lT ((A'.dd ux).put dx vx).ev ((A'.dd ux).put dx vx).h=y.lT σ.ev σ.h/\y.j0 ((A'.dd ux).put dx vx).ev ((A'.dd ux).put dx vx).h=y.j0 σ.ev σ.h:=by
  have hh:∀n∈y.iM σ.ev,((A'.dd ux).put dx vx).h n=σ.h n:=fun n hn=>by
   rw[qg,kY]
   show dq A'.h ux n=_
   rw[nC fun p hp e=>Mu hk (KD p hp) (by rw[e];exact Jy (by rw[Ev bo];exact hn))]
   exact(oa n (BQ W yi hn)).2
  exact⟨Rp bo hh,KM bo hh⟩
 obtain⟨r1,r2⟩:=ahx
 have hh:∀n∈y.lT σ.ev σ.h,((A'.dd ux).put dx vx).h n=σ.h n:=fun n hn=>by
  rw[qg,kY]
  show dq A'.h ux n=_
  rw[nC fun p hp e=>Mu hk (KD p hp) (by rw[e];show n∈y.lT _ _;rw[r1];exact hn)]
  exact(oa n (aa9 W yi hn)).2
 have eay:eW T dy y ((A'.dd ux).put dx vx).ev ((A'.dd ux).put dx vx).h=eW T dy y σ.ev σ.h:=VX bo hh
 rw[eay] at h2
 rw[r2] at xY
 cases H6:eW T dy y σ.ev σ.h with
 |none=>rw[H6] at h2;cases h2
 |some py=>
 obtain⟨vy,uy,ny⟩:=py
 rw[H6] at h2
 simp only[Option.bind_some,vM,Option.map_eq_some_iff] at h2
 obtain⟨D,hD,rfl⟩:=h2
 have uyw:∀q∈uy,q.1∈wy:=VY xY H6
 have uyn:∀q∈uy,q.1∈y.iM σ.ev:=fun q hq=>ac6 xY (uyw q hq)
 have Vp:∀q∈uy,σ.used q.1=true:=fun q hq=>BQ W yi (uyn q hq)
 have uyA:∀q∈uy,A'.used q.1=true:=fun q hq=>(oa _ (Vp q hq)).1
 have uxA:∀q∈ux,A'.used q.1=true:=fun q hq=>(oa _ (Vo q hq)).1
 have t9:∀p∈ux,∀q∈uy,p.1≠q.1:=fun p hp q hq e=>Mu hk (KD p hp) (by rw[e];show q.1∈y.lT _ _;rw[r1];exact Jy (uyn q hq))
 rw[oh,acW,yG,Option.map_eq_some_iff] at hD
 obtain⟨D0,hD0,rfl⟩:=hD
 obtain⟨D1,hD1,rfl⟩:=Pb (σ:=A'.dd ux) (fun q hq=>by rw[kY];exact uyA q hq) hD0
 obtain⟨F,hF,rfl⟩:=Pb uxA hD1
 obtain⟨C',hC,hCF⟩:=Pa Iz hF
 obtain⟨oc,ec⟩:=yF hC
 have uyC:∀q∈uy,C'.used q.1=true:=fun q hq=>(oc _ (Vp q hq)).1
 have uxC:∀q∈ux,C'.used q.1=true:=fun q hq=>(oc _ (Vo q hq)).1
 have IE:∀a∈x.args,((C'.dd uy).put dy vy).ev a=σ.ev a:=fun a ha=>by
  rw[oh,Ig fun n hn=>qC fun oR=>sP n oR (hn▸ha)]
  cases a with
  |t n=>show(C'.dd uy).env n=σ.env n;rw[kY];show C'.env n=_;rw[ec]
  |k v=>rfl
 have YN:∀n∈x.lT σ.ev σ.h,((C'.dd uy).put dy vy).h n=σ.h n:=fun n hn=>by
  rw[qg,kY]
  show dq C'.h uy n=_
  rw[nC fun p hp e=>aew hk (uyw p hp) (by rw[e];exact hn)]
  exact(oc n (aa9 W IK hn)).2
 have Oh:∀n∈x.iM σ.ev,((C'.dd uy).put dy vy).h n=σ.h n:=fun n hn=>YN n (Jy hn)
 refine⟨(C'.dd uy).put dy vy,?_,?_,?_,?_⟩
 ·rw[Ij xY DN,H6]
  simp only[Option.bind_some,vM,Ee Vp hC,Option.map_some]
 ·rw[Ij (ws:=wx) (by rw[KM IE Oh];exact xX) ua,VX IE YN,H5]
  simp only[Option.bind_some,vM]
  rw[oh,acW,yG,Ee (σ:=C'.dd uy) (fun q hq=>by rw[kY];exact uxC q hq) (Ee uyC hCF)]
  simp only[Option.map_some]
  rw[oh,oh,apu t9]
  congr 1
  have e1:(C'.dd uy).env=σ.env:=by rw[kY];exact ec
  have e2:(A'.dd ux).env=σ.env:=by rw[kY];exact ea
  show St.we _ (h9 (h9 (C'.dd uy).env dy vy) dx vx)=St.we _ (h9 (h9 (A'.dd ux).env dx vx) dy vy)
  rw[e1,e2,JM σ.env _ _ hd]
  rfl
 ·unfold aE.fp
  rw[r1,r2]
 ·unfold aE.fp
  rw[KM IE Oh,Rp IE Oh]
end
end Go.Am
end
section
namespace Go.Am
def C2 (x y:bR):Bool:=x.op.dE==0||y.op.dE==0||(decide (x.op.dE<=1)&&decide (y.op.dE<=1))
def C4 (x y:bR):Bool:=
 (match x.dst with|some d=>y.s9 d&&(match y.dst with|some e=>e !=d|none=>true)|none=>true)&&
 (match y.dst with|some d=>x.s9 d|none=>true)&&x.pZ&&y.pZ
theorem aen {T:aO} {x y:bR} {σ σ1 σ2:St} (W:Wf σ) (hc:C4 x y=true) (hk:C2 x y=true\/C8 (x.fp σ) (y.fp σ1)=true) (h1:d7 T x σ=some σ1) (h2:d7 T y σ1=some σ2):
  ∃τ,d7 T y σ=some τ/\d7 T x τ=some σ2/\y.fp σ1=y.fp σ/\x.fp τ=x.fp σ:=by
 simp only[C4,Bool.and_eq_true] at hc
 obtain⟨⟨⟨c1,c2⟩,c3⟩,c4⟩:=hc
 rw[AF] at h1 h2
 cases ex:mw x σ.env with
 |none=>rw[ex] at h1;cases h1
 |some ji=>
  rw[ex] at h1
  have h1:exec T x.dst ji σ=some σ1:=h1
  have jx:ji=x.op\/ji=.mv (.k (.bn [])):=H7 ex
  have zp:∀sz p v,ji=.store sz p v->x.dst=none:=by
   intro sz p v he
   rcases jx with rfl|rfl
   ·simp only[bR.pZ,Bool.and_eq_true,he] at c3;simpa using c3.2
   ·cases he
  have rC:=vL zp h1
  have OX:∀s w,y.guard=some (s,w)->x.dst≠some s:=by
   intro s w hg hd
   rw[hd] at c1
   simp[bR.s9,hg] at c1
  have I2:∀s w,x.guard=some (s,w)->y.dst≠some s:=by
   intro s w hg hd
   rw[hd] at c2
   simp[bR.s9,hg] at c2
  have Ik:mw y σ1.env=mw y σ.env:=C9 fun s w hg=>by rw[rC];exact qC (OX s w hg)
  rw[Ik] at h2
  cases ey:mw y σ.env with
  |none=>rw[ey] at h2;cases h2
  |some iO=>
   rw[ey] at h2
   have h2:exec T y.dst iO σ1=some σ2:=h2
   have jy:iO=y.op\/iO=.mv (.k (.bn [])):=H7 ey
   have xc:∀sz p v,iO=.store sz p v->y.dst=none:=by
    intro sz p v he
    rcases jy with rfl|rfl
    ·simp only[bR.pZ,Bool.and_eq_true,he] at c4;simpa using c4.2
    ·cases he
   have Dk:∀a∈ji.args,a.flat=true:=by
    rcases jx with rfl|rfl
    ·simp only[bR.pZ,Bool.and_eq_true,List.all_eq_true] at c3;exact c3.1
    ·intro a ha;simp[aE.args] at ha;subst ha;rfl
   have Dl:∀a∈iO.args,a.flat=true:=by
    rcases jy with rfl|rfl
    ·simp only[bR.pZ,Bool.and_eq_true,List.all_eq_true] at c4;exact c4.1
    ·intro a ha;simp[aE.args] at ha;subst ha;rfl
   have kf:∀n,x.dst=some n->MO.t n∉iO.args:=by
    intro n hd
    rcases jy with rfl|rfl
    ·rw[hd] at c1
     simp only[Bool.and_eq_true] at c1
     exact bR.Jz c1.1
    ·simp[aE.args]
   have sP:∀n,y.dst=some n->MO.t n∉ji.args:=by
    intro n hd
    rcases jx with rfl|rfl
    ·rw[hd] at c2
     exact bR.Jz c2
    ·simp[aE.args]
   have t9:∀n,x.dst=some n->y.dst≠some n:=by
    intro n hd he
    rw[hd,he] at c1
    simp at c1
   have yfp:y.fp σ1=iO.fp σ1:=by unfold bR.fp;rw[Ik,ey]
   have apJ:y.fp σ=iO.fp σ:=by unfold bR.fp;rw[ey]
   have ac7:x.fp σ=ji.fp σ:=by unfold bR.fp;rw[ex]
   have xfp:∀τ,exec T y.dst iO σ=some τ->x.fp τ=ji.fp τ:=by
    intro τ t1
    unfold bR.fp
    rw[C9 (e:=σ.env) (fun s w hg=>by rw[vL xc t1];exact qC (I2 s w hg)),ex]
   have fin:(∃τ,exec T y.dst iO σ=some τ/\exec T x.dst ji τ=some σ2/\iO.fp σ1=iO.fp σ/\ji.fp τ=ji.fp σ)->∃τ,d7 T y σ=some τ/\d7 T x τ=some σ2/\y.fp σ1=y.fp σ/\x.fp τ=x.fp σ:=by
    rintro⟨τ,t1,t2,t3,t4⟩
    refine⟨τ,?_,?_,?_,?_⟩
    ·rw[AF,ey];exact t1
    ·rw[AF,C9 (e:=σ.env) (fun s w hg=>by rw[vL xc t1];exact qC (I2 s w hg)),ex];exact t2
    ·rw[yfp,apJ,t3]
    ·rw[xfp τ t1,ac7,t4]
   apply fin
   rcases hk with c5|hk
   ·have bL:ji.dE=0\/iO.dE=0\/(ji.dE<=1/\iO.dE<=1):=by
     rcases jx with rfl|rfl
     ·rcases jy with rfl|rfl
      ·simp only[C2,Bool.or_eq_true,beq_iff_eq,Bool.and_eq_true,decide_eq_true_eq,or_assoc] at c5
       exact c5
      ·exact .inr (.inl rfl)
     ·exact .inl rfl
    obtain⟨τ,t1,t2⟩:=WS W t9 kf sP Dk Dl zp xc bL h1 h2
    refine⟨τ,t1,t2,Yf W kf Dl zp (by omega) h1,Yf W sP Dk xc (by omega) t1⟩
   ·rw[yfp,ac7] at hk
    exact aem W t9 kf sP Dk Dl zp xc hk h1 h2
def CP (T:aO) (ms:List bR) (F:Nat->Option FP):List Nat->St->St->Prop
 |[],σ,iR=>σ=iR
 |i::L,σ,iR=>∃m σ1,ms[i]? =some m/\F i=m.fp σ/\d7 T m σ=some σ1/\CP T ms F L σ1 iR
def VT (F:Nat->Option FP) (ms:List bR) (i j:Nat) (m:bR):Prop:=∃mj,ms[j]? =some mj/\C4 mj m=true/\(C2 mj m=true\/C8 (F j) (F i)=true)
structure VA (F:Nat->Option FP) (ops:Array Oper) (ms:List bR):Prop where
 back:∀(i:Nat) (o:Oper),ops[i]? =some o->∀e∈o.after,Region.binds .any e=true->e.on<i
 pair:∀(i j:Nat) (o:Oper) (m:bR),ops[i]? =some o->ms[i]? =some m->j<i->vg ops i j\/VT F ms i j m
section
variable {B:Nat} {E:Ex} {w0 w w':World} {G G':Gh} {N:Nat}
variable {P:Program} {T:aO} {o:Oper} {mo:bR} {a:Act} {σ σ':St} {Q:Exit->Act->World->Prop} {ops:Array Oper}
theorem abu (hT:nH P T) {ms:List bR} {F:Nat->Option FP} (oP:∀(i:Nat) (m:bR),ms[i]? =some m->∃o,ops[i]? =some o/\tG P N ops o m=true) {i:Nat} {mi:bR} (hi:ms[i]? =some mi) {post:List Nat} {iR:St}:
  ∀{pre:List Nat} {σ:St},F9 B E w0 N σ->CP T ms F (pre++i::post) σ iR->(∀j∈pre,VT F ms i j mi)->
  ∃τ,F i=mi.fp σ/\d7 T mi σ=some τ/\CP T ms F (pre++post) τ iR
 |[],σ,hr,hx,hc=>by
  obtain⟨m,σ1,h1,h2,h3,h4⟩:=hx
  rw[hi] at h1
  injection h1 with h1
  subst h1
  exact⟨σ1,h2,h3,h4⟩
 |j::pre,σ,hr,hx,hc=>by
  obtain⟨mj,σ1,k1,k2,k3,k4⟩:=hx
  obtain⟨mj',hj,nd,bL⟩:=hc j (by simp)
  rw[k1] at hj
  injection hj with hj
  subst hj
  obtain⟨oj,_,gf⟩:=oP j mj k1
  obtain⟨oA,t0,t1,t2⟩:=abu hT oP hi (abg hr hT gf k3) k4 (fun k hk=>hc k (by simp[hk]))
  obtain⟨a,w,G,r⟩:=hr
  rw[k2,t0] at bL
  obtain⟨τ,s1,s2,s3,s4⟩:=aen r.wf nd bL k3 t1
  exact⟨τ,by rw[t0,s3],s1,mj,oA,k1,by rw[s4];exact k2,s2,t2⟩
theorem apH (hT:nH P T) {ms:List bR} {F:Nat->Option FP} (oP:∀(i:Nat) (m:bR),ms[i]? =some m->∃o,ops[i]? =some o/\tG P N ops o m=true) (hlen:ms.length=ops.size) (hd:VA F ops ms) {iR:St}
  (hQ:∀a w G,R B E w0 N iR a w G->Q .normal a w):
  ∀(iq:Nat) (L:List Nat) (cY:Array Bool) (σ:St) (a:Act) (w:World) (G:Gh),R B E w0 N σ a w G->CP T ms F L σ iR->L.Pairwise (·<·)->L.length<=iq->cY.size=ops.size->
   (∀j,j∈L↔cY.getD j true=false)->KR ops cY->wpAny P .any ops Q iq cY a w:=by
 have first:∀(L:List Nat) (cY:Array Bool),L.Pairwise (·<·)->cY.size=ops.size->(∀j,j∈L↔cY.getD j true=false)->Region.ready .any ops cY=[]->L=[]:=by
  intro L cY hp hs hL hr
  cases L with
  |nil=>rfl
  |cons j L=>
   exfalso
   have hj:=(hL j).1 (by simp)
   have kE:j<ops.size:=by
    rw[<-hs]
    rcases Nat.lt_or_ge j cY.size with h|h
    ·exact h
    ·simp[Array.getElem?_eq_none h] at hj
   have ho:ops[j]? =some ops[j]:=Array.getElem?_eq_getElem kE
   have:j∈Region.ready .any ops cY:=by
    rw[mem_ready]
    refine⟨hj,_,ho,fun e he hb=>?_⟩
    have bG:=hd.back j _ ho e he hb
    have nX:e.on∉j::L:=by
     intro hm
     cases hm with
     |head=>omega
     |tail _ hm=>have:=(List.pairwise_cons.1 hp).1 _ hm;omega
    have aB:cY.getD e.on true≠false:=fun h=>nX ((hL e.on).2 h)
    have oS:e.on<cY.size:=by omega
    simp[oS] at aB⊢
    exact aB
   rw[hr] at this
   cases this
 intro iq
 induction iq with
 |zero=>
  intro L cY σ a w G r hx hp hl hs hL hC
  have rr:L=[]:=List.eq_nil_of_length_eq_zero (by omega)
  subst rr
  have hx:σ=iR:=hx
  subst hx
  refine⟨?_,hQ _ _ _ r⟩
  cases hr:Region.ready .any ops cY with
  |nil=>rfl
  |cons i l=>
   have hm:i∈Region.ready .any ops cY:=by rw[hr];simp
   have:=(hL i).2 (mem_ready.1 hm).1
   cases this
 |succ iq ih=>
  intro L cY σ a w G r hx hp hl hs hL hC
  refine⟨fun hr=>?_,fun i hi=>?_⟩
  ·have rr:=first L cY hp hs hL hr
   subst rr
   have hx:σ=iR:=hx
   subst hx
   exact hQ _ _ _ r
  ·obtain⟨Ok,oi,jR,DF⟩:=mem_ready.1 hi
   have qe:i∈L:=(hL i).2 Ok
   obtain⟨pre,post,rfl⟩:=List.append_of_mem qe
   have his:i<ops.size:=(Array.getElem?_eq_some_iff.1 jR).1
   have yq:ms[i]? =some ms[i]:=List.getElem?_eq_getElem (by omega)
   obtain⟨o',gA,N7⟩:=oP i _ yq
   rw[jR] at gA
   injection gA with gA
   subst gA
   have f8:=List.pairwise_append.1 hp
   obtain⟨τ,t0,t1,t2⟩:=abu (ops:=ops) hT oP yq ⟨a,w,G,r⟩ hx (fun j hj=>by
    have rv:j<i:=f8.2.2 j hj i (by simp)
    rcases hd.pair i j oi _ jR yq rv with NX|h
    ·have h1:=Wh hC NX (fun o ho e he hb=>by
      rw[jR] at ho
      injection ho with ho
      subst ho
      have h1:=DF e he hb
      have bG:=hd.back i _ jR e he hb
      have oS:e.on<cY.size:=by omega
      simp[oS] at h1⊢
      exact h1)
     have h2:=(hL j).1 (by simp[hj])
     rw[h1] at h2
     cases h2
    ·exact h)
   have yy:∀a' w',Nx B E w0 N τ a' w'->wpAny P .any ops Q iq (cY.setIfInBounds i true) a' w':=by
    rintro a' w' ⟨G',r'⟩
    refine ih (pre++post) _ τ a' w' G' r' t2 ?_ (by simp at hl⊢;omega) (by simpa using hs) (fun j=>?_) (fun k o ho hk e he hb=>?_)
    ·rw[List.pairwise_append]
     exact⟨f8.1,(List.pairwise_cons.1 f8.2.1).2,fun x hx y hy=>f8.2.2 x hx y (by simp[hy])⟩
    ·by_cases rv:j=i
     ·subst rv
      have kE:j<cY.size:=by omega
      simp only[List.mem_append]
      constructor
      ·rintro(h|h)
       ·have:=f8.2.2 j h j (by simp);omega
       ·have:=(List.pairwise_cons.1 f8.2.1).1 j h;omega
      ·intro h
       simp[kE] at h
     ·rw[getD_set_ne true (Ne.symm rv),<-hL j]
      simp[rv]
    ·have DU:∀q,cY.getD q true=true->(cY.setIfInBounds i true).getD q true=true:=by
      intro q hq
      by_cases mG:q=i
      ·subst mG
       have:q<cY.size:=by omega
       simp[this]
      ·rw[getD_set_ne true (Ne.symm mG)];exact hq
     by_cases yl:k=i
     ·subst yl
      rw[jR] at ho
      injection ho with ho
      subst ho
      have h1:=DF e he hb
      have bG:=hd.back k _ jR e he hb
      have oS:e.on<cY.size:=by omega
      refine DU _ ?_
      simp[oS] at h1⊢
      exact h1
     ·rw[getD_set_ne true (Ne.symm yl)] at hk
      exact DU _ (hC k o ho hk e he hb)
   unfold wpOp
   rw[jR]
   simp only
   rcases Ii (Q:=Q) r hT N7 t1 with⟨hw,h⟩|⟨hw,h⟩
   ·rw[if_pos hw]
    exact .inl (Oper.wp_mono yy h)
   ·rw[if_neg (by simp[hw])]
    exact yy _ _ h
def HH (ps:List (Nat×Nat)) (ops:List Oper) (ms:List bR):Bool:=
 (fun ks:List Nat=>(List.range ops.length).all fun i=>match ops[i]?,ms[i]? with
  |some o,some m=>(o.after.toList.all fun e=> !Region.binds .any e||decide (e.on<i))&&
   (List.range i).all fun j=>(ks.getD i 0).testBit j||(match ms[j]? with|some mj=>C4 mj m&&(C2 mj m||ps.contains (j,i))|none=>false)
  |_,_=>false) (BH ops [])
theorem ad5 {ps:List (Nat×Nat)} {ms:List bR} {fs:List (Option FP)} (h:HH ps ops.toList ms=true) (hp:wO ps fs=true):VA (fun i=>fs.getD i none) ops ms:=by
  simp only[HH,List.all_eq_true,List.mem_range] at h
  have cf:∀(i:Nat) (o:Oper),ops[i]? =some o->∃m,ms[i]? =some m/\(o.after.toList.all fun e=> !Region.binds .any e||decide (e.on<i))=true/\
        ∀j,j<i->(((BH ops.toList []).getD i 0).testBit j||(match ms[j]? with|some mj=>C4 mj m&&(C2 mj m||ps.contains (j,i))|none=>false))=true:=by
    intro i o ho
    have hi:i<ops.toList.length:=by simpa using(Array.getElem?_eq_some_iff.1 ho).1
    have hi':=h i hi
    have gA:ops.toList[i]? =some o:=by simpa using ho
    rw[gA] at hi'
    cases hm:ms[i]? with
    |none=>rw[hm] at hi';cases hi'
    |some m=>
     rw[hm] at hi'
     simp only[Bool.and_eq_true,List.all_eq_true,List.mem_range] at hi'
     exact⟨m,rfl,by rw[List.all_eq_true];exact hi'.1,hi'.2⟩
  refine⟨fun i o ho e he hb=>?_,fun i j o m ho hm hj=>?_⟩
  · obtain⟨m,_,k1,_⟩:=cf i o ho
    have:=List.all_eq_true.1 k1 e (Array.mem_toList_iff.2 he)
    simp[hb] at this
    exact this
  · obtain⟨m',bJ,_,k2⟩:=cf i o ho
    rw[hm] at bJ
    injection bJ with bJ
    subst bJ
    have:=k2 j hj
    rw[Bool.or_eq_true] at this
    rcases this with h1|h1
    · exact .inl (PV ops.toList [] [] rfl rfl (by intro i k hb;simp at hb) i j h1)
    · cases A7:ms[j]? with
      |none=>rw[A7] at h1;cases h1
      |some mj=>
       rw[A7] at h1
       simp only[Bool.and_eq_true,Bool.or_eq_true] at h1
       refine .inr ⟨mj,A7,h1.1,?_⟩
       rcases h1.2 with h2|h2
       · exact .inl h2
       · refine .inr ?_
         have:=List.all_eq_true.1 hp (j,i) (by simpa using h2)
         exact this
theorem XI {ms:List bR}:∀(post pre:List bR) (σ iR:St) (fs cO:List (Option FP)),ms=pre++post->cO.length=pre.length->mz T post cO σ=some (fs,iR)->
  cO=fs.take cO.length/\CP T ms (fun i=>fs.getD i none) (List.range' pre.length post.length) σ iR
 |[],pre,σ,iR,fs,cO,he,hl,hx=>by
  simp only[mz] at hx
  injection hx with hx
  injection hx with h1 h2
  subst h1 h2
  exact⟨by simp,rfl⟩
 |m::post,pre,σ,iR,fs,cO,he,hl,hx=>by
  simp only[mz] at hx
  split at hx
  ·rename_i σ1 e1
   obtain⟨h1,h2⟩:=XI (ms:=ms) post (pre++[m]) σ1 iR fs (cO++[m.fp σ]) (by simp[he]) (by simp[hl]) hx
   have h3:fs[cO.length]? =some (m.fp σ):=by
    have:(fs.take (cO++[m.fp σ]).length)[cO.length]? =some (m.fp σ):=by rw[<-h1];simp
    rw[List.getElem?_take] at this
    split at this
    ·exact this
    ·cases this
   have h4:cO=fs.take cO.length:=by
    have:=congrArg (List.take cO.length) h1
    simpa[List.take_take] using this
   refine⟨h4,m,σ1,?_,?_,e1,?_⟩
   ·rw[he,List.getElem?_append_right (Nat.le_refl _),Nat.sub_self];rfl
   ·show fs.getD pre.length none=_
    rw[<-hl,List.getD_eq_getElem?_getD,h3];rfl
   ·simpa using h2
  ·cases hx
theorem anq (hT:nH P T) (hm:P.follows .mixedOrders=true) {id:Nat} {ps:List (Nat×Nat)} {ms:List bR} {fs:List (Option FP)} (hc:oG P N ops ops.toList ms=true) (hd:HH ps ops.toList ms=true)
  (hx:mz T ms [] σ=some (fs,σ')) (hp:wO ps fs=true) (r:R B E w0 N σ a w G) (hQ:∀a w G,R B E w0 N σ' a w G->Q .normal a w):(Code.region id ops true).wp P Q a w:=by
 obtain⟨k1,k2⟩:=Me hc
 have hlen:ms.length=ops.size:=by simpa using k1
 refine wp_region_any hm (apH (B:=B) (E:=E) (w0:=w0) (N:=N) hT (fun i m h=>by
  obtain⟨o,h1,h2⟩:=k2 i m h;exact⟨o,by simpa using h1,h2⟩) hlen (ad5 hd hp) hQ ops.size (List.range ops.size) _ σ a _ G (r.drawn _) ?_ ?_ (by simp) (by simp) (fun j=>?_) (fun k o ho hk=>?_))
 ·have:=(XI (T:=T) (ms:=ms) ms [] σ σ' fs [] rfl rfl hx).2
  simp only[List.length_nil,hlen,<-List.range_eq_range'] at this
  exact this
 ·exact List.pairwise_lt_range
 ·rw[List.mem_range]
  constructor
  ·intro h;simp[h]
  ·intro h
   rcases Nat.lt_or_ge j ops.size with h'|h'
   ·exact h'
   ·simp[Array.getElem?_eq_none (show(Array.replicate ops.size false).size<=j by simpa using h')] at h
 ·exfalso
  have Ot:k<ops.size:=(Array.getElem?_eq_some_iff.1 ho).1
  simp[Ot] at hk
end
end Go.Am
end
