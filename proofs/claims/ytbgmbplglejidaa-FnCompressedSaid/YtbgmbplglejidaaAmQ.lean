/- AmP, AmQ: parts of the proof. No condition. -/
import Derived.Test.YtbgmbplglejidaaAm21
set_option linter.unusedVariables false
set_option linter.unusedSimpArgs false
section
namespace Go.Am
theorem ah.amg {c:ah} {m:Nat}:m∈c.sA↔c.iH m:=by
 cases c<;>simp[ah.sA,ah.iH]
theorem ah.Fb {c:ah} {m:Nat}:m∈c.nm↔c.ref m:=by
 cases c with
 |fn f cA=>simp[ah.nm,ah.ref,List.mem_flatMap,ah.amg]
 |_=>simp[ah.nm,ah.sA,ah.ref,ah.iH]
theorem aj.zq {v:aj} {m:Nat}:m∈v.gD↔v.ref m:=by
 cases v with
 |one c=>exact ah.Fb
 |agg cs=>simp[aj.gD,aj.ref,List.mem_flatMap,ah.Fb]
 |bq xs=>simp only[aj.gD,aj.ref,List.mem_flatMap,ah.Fb]
theorem pT {op:aH} {ev:MO->aj} {n:Nat}:n∈op.iT ev↔∃a∈op.args,(ev a).ref n:=by
 simp[aH.iT,List.mem_flatMap,aj.zq]
theorem Kq {op:aH} {ev:MO->aj} {h:Nat->Option ao} {n:Nat} (hn:n∈op.iT ev):n∈op.mJ ev h:=by
 unfold aH.mJ
 cases op.ER with
 |true=>exact List.mem_append.2 (.inl hn)
 |false=>exact hn
theorem adY {op:aH} {ev:MO->aj} {h:Nat->Option ao} {ws:List Nat} (hw:op.kq ev h=some ws) {n:Nat} (hn:n∈ws):n∈op.iT ev:=by
 cases op<;>simp only[aH.kq] at hw<;>first|(cases hw;cases hn)|(cases hw;done)|skip
 case store sz x v=>
  split at hw
  ·rename_i q _ _ _ hx
   have hq:q∈(aH.store sz x v).iT ev:=pT.2 ⟨x,by simp[aH.args],by rw[hx];exact rfl⟩
   split at hw
   ·injection hw with hw;subst hw;simp at hn;subst hn;exact hq
   ·injection hw with hw;subst hw
    rcases List.mem_cons.1 hn with rfl|hn
    ·exact hq
    ·exact pT.2 ⟨v,by simp[aH.args],aj.zq.1 hn⟩
   ·cases hw
  ·rename_i q _ _ _ _ _ hx
   have hq:q∈(aH.store sz x v).iT ev:=pT.2 ⟨x,by simp[aH.args],by rw[hx];exact rfl⟩
   injection hw with hw;subst hw;simp at hn;subst hn;exact hq
  ·cases hw
 case copy sz x y=>
  split at hw
  ·rename_i q _ _ _ hx
   injection hw with hw;subst hw;simp at hn;subst hn
   exact pT.2 ⟨x,by simp[aH.args],by rw[hx];exact rfl⟩
  ·cases hw
 case kV z x=>
  split at hw
  ·rename_i q _ _ _ hx
   injection hw with hw;subst hw;simp at hn;subst hn
   exact pT.2 ⟨x,by simp[aH.args],by rw[hx];exact rfl⟩
  ·cases hw
 case fC sz ps=>
  injection hw with hw
  subst hw
  obtain⟨a,ha,hn⟩:=List.mem_flatMap.1 hn
  exact pT.2 ⟨a,ha,aj.zq.1 hn⟩
 case dZ f xs=>
  injection hw with hw
  subst hw
  obtain⟨a,ha,hn⟩:=List.mem_flatMap.1 hn
  exact pT.2 ⟨a,ha,aj.zq.1 hn⟩
 case append fl sz by_ x y=>
  injection hw with hw
  subst hw
  rcases List.mem_append.1 hn with hn|hn
  ·exact pT.2 ⟨x,by simp[aH.args],aj.zq.1 hn⟩
  ·exact pT.2 ⟨y,by simp[aH.args],aj.zq.1 hn⟩
def St.dh (σ:St):List (Nat×Option ao)->St
 |[]=>σ
 |(n,b)::l=>St.dh {σ with h:=av σ.h n b} l
def dC (h:Nat->Option ao):List (Nat×Option ao)->(Nat->Option ao)
 |[]=>h
 |(n,b)::l=>dC (av h n b) l
theorem lP:∀(l:List (Nat×Option ao)) (σ:St),σ.dh l={σ with h:=dC σ.h l}
 |[],σ=>rfl
 |(n,b)::l,σ=>by simp only[St.dh,dC];rw[lP l]
theorem od:∀{l:List (Nat×Option ao)} {h:Nat->Option ao} {n:Nat},(∀p∈l,p.1≠n)->dC h l n=h n
 |[],h,n,_=>rfl
 |(m,b)::l,h,n,hn=>by
  simp only[dC]
  rw[od fun p hp=>hn p (List.mem_cons_of_mem _ hp)]
  exact cz _ _ _ _ (fun e=>hn (m,b) (by simp) e.symm)
theorem apR (h:Nat->Option ao) (l l':List (Nat×Option ao)):dC h (l++l')=dC (dC h l) l':=by
 induction l generalizing h with
 |nil=>rfl
 |cons x l ih=>obtain⟨n,b⟩:=x;exact ih _
theorem C2 (σ:St) (l l':List (Nat×Option ao)):σ.dh (l++l')=(σ.dh l).dh l':=by
 simp only[lP,apR]
theorem Ge:∀{l:List (Nat×Option ao)} {h h':Nat->Option ao} {n:Nat},(∃p∈l,p.1=n)->dC h l n=dC h' l n
 |[],h,h',n,hn=>by obtain⟨p,hp,_⟩:=hn;cases hp
 |(m,b)::l,h,h',n,hn=>by
  simp only[dC]
  by_cases hl:∃p∈l,p.1=n
  ·exact Ge hl
  ·have cf:∀p∈l,p.1≠n:=fun p hp e=>hl ⟨p,hp,e⟩
   rw[od cf,od cf]
   obtain⟨p,hp,e⟩:=hn
   rcases List.mem_cons.1 hp with rfl|hp
   ·simp only at e;subst e;rw[bG,bG]
   ·exact absurd e (cf p hp)
theorem adM {u v:List (Nat×Option ao)} (hd:∀p∈u,∀q∈v,p.1≠q.1) (h:Nat->Option ao):dC (dC h u) v=dC (dC h v) u:=by
 funext n
 by_cases hu:∃p∈u,p.1=n
 ·obtain⟨p,hp,rfl⟩:=hu
  rw[od (l:=v) fun q hq e=>hd p hp q hq e.symm]
  exact Ge ⟨p,hp,rfl⟩
 ·rw[od (l:=u) (h:=dC h v) fun p hp e=>hu ⟨p,hp,e⟩]
  by_cases hv:∃q∈v,q.1=n
  ·exact Ge hv
  ·rw[od fun q hq e=>hv ⟨q,hq,e⟩,od fun p hp e=>hu ⟨p,hp,e⟩,od fun q hq e=>hv ⟨q,hq,e⟩]
theorem apT {u v:List (Nat×Option ao)} (hd:∀p∈u,∀q∈v,p.1≠q.1) (σ:St):(σ.dh u).dh v=(σ.dh v).dh u:=by
 simp only[lP,adM hd]
theorem adN (σ:St) (e:Nat->aj) (l:List (Nat×Option ao)):(σ.we e).dh l=(σ.dh l).we e:=by
 simp only[lP];rfl
theorem apS {l:List (Nat×Option ao)} {h:Nat->Option ao} {n:Nat} {b:Option ao} (hn:∀p∈l,p.1≠n):dC (av h n b) l=av (dC h l) n b:=by
 have:=adM (u:=l) (v:=[(n,b)]) (fun p hp q hq=>by simp at hq;subst hq;exact hn p hp) h
 exact this.symm
theorem aiF {σ σ1:St} {l:List (Nat×Option ao)} {n:Nat} {b:ao} (hl:∀p∈l,σ.used p.1=true) (h:σ.ins n b=some σ1):(σ.dh l).ins n b=some (σ1.dh l):=by
 obtain⟨u1,rfl⟩:=mE h
 unfold St.ins
 rw[lP,lP]
 rw[if_neg (show¬σ.used n=true by rw[u1];simp)]
 simp only
 rw[apS fun p hp e=>by rw[<-e,hl p hp] at u1;cases u1]
theorem EP:∀{A:List (Nat×ao)} {σ σ1:St} {l:List (Nat×Option ao)},(∀p∈l,σ.used p.1=true)->σ.cD A=some σ1->(σ.dh l).cD A=some (σ1.dh l)
 |[],σ,σ1,l,hl,h=>by
  simp only[St.cD] at h⊢
  injection h with h
  rw[h]
 |(n,b)::A,σ,σ1,l,hl,h=>by
  simp only[St.cD] at h⊢
  split at h
  ·rename_i jT e
   rw[aiF hl e]
   obtain⟨u1,rfl⟩:=mE e
   exact EP (fun p hp=>rE _ _ (hl p hp)) h
  ·cases h
theorem aak:∀{A:List (Nat×ao)} {σ σ':St},σ.used=σ'.used->(σ.cD A).isSome=true->(σ'.cD A).isSome=true
 |[],σ,σ',hu,h=>rfl
 |(n,b)::A,σ,σ',hu,h=>by
  simp only[St.cD,St.ins] at h⊢
  rw[<-hu]
  split at h
  ·rename_i jT e
   split at e
   ·cases e
   ·rename_i hn
    injection e with e
    subst e
    rw[if_neg hn]
    simp only
    exact aak (by rfl) h
  ·cases h
theorem Qa {A:List (Nat×ao)} {σ B:St} {l:List (Nat×Option ao)} (hl:∀p∈l,σ.used p.1=true) (h:(σ.dh l).cD A=some B):∃B',σ.cD A=some B'/\B=B'.dh l:=by
 have hs:(σ.cD A).isSome=true:=aak (A:=A) (σ:=σ.dh l) (σ':=σ) (by rw[lP]) (by rw[h];rfl)
 cases e:σ.cD A with
 |none=>rw[e] at hs;cases hs
 |some B'=>
  refine⟨B',rfl,?_⟩
  have:=EP hl e
  rw[h] at this
  injection this
abbrev Us:=List (Nat×Option ao)
def sH (h:Nat->Option ao):ah->Option (C×Bool×Us)
 |.c x=>some (x,x.eR,[])
 |.nil sz=>if 0<sz then some (.list sz [],true,[]) else none
 |.sl n sz lo len=>
  match h n with
  |some (.row _ m rs xs)=>if rs=sz/\lo=0/\len<=xs.length then some (.list sz (xs.take len),decide (m≠ .aF),[(n,none)]) else none
  |_=>none
 |_=>none
def jP (h:Nat->Option ao):List ah->Option (List C×Bool×Us)
 |[]=>some ([],true,[])
 |c::cs=>match sH h c with
  |some (x,o,u)=>match jP (dC h u) cs with
   |some (xs,o',u')=>some (x::xs,o&&o',u++u')
   |none=>none
  |none=>none
def o7 (sz:Nat) (h:Nat->Option ao):List aj->Option (List (List C)×Bool×Us)
 |[]=>some ([],true,[])
 |v::vs=>match v.cells? with
  |some (_,cs)=>if cs.length=sz then
   match jP h cs with
   |some (e,o,u)=>match o7 sz (dC h u) vs with
    |some (es,o',u')=>some (e::es,o&&o',u++u')
    |none=>none
   |none=>none
   else none
  |none=>none
theorem Gf (σ:St) (l:Us):(σ.dh l).h=dC σ.h l:=by rw[lP]
theorem apH (σ:St) (c:ah):σ.fQ c=(sH σ.h c).map fun x=>(x.1,x.2.1,σ.dh x.2.2):=by
 cases c with
 |sl n sz lo len=>
  simp only[St.fQ,sH]
  cases σ.h n with
  |none=>rfl
  |some b=>cases b with
   |box cs=>rfl
   |row gr m rs xs=>simp only;split<;>rfl
 |nil sz=>simp only[St.fQ,sH];split<;>rfl
 |_=>rfl
theorem Lm:∀(cs:List ah) (σ:St),σ.fv cs=(jP σ.h cs).map fun x=>(x.1,x.2.1,σ.dh x.2.2)
 |[],σ=>rfl
 |c::cs,σ=>by
  simp only[St.fv,jP,apH]
  cases sH σ.h c with
  |none=>rfl
  |some x=>
   obtain⟨x,o,u⟩:=x
   simp only[Option.map_some,Lm cs,Gf]
   cases jP (dC σ.h u) cs with
   |none=>rfl
   |some y=>obtain⟨xs,o',u'⟩:=y;simp only[Option.map_some,C2]
theorem adB (sz:Nat):∀(vs:List aj) (σ:St),σ.lM sz vs=(o7 sz σ.h vs).map fun x=>(x.1,x.2.1,σ.dh x.2.2)
 |[],σ=>rfl
 |v::vs,σ=>by
  simp only[St.lM,o7]
  cases v.cells? with
  |none=>rfl
  |some x=>
   obtain⟨b,cs⟩:=x
   simp only
   split
   ·rw[Lm]
    cases jP σ.h cs with
    |none=>rfl
    |some y=>
     obtain⟨e,o,u⟩:=y
     simp only[Option.map_some,adB sz vs,Gf]
     cases o7 sz (dC σ.h u) vs with
     |none=>rfl
     |some y=>obtain⟨es,o',u'⟩:=y;simp only[Option.map_some,C2]
   ·rfl
theorem apF {h:Nat->Option ao} {c:ah} {x:C} {o:Bool} {u:Us} (e:sH h c=some (x,o,u)):∀q∈u,q.1∈c.nm:=by
 unfold sH at e
 split at e
 ·injection e with e;injection e with _ e;injection e with _ e;subst e;intro q hq;cases hq
 ·split at e
  ·injection e with e;injection e with _ e;injection e with _ e;subst e;intro q hq;cases hq
  ·cases e
 ·split at e
  ·split at e
   ·injection e with e;injection e with _ e;injection e with _ e;subst e;intro q hq;simp at hq;subst hq;simp[ah.nm,ah.sA]
   ·cases e
  ·cases e
 ·cases e
theorem Ll:∀{cs:List ah} {h:Nat->Option ao} {xs:List C} {o:Bool} {u:Us},jP h cs=some (xs,o,u)->∀q∈u,q.1∈cs.flatMap ah.nm
 |[],h,xs,o,u,e=>by
  simp only[jP] at e
  injection e with e;injection e with _ e;injection e with _ e;subst e;intro q hq;cases hq
 |c::cs,h,xs,o,u,e=>by
  simp only[jP] at e
  split at e
  ·rename_i x o1 u1 e1
   split at e
   ·rename_i iw o2 u2 e2
    injection e with e;injection e with _ e;injection e with _ e;subst e
    intro q hq
    rw[List.flatMap_cons]
    rcases List.mem_append.1 hq with hq|hq
    ·exact List.mem_append.2 (.inl (apF e1 q hq))
    ·exact List.mem_append.2 (.inr (Ll e2 q hq))
   ·cases e
  ·cases e
theorem AR {v:aj} {b:Bool} {cs:List ah} (h:v.cells?=some (b,cs)):cs.flatMap ah.nm=v.gD:=by
 cases v with
 |one c=>cases c<;>simp[aj.cells?] at h<;>(obtain⟨_,rfl⟩:=h;simp[aj.gD])
 |agg cs'=>simp[aj.cells?] at h;obtain⟨_,rfl⟩:=h;rfl
 |bq xs=>simp[aj.cells?] at h
theorem adA {sz:Nat}:∀{vs:List aj} {h:Nat->Option ao} {xs:List (List C)} {o:Bool} {u:Us},o7 sz h vs=some (xs,o,u)->∀q∈u,q.1∈vs.flatMap aj.gD
 |[],h,xs,o,u,e=>by
  simp only[o7] at e
  injection e with e;injection e with _ e;injection e with _ e;subst e;intro q hq;cases hq
 |v::vs,h,xs,o,u,e=>by
  simp only[o7] at e
  split at e
  ·rename_i b cs hv
   split at e
   ·split at e
    ·rename_i x o1 u1 e1
     split at e
     ·rename_i iw o2 u2 e2
      injection e with e;injection e with _ e;injection e with _ e;subst e
      intro q hq
      rw[List.flatMap_cons]
      rcases List.mem_append.1 hq with hq|hq
      ·exact List.mem_append.2 (.inl (AR hv▸Ll e1 q hq))
      ·exact List.mem_append.2 (.inr (adA e2 q hq))
     ·cases e
    ·cases e
   ·cases e
  ·cases e
theorem Gd {h h':Nat->Option ao} {n:Nat} (hh:h' n=h n) (u:Us):dC h' u n=dC h u n:=by
 by_cases hu:∃p∈u,p.1=n
 ·exact Ge hu
 ·rw[od fun p hp e=>hu ⟨p,hp,e⟩,od fun p hp e=>hu ⟨p,hp,e⟩,hh]
theorem apE {h h':Nat->Option ao} {c:ah} (hh:∀n∈c.nm,h' n=h n):sH h' c=sH h c:=by
 cases c with
 |sl n sz lo len=>simp only[sH];rw[hh n (by simp[ah.nm,ah.sA])]
 |_=>rfl
theorem Lk:∀{cs:List ah} {h h':Nat->Option ao},(∀n∈cs.flatMap ah.nm,h' n=h n)->jP h' cs=jP h cs
 |[],h,h',_=>rfl
 |c::cs,h,h',hh=>by
  simp only[jP]
  rw[apE fun n hn=>hh n (by rw[List.flatMap_cons];exact List.mem_append.2 (.inl hn))]
  cases sH h c with
  |none=>rfl
  |some x=>
   obtain⟨x,o,u⟩:=x
   simp only
   rw[Lk (cs:=cs) (h:=dC h u) (h':=dC h' u) fun n hn=>Gd (hh n (by rw[List.flatMap_cons];exact List.mem_append.2 (.inr hn))) u]
theorem adz {sz:Nat}:∀{vs:List aj} {h h':Nat->Option ao},(∀n∈vs.flatMap aj.gD,h' n=h n)->o7 sz h' vs=o7 sz h vs
 |[],h,h',_=>rfl
 |v::vs,h,h',hh=>by
  simp only[o7]
  cases hv:v.cells? with
  |none=>rfl
  |some x=>
   obtain⟨b,cs⟩:=x
   simp only
   rw[Lk (cs:=cs) fun n hn=>hh n (by rw[List.flatMap_cons];exact List.mem_append.2 (.inl (AR hv▸hn)))]
   cases jP h cs with
   |none=>rfl
   |some y=>
    obtain⟨e,o,u⟩:=y
    simp only
    rw[adz (vs:=vs) (h:=dC h u) (h':=dC h' u) fun n hn=>Gd (hh n (by rw[List.flatMap_cons];exact List.mem_append.2 (.inr hn))) u]
def xq (h:Nat->Option ao) (n:Nat) (gr:Bool) (m:Mode) (rs:Nat) (xs:List (List C)) (k off:Nat) (e:List C) (vs:List ah):Option Us:=
 match sub e off vs.length with
 |none=>none
 |some fu=>match jP h vs with
  |none=>none
  |some (cs,o,u)=>
   if m=.live then
    if fA cs=true/\fA fu=true/\(dC h u n).isSome=true then some (u++[(n,some (.row gr m rs (xs.set k (cu e off cs))))]) else none
   else if(dC h u n).isSome=true then some (u++[(n,some (.row gr (if o=true then m else .aF) rs (xs.set k (cu e off cs))))])
   else none
theorem apq (σ:St) (n:Nat) (gr:Bool) (m:Mode) (rs:Nat) (xs:List (List C)) (k off:Nat) (e:List C) (vs:List ah):
  nw σ n gr m rs xs k off e vs=(xq σ.h n gr m rs xs k off e vs).map fun u=>σ.dh u:=by
 unfold nw xq
 cases sub e off vs.length with
 |none=>rfl
 |some fu=>
  simp only[Lm]
  cases jP σ.h vs with
  |none=>rfl
  |some x=>
   obtain⟨cs,o,u⟩:=x
   simp only[Option.map_some,Gf]
   repeat' split
   all_goals first|rfl|(simp only[Option.map_some,C2];rfl)
def vO (h:Nat->Option ao) (sz:Nat):aj->Option (List (List C)×Mode×List (Nat×Option ao))
 |.one (.nil _)=>some ([],.ab,[])
 |.one (.sl a s 0 len)=>match h a with
  |some (.row true m rs xs)=>if rs=sz/\s=sz/\len=xs.length then some (xs,m,[(a,none)]) else none
  |_=>none
 |_=>none
def tV (fl:Bool) (h:Nat->Option ao) (sz:Nat) (m:Mode):aj->Option (List (List C)×Mode×List (Nat×Option ao))
  |.one (.nil _)=>some ([],m,[])
  |.one (.c (.list s ys))=>if s=sz then(if(fl&&ga ys)=true then some (ys,m,[]) else if m=.live then none else some (ys,.aF,[])) else none
  |.one (.sl b s lo len)=>match h b with
   |some (.row _ m' rs ys)=>if rs=sz/\s=sz/\lo+len<=ys.length then
       (if(fl&&ga ((ys.drop lo).take len))=true then some ((ys.drop lo).take len,m,[])
        else if lo=0/\len=ys.length then(if m=m' then some (ys,m,[(b,none)]) else if m=.live\/m'=.live then none else some (ys,.aF,[(b,none)])) else none)
    else none
   |_=>none
  |_=>none
theorem aei (σ:St) (sz:Nat) (v:aj):qu σ sz v=(vO σ.h sz v).map fun x=>(x.1,x.2.1,σ.dh x.2.2):=by
 cases v with
 |one v=>cases v with
  |sl a s lo len=>cases lo with
   |zero=>
    simp only[qu,vO]
    cases σ.h a with
    |none=>rfl
    |some b=>cases b with
     |box cs=>rfl
     |row gr m rs xs=>cases gr with
      |true=>simp only;split<;>rfl
      |false=>rfl
   |succ lo=>rfl
  |_=>rfl
 |_=>rfl
theorem aek (fl:Bool) (σ:St) (sz:Nat) (m:Mode) (v:aj):lV fl σ sz m v=(tV fl σ.h sz m v).map fun x=>(x.1,x.2.1,σ.dh x.2.2):=by
 cases v with
 |one v=>cases v with
  |sl b s lo len=>
   simp only[lV,tV]
   cases σ.h b with
   |none=>rfl
   |some b=>cases b with
    |box cs=>rfl
    |row gr m rs xs=>
     simp only
     repeat' split
     all_goals rfl
  |c x=>cases x with
   |list s ys=>
    simp only[lV,tV]
    repeat' split
    all_goals rfl
   |_=>rfl
  |_=>rfl
 |_=>rfl
def lW (h:Nat->Option ao):List aj->Option (List Dv×List Nat×Us)
 |[]=>some ([],[],[])
 |v::vs=>match lY h v with
  |some (n,xs)=>match lW h vs with
   |some (ds,ns,u)=>some ((.ptr,xs)::ds,n::ns,u)
   |none=>none
  |none=>match v.cells? with
   |some (ag,cs)=>match jP h cs with
    |some (xs,_,u)=>match lW (dC h u) vs with
     |some (ds,ns,u')=>some ((if ag=true then .agg else .one,xs)::ds,ns,u++u')
     |none=>none
    |none=>none
   |none=>none
theorem MJ:∀(vs:List aj) (σ:St),σ.g0 vs=(lW σ.h vs).map fun x=>(x.1,x.2.1,σ.dh x.2.2)
 |[],σ=>rfl
 |v::vs,σ=>by
  simp only[St.g0,lW]
  cases lY σ.h v with
  |some x=>
   obtain⟨n,xs⟩:=x
   simp only[MJ vs σ]
   cases lW σ.h vs<;>rfl
  |none=>
   simp only
   cases v.cells? with
   |none=>rfl
   |some x=>
    obtain⟨ag,cs⟩:=x
    simp only
    rw[Lm]
    cases jP σ.h cs with
    |none=>rfl
    |some y=>
     obtain⟨e,o,u⟩:=y
     simp only[Option.map_some,MJ vs,Gf]
     cases lW (dC σ.h u) vs with
     |none=>rfl
     |some y=>obtain⟨ds,ns,u'⟩:=y;simp only[Option.map_some,C2]
theorem aey {h:Nat->Option ao} {v:aj} {n:Nat} {xs:List C} (e:lY h v=some (n,xs)):n∈v.gD:=by
 obtain⟨sz,cs,rfl,_⟩:=ML e
 simp[aj.gD,ah.nm,ah.sA]
theorem Ig:∀{vs:List aj} {h:Nat->Option ao} {ds:List Dv} {ns:List Nat} {u:Us},lW h vs=some (ds,ns,u)->(∀q∈u,q.1∈vs.flatMap aj.gD)/\∀n∈ns,n∈vs.flatMap aj.gD
 |[],h,ds,ns,u,e=>by
  simp only[lW] at e
  injection e with e;injection e with _ e;injection e with e1 e;subst e e1;exact⟨fun q hq=>(by cases hq),fun q hq=>(by cases hq)⟩
 |v::vs,h,ds,ns,u,e=>by
  simp only[lW] at e
  split at e
  ·rename_i n xs hp
   split at e
   ·rename_i ue ki u' e2
    injection e with e;injection e with _ e;injection e with e1 e;subst e e1
    obtain⟨i1,i2⟩:=Ig e2
    rw[List.flatMap_cons]
    refine⟨fun q hq=>List.mem_append.2 (.inr (i1 q hq)),fun m hm=>?_⟩
    rcases List.mem_cons.1 hm with rfl|hm
    ·exact List.mem_append.2 (.inl (aey hp))
    ·exact List.mem_append.2 (.inr (i2 m hm))
   ·cases e
  ·split at e
   ·rename_i b cs hv
    split at e
    ·rename_i x o1 u1 e1
     split at e
     ·rename_i ds2 ns2 u2 e2
      injection e with e;injection e with _ e;injection e with e3 e;subst e e3
      obtain⟨i1,i2⟩:=Ig e2
      rw[List.flatMap_cons]
      refine⟨fun q hq=>?_,fun m hm=>List.mem_append.2 (.inr (i2 m hm))⟩
      rcases List.mem_append.1 hq with hq|hq
      ·exact List.mem_append.2 (.inl (AR hv▸Ll e1 q hq))
      ·exact List.mem_append.2 (.inr (i1 q hq))
     ·cases e
    ·cases e
   ·cases e
theorem aex {h h':Nat->Option ao} {v:aj} (hh:∀n∈v.gD,h' n=h n):lY h' v=lY h v:=by
 cases v with
 |one c=>cases c with
  |ptr n k sz off=>simp only[lY];rw[hh n (by simp[aj.gD,ah.nm,ah.sA])]
  |_=>rfl
 |_=>rfl
theorem MH:∀{vs:List aj} {h h':Nat->Option ao},(∀n∈vs.flatMap aj.gD,h' n=h n)->lW h' vs=lW h vs
 |[],h,h',_=>rfl
 |v::vs,h,h',hh=>by
  have h1:∀n∈v.gD,h' n=h n:=fun n hn=>hh n (by rw[List.flatMap_cons];exact List.mem_append.2 (.inl hn))
  have h2:∀n∈vs.flatMap aj.gD,h' n=h n:=fun n hn=>hh n (by rw[List.flatMap_cons];exact List.mem_append.2 (.inr hn))
  simp only[lW]
  rw[aex h1]
  cases lY h v with
  |some x=>
   obtain⟨n,xs⟩:=x
   simp only
   rw[MH h2]
  |none=>
   simp only
   cases hv:v.cells? with
   |none=>rfl
   |some x=>
    obtain⟨b,cs⟩:=x
    simp only
    rw[Lk (cs:=cs) fun n hn=>h1 n (AR hv▸hn)]
    cases jP h cs with
    |none=>rfl
    |some y=>
     obtain⟨e,o,u⟩:=y
     simp only
     rw[MH (vs:=vs) (h:=dC h u) (h':=dC h' u) fun n hn=>Gd (h2 n hn) u]
def vc (h:Nat->Option ao):List Nat->List C->Option Us
 |[],[]=>some []
 |[n],out=>match h n with
  |some (.box cs)=>if cs.length=out.length then some [(n,some (.box (out.map .c)))] else none
  |_=>none
 |_,_=>none
theorem anG (σ:St) (ns:List Nat) (out:List C):σ.rf ns out=(vc σ.h ns out).map σ.dh:=by
 match ns,out with
 |[],[]=>rfl
 |[],_::_=>rfl
 |[n],out=>
  simp only[St.rf,vc]
  cases σ.h n with
  |none=>rfl
  |some b=>
   cases b with
   |box cs=>simp only;split<;>rfl
   |row gr m rs xs=>rfl
 |_::_::_,out=>rfl
theorem anF {h:Nat->Option ao} {ns:List Nat} {out:List C} {u:Us} (e:vc h ns out=some u):∀q∈u,q.1∈ns:=by
 unfold vc at e
 split at e
 ·injection e with e;subst e;intro q hq;cases hq
 ·split at e
  ·split at e
   ·injection e with e;subst e;intro q hq;simp at hq;subst hq;simp
   ·cases e
  ·cases e
 ·cases e
theorem anE {h h':Nat->Option ao} {ns:List Nat} {out:List C} (hh:∀n∈ns,h' n=h n):vc h' ns out=vc h ns out:=by
 match ns,out with
 |[],[]=>rfl
 |[],_::_=>rfl
 |[n],out=>simp only[vc];rw[hh n (by simp)]
 |_::_::_,out=>rfl
def AD (d:Option Nat):List Dv->Option (aj×List (Nat×ao))
 |[(.ptr,cs)]=>match d with
  |some q=>some (.one (.ptr q 0 0 0),[(q,.box (cs.map .c))])
  |none=>none
 |rs=>match gH rs with
  |some ls=>some (lH ls,[])
  |none=>none
theorem aez (σ:St) (d:Option Nat) (rs:List Dv):qv σ d rs=(AD d rs).bind fun x=>(σ.cD x.2).map (·.put d x.1):=by
 unfold qv
 split
 ·cases d with
  |none=>rfl
  |some q=>
   simp only[AD,Option.bind_some,St.cD]
   cases σ.ins q _<;>rfl
 ·rename_i aC
  have e:AD d rs=match gH rs with
    |some ls=>some (lH ls,[])
    |none=>none:=by
   unfold AD
   split
   ·exact absurd rfl (aC _)
   ·rfl
  rw[e]
  cases gH rs with
  |none=>rfl
  |some ls=>rfl
abbrev Mv:=aj×List (Nat×Option ao)×List (Nat×ao)
def e7 (T:aO) (d:Option Nat) (op:aH) (ev:MO->aj) (h:Nat->Option ao):Option Mv:=
 match op with
 |.store sz x v=>match ev x,(ev v).cells? with
  |.one (.ptr n k aA off),some (_,vs)=>if vs.length=sz then
   match h n with
   |some (.box cs)=>if k=0/\off+sz<=cs.length then some (.one .bn,[(n,some (.box (cu cs off vs)))],[]) else none
   |some (.row gr m rs xs)=>if aA=rs then
    match xs[k]? with
    |some e=>match xq h n gr m rs xs k off e vs with
     |some u=>some (.one .bn,u,[])
     |none=>none
    |none=>none
    else none
   |none=>none
   else none
  |.one (.cV n k aA off s i),some (_,vs)=>if vs.length=sz then
   match h n with
   |some (.row gr .live rs xs)=>if aA=rs then
    match vk xs k off s i vs with
    |some aq=>some (.one .bn,[(n,some (.row gr .live rs aq))],[])
    |none=>none
    else none
   |_=>none
   else none
  |_,_=>none
 |.fC sz ps=>match d,o7 sz h (ps.map ev) with
  |some n,some (es,o,u)=>some (.one (.sl n sz 0 es.length),u,[(n,.row true (if o=true then .ab else .aF) sz es)])
  |_,_=>none
 |.append fl sz by_ x y=>match d with
  |none=>none
  |some n=>match vO h sz (ev x) with
   |none=>none
   |some (xs,m,u1)=>match tV fl (dC h u1) sz m (ev y) with
    |none=>none
    |some (ys,m2,u2)=>if(xs.length+ys.length)*by_<=dK then some (.one (.sl n sz 0 (xs.length+ys.length)),u1++u2,[(n,.row true m2 sz (xs++ys))]) else none
 |.dZ f xs=>match lW h (xs.map ev),aO.kw T.vs f with
  |some (ds,ns,u),some M=>match M ds with
   |some (rs,out)=>match vc (dC h u) ns out,AD d rs with
    |some u',some (v,is)=>some (v,u++u',is)
    |_,_=>none
   |none=>none
  |_,_=>none
 |.copy sz x y=>match ev x,ev y with
  |.one (.sl n s lo len),.one c=>match h n,cq h c with
   |some (.row gr m rs xs),some (.list s' ys)=>if sz=1/\s=1/\rs=1/\s'=1/\m≠ .aF/\ga xs=true/\ga ys=true/\lo+len<=xs.length then
    some (.one (.c (.int .i64 (Nat.min ys.length len:Nat))),[(n,some (.row gr m 1 (cu xs lo (ys.take len))))],[]) else none
   |_,_=>none
  |_,_=>none
 |.kV z x=>match ev x with
  |.one (.sl n s lo len)=>match h n with
   |some (.row gr m rs xs)=>if s=1/\rs=1/\z.eR=true/\m≠ .aF/\ga xs=true/\lo+len<=xs.length then
    some (.bq [],[(n,some (.row gr m 1 (cu xs lo (List.replicate len [z]))))],[]) else none
   |_=>none
  |_=>none
 |op=>(rd T d op ev h).map fun x=>(x.1,[],x.2)
def v8 (d:Option Nat) (σ:St) (p:Mv):Option St:=((σ.dh p.2.1).cD p.2.2).map (·.put d p.1)
theorem I2 {T:aO} {d:Option Nat} {op:aH} {σ:St} {ws:List Nat} (hw:op.kq σ.ev σ.h=some ws) (hd:∀sz x v,op=.store sz x v->d=none):
  exec T d op σ=(e7 T d op σ.ev σ.h).bind (v8 d σ):=by
 by_cases hc:op.dI<=1
 ·rw[pu T d op σ hc]
  have:e7 T d op σ.ev σ.h=(rd T d op σ.ev σ.h).map fun x=>(x.1,[],x.2):=by
   cases op<;>first|rfl|(simp[aH.dI] at hc)
  rw[this]
  cases rd T d op σ.ev σ.h with
  |none=>rfl
  |some x=>rfl
 ·cases op<;>simp[aH.dI] at hc<;>simp only[aH.kq] at hw
  case gb=>cases hw
  case copy sz x y=>
   simp only[exec,e7]
   cases σ.ev x with
   |one p=>cases p with
    |sl n s lo len=>
     cases σ.ev y with
     |one c=>
      simp only
      cases σ.h n with
      |none=>rfl
      |some b=>cases b with
       |box cs=>rfl
       |row gr m rs xs=>
        cases cq σ.h c with
        |none=>rfl
        |some q=>cases q with
         |list s' ys=>
          simp only
          split<;>rfl
         |_=>rfl
     |_=>rfl
    |_=>rfl
   |_=>rfl
  case kV z x=>
   simp only[exec,e7]
   cases σ.ev x with
   |one p=>cases p with
    |sl n s lo len=>
     simp only
     cases σ.h n with
     |none=>rfl
     |some b=>cases b with
      |box cs=>rfl
      |row gr m rs xs=>
       simp only
       split<;>rfl
    |_=>rfl
   |_=>rfl
  case tail=>cases hw
  case nh=>cases hw
  case dZ f xs=>
   simp only[exec,e7,qC,MJ]
   cases lW σ.h (xs.map σ.ev) with
   |none=>rfl
   |some x=>
    obtain⟨ds,ns,u⟩:=x
    simp only[Option.map_some]
    cases aO.kw T.vs f with
    |none=>rfl
    |some M=>
     simp only
     cases M ds with
     |none=>rfl
     |some z=>
      obtain⟨rs,out⟩:=z
      simp only[anG,Gf]
      cases vc (dC σ.h u) ns out with
      |none=>rfl
      |some u'=>
       simp only[Option.map_some,aez]
       cases AD d rs with
       |none=>rfl
       |some z=>
        obtain⟨v,is⟩:=z
        simp only[Option.bind_some,v8,C2]
  case fC sz ps=>
   simp only[exec,e7]
   rw[adB]
   cases d with
   |none=>rfl
   |some n=>
    cases o7 sz σ.h (ps.map σ.ev) with
    |none=>rfl
    |some x=>
     obtain⟨es,o,u⟩:=x
     simp only[Option.map_some,Option.bind_some,v8,St.cD]
     cases (σ.dh u).ins n (.row true (if o=true then .ab else .aF) sz es)<;>rfl
  case append fl sz by_ x y=>
   simp only[exec,e7,aei]
   cases d with
   |none=>rfl
   |some n=>
    simp only
    cases vO σ.h sz (σ.ev x) with
    |none=>rfl
    |some z=>
     obtain⟨xs,m,u1⟩:=z
     simp only[Option.map_some,aek]
     have hh:(σ.dh u1).h=dC σ.h u1:=by rw[lP]
     rw[hh]
     cases tV fl (dC σ.h u1) sz m (σ.ev y) with
     |none=>rfl
     |some z=>
      obtain⟨ys,m2,u2⟩:=z
      simp only[Option.map_some]
      split
      ·simp only[Option.bind_some,v8,C2,St.cD]
       cases ((σ.dh u1).dh u2).ins n (.row true m2 sz (xs++ys))<;>rfl
      ·rfl
  case store sz x v=>
   have hd:=hd sz x v rfl
   subst hd
   simp only[exec,e7]
   split at hw
   ·rename_i n k aA off hx
    simp only[hx]
    cases hv:(σ.ev v).cells? with
    |none=>rfl
    |some y=>
     obtain⟨ag,vs⟩:=y
     simp only
     split
     ·split at hw
      ·rename_i cs hn
       simp only[hn]
       split
       ·rfl
       ·rfl
      ·rename_i gr m rs xs hn
       simp only[hn]
       split
       ·cases xs[k]? with
        |none=>rfl
        |some e=>
         simp only
         rw[apq]
         cases xq σ.h n gr m rs xs k off e vs with
         |none=>rfl
         |some b=>rfl
       ·rfl
      ·cases hw
     ·rfl
   ·rename_i n k aA off s i hx
    simp only[hx]
    cases hv:(σ.ev v).cells? with
    |none=>rfl
    |some y=>
     obtain⟨ag,vs⟩:=y
     simp only
     split
     ·cases σ.h n with
      |none=>rfl
      |some b=>cases b with
       |box cs=>rfl
       |row gr m rs xs=>cases m with
        |live=>
         simp only
         split
         ·cases vk xs k off s i vs<;>rfl
         ·rfl
        |_=>rfl
     ·rfl
   ·cases hw
theorem WH {T:aO} {d:Option Nat} {op:aH} {ev:MO->aj} {h:Nat->Option ao} {ws:List Nat} {p:Mv} (hw:op.kq ev h=some ws) (ha:e7 T d op ev h=some p):∀q∈p.2.1,q.1∈ws:=by
 by_cases hc:op.dI<=1
 ·have:e7 T d op ev h=(rd T d op ev h).map fun x=>(x.1,[],x.2):=by
   cases op<;>first|rfl|(simp[aH.dI] at hc)
  rw[this,Option.map_eq_some_iff] at ha
  obtain⟨x,_,rfl⟩:=ha
  intro q hq
  cases hq
 ·cases op<;>simp[aH.dI] at hc<;>simp only[aH.kq] at hw
  case gb=>cases hw
  case copy sz x y=>
   simp only[e7] at ha
   split at ha
   ·rename_i n s lo len c hx hy
    simp only[hx] at hw
    injection hw with hw
    subst hw
    repeat' split at ha
    all_goals first|cases ha|skip
    intro q hq
    simp at hq
    subst hq
    simp
   ·cases ha
  case kV z x=>
   simp only[e7] at ha
   split at ha
   ·rename_i n s lo len hx
    simp only[hx] at hw
    injection hw with hw
    subst hw
    repeat' split at ha
    all_goals first|cases ha|skip
    intro q hq
    simp at hq
    subst hq
    simp
   ·cases ha
  case tail=>cases hw
  case nh=>cases hw
  case dZ f xs=>
   injection hw with hw
   subst hw
   simp only[e7] at ha
   split at ha
   ·rename_i ds ns u M e1 e2
    split at ha
    ·rename_i rs out e3
     split at ha
     ·rename_i u' v is e4 e5
      injection ha with ha;subst ha
      obtain⟨i1,i2⟩:=Ig e1
      intro q hq
      rw[List.flatMap_map] at i1 i2
      rcases List.mem_append.1 hq with hq|hq
      ·exact i1 q hq
      ·exact i2 _ (anF e4 q hq)
     ·cases ha
    ·cases ha
   ·cases ha
  case fC sz ps=>
   injection hw with hw
   subst hw
   simp only[e7] at ha
   split at ha
   ·rename_i n es o u e
    injection ha with ha;subst ha
    intro q hq
    have:=adA e q hq
    rw[List.flatMap_map] at this
    exact this
   ·cases ha
  case append fl sz by_ x y=>
   injection hw with hw
   subst hw
   simp only[e7] at ha
   split at ha
   ·cases ha
   ·split at ha
    ·cases ha
    ·rename_i xs m u1 e1
     split at ha
     ·cases ha
     ·rename_i ys m2 u2 e2
      split at ha
      ·injection ha with ha
       subst ha
       intro q hq
       rcases List.mem_append.1 hq with uK|uK
       ·clear hq
        refine List.mem_append.2 (.inl ?_)
        unfold vO at e1
        split at e1
        ·injection e1 with e1;injection e1 with _ e1;injection e1 with _ e1;subst e1;cases uK
        ·rename_i a s len hv
         split at e1
         ·split at e1
          ·injection e1 with e1;injection e1 with _ e1;injection e1 with _ e1;subst e1
           simp at uK;subst uK;simp[aj.gD,ah.nm,ah.sA,hv]
          ·cases e1
         ·cases e1
        ·cases e1
       ·clear hq
        refine List.mem_append.2 (.inr ?_)
        have Bp:∀(b:Nat),u2=[]\/u2=[(b,none)]->b∈(ev y).gD->q.1∈(ev y).gD:=by
         intro b hb hm
         rcases hb with hb|hb
         ·subst hb;cases uK
         ·subst hb;simp at uK;subst uK;exact hm
        unfold tV at e2
        split at e2
        ·injection e2 with e2;injection e2 with _ e2;injection e2 with _ e2;subst e2;cases uK
        ·repeat' split at e2
         all_goals first|cases e2|skip
         all_goals (cases uK)
        ·rename_i b s lo len hv
         have hm:b∈(ev y).gD:=by simp[hv,aj.gD,ah.nm,ah.sA]
         refine Bp b ?_ hm
         repeat' split at e2
         all_goals first|cases e2|skip
         all_goals first|exact .inl rfl|exact .inr rfl
        ·cases e2
      ·cases ha
  case store sz x v=>
   simp only[e7] at ha
   split at ha
   ·rename_i n k aA off b vs hx hv
    simp only[hx] at hw
    split at ha
    ·split at ha
     ·rename_i cs hn
      simp only[hn] at hw
      split at ha
      ·injection ha with ha;subst ha;injection hw with hw;subst hw
       intro q hq;simp at hq;subst hq;simp
      ·cases ha
     ·rename_i gr m rs xs hn
      simp only[hn] at hw
      injection hw with hw
      subst hw
      split at ha
      ·split at ha
       ·split at ha
        ·rename_i u e0
         injection ha with ha;subst ha
         intro q hq
         have hq:q∈u:=hq
         have two:∀(u1:Us) (bb:Option ao),u=u1++[(n,bb)]->(∀q∈u1,q.1∈vs.flatMap ah.nm)->q.1∈n::(ev v).gD:=by
          intro u1 bb he BL
          rw[he] at hq
          rcases List.mem_append.1 hq with hq|hq
          ·exact List.mem_cons_of_mem _ (AR hv▸BL q hq)
          ·simp at hq;subst hq;simp
         unfold xq at e0
         split at e0
         ·cases e0
         ·split at e0
          ·cases e0
          ·rename_i cs o u1 e1
           have BL:=Ll e1
           repeat' split at e0
           all_goals first|(injection e0 with e0;exact two _ _ e0.symm BL)|cases e0
        ·cases ha
       ·cases ha
      ·cases ha
     ·cases ha
    ·cases ha
   ·rename_i n k aA off s i b vs hx hv
    simp only[hx] at hw
    injection hw with hw
    subst hw
    repeat' split at ha
    all_goals first|cases ha|skip
    intro q hq
    simp at hq
    subst hq
    simp
   ·cases ha
section
variable {T:aO} {d:Option Nat} {op:aH} {ev ev':MO->aj} {h h':Nat->Option ao}
theorem Fa (br:∀x∈op.args,ev' x=ev x):op.iT ev'=op.iT ev:=by
 unfold aH.iT
 generalize op.args=l at br
 induction l with
 |nil=>rfl
 |cons x l ih=>simp only[List.flatMap_cons];rw[br x (by simp),ih fun y hy=>br y (List.mem_cons_of_mem _ hy)]
theorem W8:∀{l:List Nat} (_:∀n∈l,h' n=h n),AK h' l=AK h l
 |[],_=>rfl
 |n::l,hh=>by
  have:=W8 (l:=l) fun m hm=>hh m (List.mem_cons_of_mem _ hm)
  simp only[AK,List.flatMap_cons] at this⊢
  rw[hh n (by simp),this]
theorem Sq (br:∀x∈op.args,ev' x=ev x) (hh:∀n∈op.iT ev,h' n=h n):op.mJ ev' h'=op.mJ ev h:=by
 unfold aH.mJ
 rw[Fa br,W8 hh]
theorem LA (br:∀x∈op.args,ev' x=ev x) (hh:∀n∈op.iT ev,h' n=h n):op.kq ev' h'=op.kq ev h:=by
 cases op<;>first|rfl|skip
 case store sz x v=>
  have h1:=br x (by simp[aH.args])
  have h2:=br v (by simp[aH.args])
  simp only[aH.kq,h1,h2]
  cases hv:ev x with
  |one p=>cases p with
   |ptr n k aA off=>simp only;rw[hh n (pT.2 ⟨x,by simp[aH.args],by rw[hv];exact rfl⟩)]
   |_=>rfl
  |_=>rfl
 case copy sz x y=>
  simp only[aH.kq,br x (by simp[aH.args])]
 case kV z x=>
  simp only[aH.kq,br x (by simp[aH.args])]
 case dZ f xs=>
  have:=Fa (op:=.dZ f xs) br
  simp only[aH.iT,aH.args] at this
  simp only[aH.kq,this]
 case fC sz ps=>
  have:=Fa (op:=.fC sz ps) br
  simp only[aH.iT,aH.args] at this
  simp only[aH.kq,this]
 case append fl sz by_ x y=>
  simp only[aH.kq,br x (by simp[aH.args]),br y (by simp[aH.args])]
theorem WG (br:∀x∈op.args,ev' x=ev x) (hh:∀n∈op.mJ ev h,h' n=h n):e7 T d op ev' h'=e7 T d op ev h:=by
 have Jw:∀n∈op.iT ev,h' n=h n:=fun n hn=>hh n (Kq hn)
 have hn:∀a∈op.args,∀n,(ev a).ref n->h' n=h n:=fun a ha n hr=>Jw n (pT.2 ⟨a,ha,hr⟩)
 have gen:rd T d op ev' h'=rd T d op ev h:=by
  rw[Cx T d op _ br]
  refine abV (u:=fun n=>h' n=h n) (vv:=fun n=>n∈op.iT ev) T d op ev (fun n hn=>hn) (fun hc m cs c n hm hb eB hr=>?_) (fun x hx m hm=>hn x hx m hm) (fun x hx m hm=>pT.2 ⟨x,hx,hm⟩)
  refine hh n ?_
  unfold aH.mJ
  rw[hc]
  refine List.mem_append.2 (.inr ?_)
  unfold AK
  rw[List.mem_flatMap]
  exact⟨m,hm,by rw[hb];exact List.mem_flatMap.2 ⟨c,eB,ah.Fb.2 hr⟩⟩
 cases op<;>first|(simp only[e7];rw[gen];done)|skip
 case store sz x v=>
  have h1:=br x (by simp[aH.args])
  have h2:=br v (by simp[aH.args])
  simp only[e7,h1,h2]
  have h3:=hn x (by simp[aH.args])
  cases hv:ev x with
  |one p=>cases p with
   |ptr n k aA off=>
    rw[hv] at h3
    have h3:=h3 n rfl
    have h5:=hn v (by simp[aH.args])
    cases hc:(ev v).cells? with
    |none=>rfl
    |some y=>
     obtain⟨b,vs⟩:=y
     have h6:∀gr m rs xs e,xq h' n gr m rs xs k off e vs=xq h n gr m rs xs k off e vs:=by
      intro gr m rs xs e
      have h7:jP h' vs=jP h vs:=Lk fun q hq=>h5 q (aj.zq.1 (AR hc▸hq))
      unfold xq
      rw[h7]
      cases jP h vs with
      |none=>rfl
      |some y=>
       obtain⟨cs,o,u⟩:=y
       simp only[Gd h3 u]
     simp only[h3,h6]
   |cV n k aA off s i=>
    rw[hv] at h3
    have h3:=h3 n rfl
    cases hc:(ev v).cells? with
    |none=>rfl
    |some y=>
     simp only[h3]
   |_=>cases (ev v).cells?<;>rfl
  |_=>cases (ev v).cells?<;>rfl
 case copy sz x y=>
  have h1:=br x (by simp[aH.args])
  have h2:=br y (by simp[aH.args])
  have h3:=hn x (by simp[aH.args])
  have h4:=hn y (by simp[aH.args])
  simp only[e7,h1,h2]
  cases hv:ev x with
  |one p=>cases p with
   |sl n s lo len=>
    rw[hv] at h3
    have h3:=h3 n rfl
    cases hc:ev y with
    |one c=>
     rw[hc] at h4
     have h5:cq h' c=cq h c:=zW (u:=fun n=>h' n=h n) (fun n hn=>hn) fun m hm=>h4 m (ah.xa hm)
     simp only[h3,h5]
    |_=>rfl
   |_=>rfl
  |_=>rfl
 case kV z x=>
  have h1:=br x (by simp[aH.args])
  have h3:=hn x (by simp[aH.args])
  simp only[e7,h1]
  cases hv:ev x with
  |one p=>cases p with
   |sl n s lo len=>
    rw[hv] at h3
    have h3:=h3 n rfl
    simp only[h3]
   |_=>rfl
  |_=>rfl
 case dZ f xs=>
  have hl:xs.map ev'=xs.map ev:=List.map_congr_left br
  have h2:lW h' (xs.map ev)=lW h (xs.map ev):=MH fun n bk=>by
   rw[List.flatMap_map] at bk
   exact Jw n bk
  simp only[e7,hl,h2]
  cases e1:lW h (xs.map ev) with
  |none=>rfl
  |some x=>
   obtain⟨ds,ns,u⟩:=x
   try simp only
   cases aO.kw T.vs f with
   |none=>rfl
   |some M=>
    try simp only
    cases M ds with
    |none=>rfl
    |some z=>
     obtain⟨rs,out⟩:=z
     try simp only
     rw[anE (h:=dC h u) (h':=dC h' u) fun n bk=>Gd (Jw n (by
      have:=(Ig e1).2 n bk
      rw[List.flatMap_map] at this
      exact this)) u]
 case fC sz ps=>
  have hl:ps.map ev'=ps.map ev:=List.map_congr_left br
  have h2:o7 sz h' (ps.map ev)=o7 sz h (ps.map ev):=adz fun n bk=>by
   rw[List.flatMap_map] at bk
   exact Jw n bk
  simp only[e7,hl,h2]
 case append fl sz by_ x y=>
  have h1:=br x (by simp[aH.args])
  have h2:=br y (by simp[aH.args])
  have h3:=hn x (by simp[aH.args])
  have h4:=hn y (by simp[aH.args])
  have e1:vO h' sz (ev x)=vO h sz (ev x):=by
   cases hv:ev x with
   |one p=>cases p with
    |sl a s lo len=>
     rw[hv] at h3
     cases lo with
     |zero=>simp only[vO,h3 a rfl]
     |succ lo=>rfl
    |_=>rfl
   |_=>rfl
  have e2:∀(us:List (Nat×Option ao)) (m:Mode),tV fl (dC h' us) sz m (ev y)=tV fl (dC h us) sz m (ev y):=by
   intro us m
   cases hv:ev y with
   |one p=>cases p with
    |sl b s lo len=>
     rw[hv] at h4
     have hb:dC h' us b=dC h us b:=by
      by_cases hu:∃p∈us,p.1=b
      ·exact Ge hu
      ·rw[od fun p hp e=>hu ⟨p,hp,e⟩,od fun p hp e=>hu ⟨p,hp,e⟩]
       exact h4 b rfl
     simp only[tV,hb]
    |c x=>cases x<;>rfl
    |_=>rfl
   |_=>rfl
  simp only[e7,h1,h2,e1,e2]
end
theorem Nq {f g:List Nat×List Nat} (h:DM f g=true) {n:Nat} (h1:n∈f.2) (h2:n∈g.1):False:=by
 simp only[DM,Bool.and_eq_true,List.all_eq_true] at h
 have:=h.1 n h1
 simp[h2] at this
theorem afk {f g:List Nat×List Nat} (h:DM f g=true) {n:Nat} (h1:n∈g.2) (h2:n∈f.1):False:=by
 simp only[DM,Bool.and_eq_true,List.all_eq_true] at h
 have:=h.2 n h1
 simp[h2] at this
theorem Cl {σ:St} (W:Wf σ) {op:aH} (hf:∀a∈op.args,a.flat=true) {n:Nat} (hn:n∈op.iT σ.ev):σ.used n=true:=by
 obtain⟨a,ha,hr⟩:=pT.1 hn
 exact W.arg (hf a ha) n hr
theorem abT {σ:St} (W:Wf σ) {op:aH} (hf:∀a∈op.args,a.flat=true) {n:Nat} (hn:n∈op.mJ σ.ev σ.h):σ.used n=true:=by
 unfold aH.mJ at hn
 cases hc:op.ER with
 |true=>
  rw[hc] at hn
  rcases List.mem_append.1 hn with hn|hn
  ·exact Cl W hf hn
  ·unfold AK at hn
   rw[List.mem_flatMap] at hn
   obtain⟨m,hm,hn⟩:=hn
   split at hn
   ·rename_i cs hb
    obtain⟨c,hc,hr⟩:=List.mem_flatMap.1 hn
    exact W.box m cs c n hb hc (ah.Fb.1 hr)
   ·cases hn
 |false=>rw[hc] at hn;exact Cl W hf hn
section
variable {T:aO} {dx dy:Option Nat} {x y:aH} {σ σ1 σ2:St}
theorem YY (W:Wf σ) (kA:∀n,dx=some n->MO.t n∉y.args) (yD:∀a∈y.args,a.flat=true) (uA:∀sz p v,x=.store sz p v->dx=none)
  (hc:x.dI<=1\/y.dI=0) (h1:exec T dx x σ=some σ1):y.fp σ1=y.fp σ:=by
 have sf:=v7 uA h1
 have br:∀a∈y.args,σ1.ev a=σ.ev a:=fun a ha=>by
  cases a with
  |t n=>show σ1.env n=σ.env n;rw[sf];exact rh fun pF=>kA n pF ha
  |k v=>rfl
 rcases hc with hc|hc
 ·rw[pu T dx x σ hc] at h1
  have hh:∀n∈y.iT σ.ev,σ1.h n=σ.h n:=by
   intro n hn
   cases hr:rd T dx x σ.ev σ.h with
   |none=>rw[hr] at h1;cases h1
   |some p=>
    rw[hr] at h1
    simp only[Option.bind_some,fin,Option.map_eq_some_iff] at h1
    obtain⟨A,hA,rfl⟩:=h1
    have:(A.put dx p.1).h=A.h:=by cases dx<;>rfl
    rw[this]
    exact((yY hA).1 n (Cl W yD hn)).2
  unfold aH.fp
  rw[LA br hh,Sq br hh]
 ·unfold aH.fp
  have c1:y.ER=false:=by cases y<;>first|rfl|(simp[aH.dI] at hc)
  have w:∀ev h,y.kq ev h=some []:=by intro ev h;cases y<;>first|rfl|(simp[aH.dI] at hc)
  simp only[w,aH.mJ,c1,cond_false,Fa br]
theorem ae8 (W:Wf σ) (hd:∀n,dx=some n->dy≠some n) (kA:∀n,dx=some n->MO.t n∉y.args) (tp:∀n,dy=some n->MO.t n∉x.args)
  (Ju:∀a∈x.args,a.flat=true) (yD:∀a∈y.args,a.flat=true)
  (uA:∀sz p v,x=.store sz p v->dx=none) (Er:∀sz p v,y=.store sz p v->dy=none) (hk:DN (x.fp σ) (y.fp σ1)=true)
  (h1:exec T dx x σ=some σ1) (h2:exec T dy y σ1=some σ2):∃τ,exec T dy y σ=some τ/\exec T dx x τ=some σ2/\y.fp σ1=y.fp σ/\x.fp τ=x.fp σ:=by
 unfold aH.fp at hk
 cases yh:x.kq σ.ev σ.h with
 |none=>rw[yh] at hk;cases hk
 |some wx=>
 cases yi:y.kq σ1.ev σ1.h with
 |none=>rw[yh,yi] at hk;cases hk
 |some wy=>
 rw[yh,yi] at hk
 simp only[Option.map_some,DN] at hk
 rw[I2 yh uA] at h1
 rw[I2 yi Er] at h2
 cases IK:e7 T dx x σ.ev σ.h with
 |none=>rw[IK] at h1;cases h1
 |some px=>
 obtain⟨vx,ux,nx⟩:=px
 rw[IK] at h1
 simp only[Option.bind_some,v8,Option.map_eq_some_iff] at h1
 obtain⟨A,hA,rfl⟩:=h1
 have Lr:∀q∈ux,q.1∈wx:=WH yh IK
 have V7:∀q∈ux,σ.used q.1=true:=fun q hq=>Cl W Ju (adY yh (Lr q hq))
 obtain⟨A',Ji,rfl⟩:=Qa V7 hA
 obtain⟨oa,ea⟩:=yY Ji
 have qQ:∀(s:St) (d:Option Nat) (v:aj),(s.put d v).h=s.h:=fun s d v=>by cases d<;>rfl
 have br:∀a∈y.args,((A'.dh ux).put dx vx).ev a=σ.ev a:=fun a ha=>by
  rw[oS,IY fun n hn=>rh fun pF=>kA n pF (hn▸ha)]
  cases a with
  |t n=>show(A'.dh ux).env n=σ.env n;rw[lP];show A'.env n=_;rw[ea]
  |k v=>rfl
 have aif:y.mJ ((A'.dh ux).put dx vx).ev ((A'.dh ux).put dx vx).h=y.mJ σ.ev σ.h/\y.kq ((A'.dh ux).put dx vx).ev ((A'.dh ux).put dx vx).h=y.kq σ.ev σ.h:=by
  have hh:∀n∈y.iT σ.ev,((A'.dh ux).put dx vx).h n=σ.h n:=fun n hn=>by
   rw[qQ,lP]
   show dC A'.h ux n=_
   rw[od fun p hp e=>Nq hk (Lr p hp) (by rw[e];exact Kq (by rw[Fa br];exact hn))]
   exact(oa n (Cl W yD hn)).2
  exact⟨Sq br hh,LA br hh⟩
 obtain⟨r1,r2⟩:=aif
 have hh:∀n∈y.mJ σ.ev σ.h,((A'.dh ux).put dx vx).h n=σ.h n:=fun n hn=>by
  rw[qQ,lP]
  show dC A'.h ux n=_
  rw[od fun p hp e=>Nq hk (Lr p hp) (by rw[e];show n∈y.mJ _ _;rw[r1];exact hn)]
  exact(oa n (abT W yD hn)).2
 have eay:e7 T dy y ((A'.dh ux).put dx vx).ev ((A'.dh ux).put dx vx).h=e7 T dy y σ.ev σ.h:=WG br hh
 rw[eay] at h2
 rw[r2] at yi
 cases IL:e7 T dy y σ.ev σ.h with
 |none=>rw[IL] at h2;cases h2
 |some py=>
 obtain⟨vy,uy,ny⟩:=py
 rw[IL] at h2
 simp only[Option.bind_some,v8,Option.map_eq_some_iff] at h2
 obtain⟨D,hD,rfl⟩:=h2
 have uyw:∀q∈uy,q.1∈wy:=WH yi IL
 have uyn:∀q∈uy,q.1∈y.iT σ.ev:=fun q hq=>adY yi (uyw q hq)
 have V8:∀q∈uy,σ.used q.1=true:=fun q hq=>Cl W yD (uyn q hq)
 have uyA:∀q∈uy,A'.used q.1=true:=fun q hq=>(oa _ (V8 q hq)).1
 have uxA:∀q∈ux,A'.used q.1=true:=fun q hq=>(oa _ (V7 q hq)).1
 have uz:∀p∈ux,∀q∈uy,p.1≠q.1:=fun p hp q hq e=>Nq hk (Lr p hp) (by rw[e];show q.1∈y.mJ _ _;rw[r1];exact Kq (uyn q hq))
 rw[oS,adN,yZ,Option.map_eq_some_iff] at hD
 obtain⟨D0,hD0,rfl⟩:=hD
 obtain⟨D1,hD1,rfl⟩:=Qa (σ:=A'.dh ux) (fun q hq=>by rw[lP];exact uyA q hq) hD0
 obtain⟨F,hF,rfl⟩:=Qa uxA hD1
 obtain⟨C',hC,hCF⟩:=P9 Ji hF
 obtain⟨oc,ec⟩:=yY hC
 have uyC:∀q∈uy,C'.used q.1=true:=fun q hq=>(oc _ (V8 q hq)).1
 have uxC:∀q∈ux,C'.used q.1=true:=fun q hq=>(oc _ (V7 q hq)).1
 have Jn:∀a∈x.args,((C'.dh uy).put dy vy).ev a=σ.ev a:=fun a ha=>by
  rw[oS,IY fun n hn=>rh fun pF=>tp n pF (hn▸ha)]
  cases a with
  |t n=>show(C'.dh uy).env n=σ.env n;rw[lP];show C'.env n=_;rw[ec]
  |k v=>rfl
 have Zy:∀n∈x.mJ σ.ev σ.h,((C'.dh uy).put dy vy).h n=σ.h n:=fun n hn=>by
  rw[qQ,lP]
  show dC C'.h uy n=_
  rw[od fun p hp e=>afk hk (uyw p hp) (by rw[e];exact hn)]
  exact(oc n (abT W Ju hn)).2
 have Pb:∀n∈x.iT σ.ev,((C'.dh uy).put dy vy).h n=σ.h n:=fun n hn=>Zy n (Kq hn)
 refine⟨(C'.dh uy).put dy vy,?_,?_,?_,?_⟩
 ·rw[I2 yi Er,IL]
  simp only[Option.bind_some,v8,EP V8 hC,Option.map_some]
 ·rw[I2 (ws:=wx) (by rw[LA Jn Pb];exact yh) uA,WG Jn Zy,IK]
  simp only[Option.bind_some,v8]
  rw[oS,adN,yZ,EP (σ:=C'.dh uy) (fun q hq=>by rw[lP];exact uxC q hq) (EP uyC hCF)]
  simp only[Option.map_some]
  rw[oS,oS,apT uz]
  congr 1
  have e1:(C'.dh uy).env=σ.env:=by rw[lP];exact ec
  have e2:(A'.dh ux).env=σ.env:=by rw[lP];exact ea
  show St.we _ (io (io (C'.dh uy).env dy vy) dx vx)=St.we _ (io (io (A'.dh ux).env dx vx) dy vy)
  rw[e1,e2,KB σ.env _ _ hd]
  rfl
 ·unfold aH.fp
  rw[r1,r2]
 ·unfold aH.fp
  rw[LA Jn Pb,Sq Jn Pb]
end
end Go.Am
end
section
namespace Go.Am
def DE (x y:bV):Bool:=x.op.dI==0||y.op.dI==0||(decide (x.op.dI<=1)&&decide (y.op.dI<=1))
def DG (x y:bV):Bool:=
 (match x.dst with|some d=>y.tC d&&(match y.dst with|some e=>e !=d|none=>true)|none=>true)&&
 (match y.dst with|some d=>x.tC d|none=>true)&&x.qG&&y.qG
theorem ae9 {T:aO} {x y:bV} {σ σ1 σ2:St} (W:Wf σ) (hc:DG x y=true) (hk:DE x y=true\/DN (x.fp σ) (y.fp σ1)=true) (h1:d9 T x σ=some σ1) (h2:d9 T y σ1=some σ2):
  ∃τ,d9 T y σ=some τ/\d9 T x τ=some σ2/\y.fp σ1=y.fp σ/\x.fp τ=x.fp σ:=by
 simp only[DG,Bool.and_eq_true] at hc
 obtain⟨⟨⟨c1,c2⟩,c3⟩,c4⟩:=hc
 rw[Bc] at h1 h2
 cases ex:mT x σ.env with
 |none=>rw[ex] at h1;cases h1
 |some jt=>
  rw[ex] at h1
  have h1:exec T x.dst jt σ=some σ1:=h1
  have jx:jt=x.op\/jt=.mv (.k (.bq [])):=IM ex
  have zQ:∀sz p v,jt=.store sz p v->x.dst=none:=by
   intro sz p v he
   rcases jx with rfl|rfl
   ·simp only[bV.qG,Bool.and_eq_true,he] at c3;simpa using c3.2
   ·cases he
  have sf:=v7 zQ h1
  have PT:∀s w,y.guard=some (s,w)->x.dst≠some s:=by
   intro s w hg hd
   rw[hd] at c1
   simp[bV.tC,hg] at c1
  have JH:∀s w,x.guard=some (s,w)->y.dst≠some s:=by
   intro s w hg hd
   rw[hd] at c2
   simp[bV.tC,hg] at c2
  have I3:mT y σ1.env=mT y σ.env:=DP fun s w hg=>by rw[sf];exact rh (PT s w hg)
  rw[I3] at h2
  cases ey:mT y σ.env with
  |none=>rw[ey] at h2;cases h2
  |some iV=>
   rw[ey] at h2
   have h2:exec T y.dst iV σ1=some σ2:=h2
   have jy:iV=y.op\/iV=.mv (.k (.bq [])):=IM ey
   have xr:∀sz p v,iV=.store sz p v->y.dst=none:=by
    intro sz p v he
    rcases jy with rfl|rfl
    ·simp only[bV.qG,Bool.and_eq_true,he] at c4;simpa using c4.2
    ·cases he
   have DZ:∀a∈jt.args,a.flat=true:=by
    rcases jx with rfl|rfl
    ·simp only[bV.qG,Bool.and_eq_true,List.all_eq_true] at c3;exact c3.1
    ·intro a ha;simp[aH.args] at ha;subst ha;rfl
   have D2:∀a∈iV.args,a.flat=true:=by
    rcases jy with rfl|rfl
    ·simp only[bV.qG,Bool.and_eq_true,List.all_eq_true] at c4;exact c4.1
    ·intro a ha;simp[aH.args] at ha;subst ha;rfl
   have kA:∀n,x.dst=some n->MO.t n∉iV.args:=by
    intro n hd
    rcases jy with rfl|rfl
    ·rw[hd] at c1
     simp only[Bool.and_eq_true] at c1
     exact bV.Kr c1.1
    ·simp[aH.args]
   have tp:∀n,y.dst=some n->MO.t n∉jt.args:=by
    intro n hd
    rcases jx with rfl|rfl
    ·rw[hd] at c2
     exact bV.Kr c2
    ·simp[aH.args]
   have uz:∀n,x.dst=some n->y.dst≠some n:=by
    intro n hd he
    rw[hd,he] at c1
    simp at c1
   have yfp:y.fp σ1=iV.fp σ1:=by unfold bV.fp;rw[I3,ey]
   have ap8:y.fp σ=iV.fp σ:=by unfold bV.fp;rw[ey]
   have adZ:x.fp σ=jt.fp σ:=by unfold bV.fp;rw[ex]
   have xfp:∀τ,exec T y.dst iV σ=some τ->x.fp τ=jt.fp τ:=by
    intro τ t1
    unfold bV.fp
    rw[DP (e:=σ.env) (fun s w hg=>by rw[v7 xr t1];exact rh (JH s w hg)),ex]
   have fin:(∃τ,exec T y.dst iV σ=some τ/\exec T x.dst jt τ=some σ2/\iV.fp σ1=iV.fp σ/\jt.fp τ=jt.fp σ)->∃τ,d9 T y σ=some τ/\d9 T x τ=some σ2/\y.fp σ1=y.fp σ/\x.fp τ=x.fp σ:=by
    rintro⟨τ,t1,t2,t3,t4⟩
    refine⟨τ,?_,?_,?_,?_⟩
    ·rw[Bc,ey];exact t1
    ·rw[Bc,DP (e:=σ.env) (fun s w hg=>by rw[v7 xr t1];exact rh (JH s w hg)),ex];exact t2
    ·rw[yfp,ap8,t3]
    ·rw[xfp τ t1,adZ,t4]
   apply fin
   rcases hk with c5|hk
   ·have bO:jt.dI=0\/iV.dI=0\/(jt.dI<=1/\iV.dI<=1):=by
     rcases jx with rfl|rfl
     ·rcases jy with rfl|rfl
      ·simp only[DE,Bool.or_eq_true,beq_iff_eq,Bool.and_eq_true,decide_eq_true_eq,or_assoc] at c5
       exact c5
      ·exact .inr (.inl rfl)
     ·exact .inl rfl
    obtain⟨τ,t1,t2⟩:=XC W uz kA tp DZ D2 zQ xr bO h1 h2
    refine⟨τ,t1,t2,YY W kA D2 zQ (by omega) h1,YY W tp DZ xr (by omega) t1⟩
   ·rw[yfp,adZ] at hk
    exact ae8 W uz kA tp DZ D2 zQ xr hk h1 h2
def Dm (T:aO) (ms:List bV) (F:Nat->Option FP):List Nat->St->St->Prop
 |[],σ,iZ=>σ=iZ
 |i::L,σ,iZ=>∃m σ1,ms[i]? =some m/\F i=m.fp σ/\d9 T m σ=some σ1/\Dm T ms F L σ1 iZ
def WB (F:Nat->Option FP) (ms:List bV) (i j:Nat) (m:bV):Prop:=∃mj,ms[j]? =some mj/\DG mj m=true/\(DE mj m=true\/DN (F j) (F i)=true)
structure Wk (F:Nat->Option FP) (ops:Array Oper) (ms:List bV):Prop where
 back:∀(i:Nat) (o:Oper),ops[i]? =some o->∀e∈o.after,Region.binds .any e=true->e.on<i
 pair:∀(i j:Nat) (o:Oper) (m:bV),ops[i]? =some o->ms[i]? =some m->j<i->vz ops i j\/WB F ms i j m
section
variable {B:Nat} {E:Ex} {w0 w w':World} {G G':Gh} {N:Nat}
variable {P:Program} {T:aO} {o:Oper} {mo:bV} {a:Act} {σ σ':St} {Q:Exit->Act->World->Prop} {ops:Array Oper}
theorem ach (hT:oq P T) {ms:List bV} {F:Nat->Option FP} (r6:∀(i:Nat) (m:bV),ms[i]? =some m->∃o,ops[i]? =some o/\t9 P N ops o m=true) {i:Nat} {mi:bV} (hi:ms[i]? =some mi) {post:List Nat} {iZ:St}:
  ∀{pre:List Nat} {σ:St},GU B E w0 N σ->Dm T ms F (pre++i::post) σ iZ->(∀j∈pre,WB F ms i j mi)->
  ∃τ,F i=mi.fp σ/\d9 T mi σ=some τ/\Dm T ms F (pre++post) τ iZ
 |[],σ,hr,hx,hc=>by
  obtain⟨m,σ1,h1,h2,h3,h4⟩:=hx
  rw[hi] at h1
  injection h1 with h1
  subst h1
  exact⟨σ1,h2,h3,h4⟩
 |j::pre,σ,hr,hx,hc=>by
  obtain⟨mj,σ1,k1,k2,k3,k4⟩:=hx
  obtain⟨mj',hj,nI,bO⟩:=hc j (by simp)
  rw[k1] at hj
  injection hj with hj
  subst hj
  obtain⟨oj,_,gx⟩:=r6 j mj k1
  obtain⟨o8,t0,t1,t2⟩:=ach hT r6 hi (ab0 hr hT gx k3) k4 (fun k hk=>hc k (by simp[hk]))
  obtain⟨a,w,G,r⟩:=hr
  rw[k2,t0] at bO
  obtain⟨τ,s1,s2,s3,s4⟩:=ae9 r.wf nI bO k3 t1
  exact⟨τ,by rw[t0,s3],s1,mj,o8,k1,by rw[s4];exact k2,s2,t2⟩
theorem ap6 (hT:oq P T) {ms:List bV} {F:Nat->Option FP} (r6:∀(i:Nat) (m:bV),ms[i]? =some m->∃o,ops[i]? =some o/\t9 P N ops o m=true) (hlen:ms.length=ops.size) (hd:Wk F ops ms) {iZ:St}
  (hQ:∀a w G,R B E w0 N iZ a w G->Q .normal a w):
  ∀(iB:Nat) (L:List Nat) (c9:Array Bool) (σ:St) (a:Act) (w:World) (G:Gh),R B E w0 N σ a w G->Dm T ms F L σ iZ->L.Pairwise (·<·)->L.length<=iB->c9.size=ops.size->
   (∀j,j∈L↔c9.getD j true=false)->LH ops c9->wpAny P .any ops Q iB c9 a w:=by
 have first:∀(L:List Nat) (c9:Array Bool),L.Pairwise (·<·)->c9.size=ops.size->(∀j,j∈L↔c9.getD j true=false)->Region.ready .any ops c9=[]->L=[]:=by
  intro L c9 hp hs hL hr
  cases L with
  |nil=>rfl
  |cons j L=>
   exfalso
   have hj:=(hL j).1 (by simp)
   have lk:j<ops.size:=by
    rw[<-hs]
    rcases Nat.lt_or_ge j c9.size with h|h
    ·exact h
    ·simp[Array.getElem?_eq_none h] at hj
   have ho:ops[j]? =some ops[j]:=Array.getElem?_eq_getElem lk
   have:j∈Region.ready .any ops c9:=by
    rw[mem_ready]
    refine⟨hj,_,ho,fun e he hb=>?_⟩
    have bH:=hd.back j _ ho e he hb
    have oD:e.on∉j::L:=by
     intro hm
     cases hm with
     |head=>omega
     |tail _ hm=>have:=(List.pairwise_cons.1 hp).1 _ hm;omega
    have aC:c9.getD e.on true≠false:=fun h=>oD ((hL e.on).2 h)
    have pG:e.on<c9.size:=by omega
    simp[pG] at aC⊢
    exact aC
   rw[hr] at this
   cases this
 intro iB
 induction iB with
 |zero=>
  intro L c9 σ a w G r hx hp hl hs hL hC
  have r5:L=[]:=List.eq_nil_of_length_eq_zero (by omega)
  subst r5
  have hx:σ=iZ:=hx
  subst hx
  refine⟨?_,hQ _ _ _ r⟩
  cases hr:Region.ready .any ops c9 with
  |nil=>rfl
  |cons i l=>
   have hm:i∈Region.ready .any ops c9:=by rw[hr];simp
   have:=(hL i).2 (mem_ready.1 hm).1
   cases this
 |succ iB ih=>
  intro L c9 σ a w G r hx hp hl hs hL hC
  refine⟨fun hr=>?_,fun i hi=>?_⟩
  ·have r5:=first L c9 hp hs hL hr
   subst r5
   have hx:σ=iZ:=hx
   subst hx
   exact hQ _ _ _ r
  ·obtain⟨Ph,oi,jZ,Ej⟩:=mem_ready.1 hi
   have qO:i∈L:=(hL i).2 Ph
   obtain⟨pre,post,rfl⟩:=List.append_of_mem qO
   have his:i<ops.size:=(Array.getElem?_eq_some_iff.1 jZ).1
   have yK:ms[i]? =some ms[i]:=List.getElem?_eq_getElem (by omega)
   obtain⟨o',gJ,O0⟩:=r6 i _ yK
   rw[jZ] at gJ
   injection gJ with gJ
   subst gJ
   have gi:=List.pairwise_append.1 hp
   obtain⟨τ,t0,t1,t2⟩:=ach (ops:=ops) hT r6 yK ⟨a,w,G,r⟩ hx (fun j hj=>by
    have r9:j<i:=gi.2.2 j hj i (by simp)
    rcases hd.pair i j oi _ jZ yK r9 with OP|h
    ·have h1:=W0 hC OP (fun o ho e he hb=>by
      rw[jZ] at ho
      injection ho with ho
      subst ho
      have h1:=Ej e he hb
      have bH:=hd.back i _ jZ e he hb
      have pG:e.on<c9.size:=by omega
      simp[pG] at h1⊢
      exact h1)
     have h2:=(hL j).1 (by simp[hj])
     rw[h1] at h2
     cases h2
    ·exact h)
   have yQ:∀a' w',Nx B E w0 N τ a' w'->wpAny P .any ops Q iB (c9.setIfInBounds i true) a' w':=by
    rintro a' w' ⟨G',r'⟩
    refine ih (pre++post) _ τ a' w' G' r' t2 ?_ (by simp at hl⊢;omega) (by simpa using hs) (fun j=>?_) (fun k o ho hk e he hb=>?_)
    ·rw[List.pairwise_append]
     exact⟨gi.1,(List.pairwise_cons.1 gi.2.1).2,fun x hx y hy=>gi.2.2 x hx y (by simp[hy])⟩
    ·by_cases r9:j=i
     ·subst r9
      have lk:j<c9.size:=by omega
      simp only[List.mem_append]
      constructor
      ·rintro(h|h)
       ·have:=gi.2.2 j h j (by simp);omega
       ·have:=(List.pairwise_cons.1 gi.2.1).1 j h;omega
      ·intro h
       simp[lk] at h
     ·rw[getD_set_ne true (Ne.symm r9),<-hL j]
      simp[r9]
    ·have Ez:∀q,c9.getD q true=true->(c9.setIfInBounds i true).getD q true=true:=by
      intro q hq
      by_cases m6:q=i
      ·subst m6
       have:q<c9.size:=by omega
       simp[this]
      ·rw[getD_set_ne true (Ne.symm m6)];exact hq
     by_cases kx:k=i
     ·subst kx
      rw[jZ] at ho
      injection ho with ho
      subst ho
      have h1:=Ej e he hb
      have bH:=hd.back k _ jZ e he hb
      have pG:e.on<c9.size:=by omega
      refine Ez _ ?_
      simp[pG] at h1⊢
      exact h1
     ·rw[getD_set_ne true (Ne.symm kx)] at hk
      exact Ez _ (hC k o ho hk e he hb)
   unfold wpOp
   rw[jZ]
   simp only
   rcases I1 (Q:=Q) r hT O0 t1 with⟨hw,h⟩|⟨hw,h⟩
   ·rw[if_pos hw]
    exact .inl (Oper.wp_mono yQ h)
   ·rw[if_neg (by simp[hw])]
    exact yQ _ _ h
def It (ps:List (Nat×Nat)) (ops:List Oper) (ms:List bV):Bool:=
 (fun ks:List Nat=>(List.range ops.length).all fun i=>match ops[i]?,ms[i]? with
  |some o,some m=>(o.after.toList.all fun e=> !Region.binds .any e||decide (e.on<i))&&
   (List.range i).all fun j=>(ks.getD i 0).testBit j||(match ms[j]? with|some mj=>DG mj m&&(DE mj m||ps.contains (j,i))|none=>false)
  |_,_=>false) (Cb ops [])
theorem aeR {ps:List (Nat×Nat)} {ms:List bV} {fs:List (Option FP)} (h:It ps ops.toList ms=true) (hp:w5 ps fs=true):Wk (fun i=>fs.getD i none) ops ms:=by
  simp only[It,List.all_eq_true,List.mem_range] at h
  have ca:∀(i:Nat) (o:Oper),ops[i]? =some o->∃m,ms[i]? =some m/\(o.after.toList.all fun e=> !Region.binds .any e||decide (e.on<i))=true/\
        ∀j,j<i->(((Cb ops.toList []).getD i 0).testBit j||(match ms[j]? with|some mj=>DG mj m&&(DE mj m||ps.contains (j,i))|none=>false))=true:=by
    intro i o ho
    have hi:i<ops.toList.length:=by simpa using(Array.getElem?_eq_some_iff.1 ho).1
    have hi':=h i hi
    have gJ:ops.toList[i]? =some o:=by simpa using ho
    rw[gJ] at hi'
    cases hm:ms[i]? with
    |none=>rw[hm] at hi';cases hi'
    |some m=>
     rw[hm] at hi'
     simp only[Bool.and_eq_true,List.all_eq_true,List.mem_range] at hi'
     exact⟨m,rfl,by rw[List.all_eq_true];exact hi'.1,hi'.2⟩
  refine⟨fun i o ho e he hb=>?_,fun i j o m ho hm hj=>?_⟩
  · obtain⟨m,_,k1,_⟩:=ca i o ho
    have:=List.all_eq_true.1 k1 e (Array.mem_toList_iff.2 he)
    simp[hb] at this
    exact this
  · obtain⟨m',bM,_,k2⟩:=ca i o ho
    rw[hm] at bM
    injection bM with bM
    subst bM
    have:=k2 j hj
    rw[Bool.or_eq_true] at this
    rcases this with h1|h1
    · exact .inl (QO ops.toList [] [] rfl rfl (by intro i k hb;simp at hb) i j h1)
    · cases Bz:ms[j]? with
      |none=>rw[Bz] at h1;cases h1
      |some mj=>
       rw[Bz] at h1
       simp only[Bool.and_eq_true,Bool.or_eq_true] at h1
       refine .inr ⟨mj,Bz,h1.1,?_⟩
       rcases h1.2 with h2|h2
       · exact .inl h2
       · refine .inr ?_
         have:=List.all_eq_true.1 hp (j,i) (by simpa using h2)
         exact this
theorem Yt {ms:List bV}:∀(post pre:List bV) (σ iZ:St) (fs cU:List (Option FP)),ms=pre++post->cU.length=pre.length->mU T post cU σ=some (fs,iZ)->
  cU=fs.take cU.length/\Dm T ms (fun i=>fs.getD i none) (List.range' pre.length post.length) σ iZ
 |[],pre,σ,iZ,fs,cU,he,hl,hx=>by
  simp only[mU] at hx
  injection hx with hx
  injection hx with h1 h2
  subst h1 h2
  exact⟨by simp,rfl⟩
 |m::post,pre,σ,iZ,fs,cU,he,hl,hx=>by
  simp only[mU] at hx
  split at hx
  ·rename_i σ1 e1
   obtain⟨h1,h2⟩:=Yt (ms:=ms) post (pre++[m]) σ1 iZ fs (cU++[m.fp σ]) (by simp[he]) (by simp[hl]) hx
   have h3:fs[cU.length]? =some (m.fp σ):=by
    have:(fs.take (cU++[m.fp σ]).length)[cU.length]? =some (m.fp σ):=by rw[<-h1];simp
    rw[List.getElem?_take] at this
    split at this
    ·exact this
    ·cases this
   have h4:cU=fs.take cU.length:=by
    have:=congrArg (List.take cU.length) h1
    simpa[List.take_take] using this
   refine⟨h4,m,σ1,?_,?_,e1,?_⟩
   ·rw[he,List.getElem?_append_right (Nat.le_refl _),Nat.sub_self];rfl
   ·show fs.getD pre.length none=_
    rw[<-hl,List.getD_eq_getElem?_getD,h3];rfl
   ·simpa using h2
  ·cases hx
theorem anT (hT:oq P T) (hm:P.follows .mixedOrders=true) {id:Nat} {ps:List (Nat×Nat)} {ms:List bV} {fs:List (Option FP)} (hc:po P N ops ops.toList ms=true) (hd:It ps ops.toList ms=true)
  (hx:mU T ms [] σ=some (fs,σ')) (hp:w5 ps fs=true) (r:R B E w0 N σ a w G) (hQ:∀a w G,R B E w0 N σ' a w G->Q .normal a w):(Code.region id ops true).wp P Q a w:=by
 obtain⟨k1,k2⟩:=M7 hc
 have hlen:ms.length=ops.size:=by simpa using k1
 refine wp_region_any hm (ap6 (B:=B) (E:=E) (w0:=w0) (N:=N) hT (fun i m h=>by
  obtain⟨o,h1,h2⟩:=k2 i m h;exact⟨o,by simpa using h1,h2⟩) hlen (aeR hd hp) hQ ops.size (List.range ops.size) _ σ a _ G (r.drawn _) ?_ ?_ (by simp) (by simp) (fun j=>?_) (fun k o ho hk=>?_))
 ·have:=(Yt (T:=T) (ms:=ms) ms [] σ σ' fs [] rfl rfl hx).2
  simp only[List.length_nil,hlen,<-List.range_eq_range'] at this
  exact this
 ·exact List.pairwise_lt_range
 ·rw[List.mem_range]
  constructor
  ·intro h;simp[h]
  ·intro h
   rcases Nat.lt_or_ge j ops.size with h'|h'
   ·exact h'
   ·simp[Array.getElem?_eq_none (show(Array.replicate ops.size false).size<=j by simpa using h')] at h
 ·exfalso
  have Pn:k<ops.size:=(Array.getElem?_eq_some_iff.1 ho).1
  simp[Pn] at hk
end
end Go.Am
end
