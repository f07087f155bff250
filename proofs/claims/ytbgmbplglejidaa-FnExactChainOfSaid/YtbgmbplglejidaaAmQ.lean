/- AmP, AmQ: parts of the proof. No condition. -/
import Derived.Test.YtbgmbplglejidaaAm21
set_option linter.unusedVariables false
set_option linter.unusedSimpArgs false
section
namespace Go.Am
theorem ah.anj {c:ah} {m:Nat}:m∈c.rR↔c.iu m:=by
 cases c<;>simp[ah.rR,ah.iu]
theorem ah.EE {c:ah} {m:Nat}:m∈c.nm↔c.ref m:=by
 cases c with
 |fn f cf=>simp[ah.nm,ah.ref,List.mem_flatMap,ah.anj]
 |_=>simp[ah.nm,ah.rR,ah.ref,ah.iu]
theorem aj.y9 {v:aj} {m:Nat}:m∈v.gf↔v.ref m:=by
 cases v with
 |one c=>exact ah.EE
 |agg cs=>simp[aj.gf,aj.ref,List.mem_flatMap,ah.EE]
 |bo xs=>simp only[aj.gf,aj.ref,List.mem_flatMap,ah.EE]
theorem pb {op:aF} {ev:MO->aj} {n:Nat}:n∈op.iJ ev↔∃a∈op.args,(ev a).ref n:=by
 simp[aF.iJ,List.mem_flatMap,aj.y9]
theorem JN {op:aF} {ev:MO->aj} {h:Nat->Option aq} {n:Nat} (hn:n∈op.iJ ev):n∈op.lU ev h:=by
 unfold aF.lU
 cases op.Ei with
 |true=>exact List.mem_append.2 (.inl hn)
 |false=>exact hn
theorem ad6 {op:aF} {ev:MO->aj} {h:Nat->Option aq} {ws:List Nat} (hw:op.j4 ev h=some ws) {n:Nat} (hn:n∈ws):n∈op.iJ ev:=by
 cases op<;>simp only[aF.j4] at hw<;>first|(cases hw;cases hn)|(cases hw;done)|skip
 case store sz x v=>
  split at hw
  ·rename_i q _ _ _ hx
   have hq:q∈(aF.store sz x v).iJ ev:=pb.2 ⟨x,by simp[aF.args],by rw[hx];exact rfl⟩
   split at hw
   ·injection hw with hw;subst hw;simp at hn;subst hn;exact hq
   ·injection hw with hw;subst hw
    rcases List.mem_cons.1 hn with rfl|hn
    ·exact hq
    ·exact pb.2 ⟨v,by simp[aF.args],aj.y9.1 hn⟩
   ·cases hw
  ·rename_i q _ _ _ _ _ hx
   have hq:q∈(aF.store sz x v).iJ ev:=pb.2 ⟨x,by simp[aF.args],by rw[hx];exact rfl⟩
   injection hw with hw;subst hw;simp at hn;subst hn;exact hq
  ·cases hw
 case copy sz x y=>
  split at hw
  ·rename_i q _ _ _ hx
   injection hw with hw;subst hw;simp at hn;subst hn
   exact pb.2 ⟨x,by simp[aF.args],by rw[hx];exact rfl⟩
  ·cases hw
 case kB z x=>
  split at hw
  ·rename_i q _ _ _ hx
   injection hw with hw;subst hw;simp at hn;subst hn
   exact pb.2 ⟨x,by simp[aF.args],by rw[hx];exact rfl⟩
  ·cases hw
 case e7 sz ps=>
  injection hw with hw
  subst hw
  obtain⟨a,ha,hn⟩:=List.mem_flatMap.1 hn
  exact pb.2 ⟨a,ha,aj.y9.1 hn⟩
 case jh f xs=>
  injection hw with hw
  subst hw
  obtain⟨a,ha,hn⟩:=List.mem_flatMap.1 hn
  exact pb.2 ⟨a,ha,aj.y9.1 hn⟩
 case append fl sz by_ x y=>
  injection hw with hw
  subst hw
  rcases List.mem_append.1 hn with hn|hn
  ·exact pb.2 ⟨x,by simp[aF.args],aj.y9.1 hn⟩
  ·exact pb.2 ⟨y,by simp[aF.args],aj.y9.1 hn⟩
def St.dc (σ:St):List (Nat×Option aq)->St
 |[]=>σ
 |(n,b)::l=>St.dc {σ with h:=ax σ.h n b} l
def dv (h:Nat->Option aq):List (Nat×Option aq)->(Nat->Option aq)
 |[]=>h
 |(n,b)::l=>dv (ax h n b) l
theorem lc:∀(l:List (Nat×Option aq)) (σ:St),σ.dc l={σ with h:=dv σ.h l}
 |[],σ=>rfl
 |(n,b)::l,σ=>by simp only[St.dc,dv];rw[lc l]
theorem nC:∀{l:List (Nat×Option aq)} {h:Nat->Option aq} {n:Nat},(∀p∈l,p.1≠n)->dv h l n=h n
 |[],h,n,_=>rfl
 |(m,b)::l,h,n,hn=>by
  simp only[dv]
  rw[nC fun p hp=>hn p (List.mem_cons_of_mem _ hp)]
  exact cb _ _ _ _ (fun e=>hn (m,b) (by simp) e.symm)
theorem aqu (h:Nat->Option aq) (l l':List (Nat×Option aq)):dv h (l++l')=dv (dv h l) l':=by
 induction l generalizing h with
 |nil=>rfl
 |cons x l ih=>obtain⟨n,b⟩:=x;exact ih _
theorem Cx (σ:St) (l l':List (Nat×Option aq)):σ.dc (l++l')=(σ.dc l).dc l':=by
 simp only[lc,aqu]
theorem FI:∀{l:List (Nat×Option aq)} {h h':Nat->Option aq} {n:Nat},(∃p∈l,p.1=n)->dv h l n=dv h' l n
 |[],h,h',n,hn=>by obtain⟨p,hp,_⟩:=hn;cases hp
 |(m,b)::l,h,h',n,hn=>by
  simp only[dv]
  by_cases hl:∃p∈l,p.1=n
  ·exact FI hl
  ·have bS:∀p∈l,p.1≠n:=fun p hp e=>hl ⟨p,hp,e⟩
   rw[nC bS,nC bS]
   obtain⟨p,hp,e⟩:=hn
   rcases List.mem_cons.1 hp with rfl|hp
   ·simp only at e;subst e;rw[bE,bE]
   ·exact absurd e (bS p hp)
theorem adT {u v:List (Nat×Option aq)} (hd:∀p∈u,∀q∈v,p.1≠q.1) (h:Nat->Option aq):dv (dv h u) v=dv (dv h v) u:=by
 funext n
 by_cases hu:∃p∈u,p.1=n
 ·obtain⟨p,hp,rfl⟩:=hu
  rw[nC (l:=v) fun q hq e=>hd p hp q hq e.symm]
  exact FI ⟨p,hp,rfl⟩
 ·rw[nC (l:=u) (h:=dv h v) fun p hp e=>hu ⟨p,hp,e⟩]
  by_cases hv:∃q∈v,q.1=n
  ·exact FI hv
  ·rw[nC fun q hq e=>hv ⟨q,hq,e⟩,nC fun p hp e=>hu ⟨p,hp,e⟩,nC fun q hq e=>hv ⟨q,hq,e⟩]
theorem aqw {u v:List (Nat×Option aq)} (hd:∀p∈u,∀q∈v,p.1≠q.1) (σ:St):(σ.dc u).dc v=(σ.dc v).dc u:=by
 simp only[lc,adT hd]
theorem adU (σ:St) (e:Nat->aj) (l:List (Nat×Option aq)):(σ.we e).dc l=(σ.dc l).we e:=by
 simp only[lc];rfl
theorem aqv {l:List (Nat×Option aq)} {h:Nat->Option aq} {n:Nat} {b:Option aq} (hn:∀p∈l,p.1≠n):dv (ax h n b) l=ax (dv h l) n b:=by
 have:=adT (u:=l) (v:=[(n,b)]) (fun p hp q hq=>by simp at hq;subst hq;exact hn p hp) h
 exact this.symm
theorem aiS {σ σ1:St} {l:List (Nat×Option aq)} {n:Nat} {b:aq} (hl:∀p∈l,σ.used p.1=true) (h:σ.ins n b=some σ1):(σ.dc l).ins n b=some (σ1.dc l):=by
 obtain⟨u1,rfl⟩:=lP h
 unfold St.ins
 rw[lc,lc]
 rw[if_neg (show¬σ.used n=true by rw[u1];simp)]
 simp only
 rw[aqv fun p hp e=>by rw[<-e,hl p hp] at u1;cases u1]
theorem Eg:∀{A:List (Nat×aq)} {σ σ1:St} {l:List (Nat×Option aq)},(∀p∈l,σ.used p.1=true)->σ.ct A=some σ1->(σ.dc l).ct A=some (σ1.dc l)
 |[],σ,σ1,l,hl,h=>by
  simp only[St.ct] at h⊢
  injection h with h
  rw[h]
 |(n,b)::A,σ,σ1,l,hl,h=>by
  simp only[St.ct] at h⊢
  split at h
  ·rename_i jJ e
   rw[aiS hl e]
   obtain⟨u1,rfl⟩:=lP e
   exact Eg (fun p hp=>qT _ _ (hl p hp)) h
  ·cases h
theorem aao:∀{A:List (Nat×aq)} {σ σ':St},σ.used=σ'.used->(σ.ct A).isSome=true->(σ'.ct A).isSome=true
 |[],σ,σ',hu,h=>rfl
 |(n,b)::A,σ,σ',hu,h=>by
  simp only[St.ct,St.ins] at h⊢
  rw[<-hu]
  split at h
  ·rename_i jJ e
   split at e
   ·cases e
   ·rename_i hn
    injection e with e
    subst e
    rw[if_neg hn]
    simp only
    exact aao (by rfl) h
  ·cases h
theorem P0 {A:List (Nat×aq)} {σ B:St} {l:List (Nat×Option aq)} (hl:∀p∈l,σ.used p.1=true) (h:(σ.dc l).ct A=some B):∃B',σ.ct A=some B'/\B=B'.dc l:=by
 have hs:(σ.ct A).isSome=true:=aao (A:=A) (σ:=σ.dc l) (σ':=σ) (by rw[lc]) (by rw[h];rfl)
 cases e:σ.ct A with
 |none=>rw[e] at hs;cases hs
 |some B'=>
  refine⟨B',rfl,?_⟩
  have:=Eg hl e
  rw[h] at this
  injection this
abbrev Us:=List (Nat×Option aq)
def r6 (h:Nat->Option aq):ah->Option (C×Bool×Us)
 |.c x=>some (x,x.eF,[])
 |.nil sz=>if 0<sz then some (.list sz [],true,[]) else none
 |.sl n sz lo len=>
  match h n with
  |some (.row _ m rs xs)=>if rs=sz/\lo=0/\len<=xs.length then some (.list sz (xs.take len),decide (m≠ .aO),[(n,none)]) else none
  |_=>none
 |_=>none
def jG (h:Nat->Option aq):List ah->Option (List C×Bool×Us)
 |[]=>some ([],true,[])
 |c::cs=>match r6 h c with
  |some (x,o,u)=>match jG (dv h u) cs with
   |some (xs,o',u')=>some (x::xs,o&&o',u++u')
   |none=>none
  |none=>none
def oy (sz:Nat) (h:Nat->Option aq):List aj->Option (List (List C)×Bool×Us)
 |[]=>some ([],true,[])
 |v::vs=>match v.cells? with
  |some (_,cs)=>if cs.length=sz then
   match jG h cs with
   |some (e,o,u)=>match oy sz (dv h u) vs with
    |some (es,o',u')=>some (e::es,o&&o',u++u')
    |none=>none
   |none=>none
   else none
  |none=>none
theorem FJ (σ:St) (l:Us):(σ.dc l).h=dv σ.h l:=by rw[lc]
theorem aqn (σ:St) (c:ah):σ.fG c=(r6 σ.h c).map fun x=>(x.1,x.2.1,σ.dc x.2.2):=by
 cases c with
 |sl n sz lo len=>
  simp only[St.fG,r6]
  cases σ.h n with
  |none=>rfl
  |some b=>cases b with
   |box cs=>rfl
   |row gr m rs xs=>simp only;split<;>rfl
 |nil sz=>simp only[St.fG,r6];split<;>rfl
 |_=>rfl
theorem KH:∀(cs:List ah) (σ:St),σ.fg cs=(jG σ.h cs).map fun x=>(x.1,x.2.1,σ.dc x.2.2)
 |[],σ=>rfl
 |c::cs,σ=>by
  simp only[St.fg,jG,aqn]
  cases r6 σ.h c with
  |none=>rfl
  |some x=>
   obtain⟨x,o,u⟩:=x
   simp only[Option.map_some,KH cs,FJ]
   cases jG (dv σ.h u) cs with
   |none=>rfl
   |some y=>obtain⟨xs,o',u'⟩:=y;simp only[Option.map_some,Cx]
theorem adM (sz:Nat):∀(vs:List aj) (σ:St),σ.kY sz vs=(oy sz σ.h vs).map fun x=>(x.1,x.2.1,σ.dc x.2.2)
 |[],σ=>rfl
 |v::vs,σ=>by
  simp only[St.kY,oy]
  cases v.cells? with
  |none=>rfl
  |some x=>
   obtain⟨b,cs⟩:=x
   simp only
   split
   ·rw[KH]
    cases jG σ.h cs with
    |none=>rfl
    |some y=>
     obtain⟨e,o,u⟩:=y
     simp only[Option.map_some,adM sz vs,FJ]
     cases oy sz (dv σ.h u) vs with
     |none=>rfl
     |some y=>obtain⟨es,o',u'⟩:=y;simp only[Option.map_some,Cx]
   ·rfl
theorem aql {h:Nat->Option aq} {c:ah} {x:C} {o:Bool} {u:Us} (e:r6 h c=some (x,o,u)):∀q∈u,q.1∈c.nm:=by
 unfold r6 at e
 split at e
 ·injection e with e;injection e with _ e;injection e with _ e;subst e;intro q hq;cases hq
 ·split at e
  ·injection e with e;injection e with _ e;injection e with _ e;subst e;intro q hq;cases hq
  ·cases e
 ·split at e
  ·split at e
   ·injection e with e;injection e with _ e;injection e with _ e;subst e;intro q hq;simp at hq;subst hq;simp[ah.nm,ah.rR]
   ·cases e
  ·cases e
 ·cases e
theorem KG:∀{cs:List ah} {h:Nat->Option aq} {xs:List C} {o:Bool} {u:Us},jG h cs=some (xs,o,u)->∀q∈u,q.1∈cs.flatMap ah.nm
 |[],h,xs,o,u,e=>by
  simp only[jG] at e
  injection e with e;injection e with _ e;injection e with _ e;subst e;intro q hq;cases hq
 |c::cs,h,xs,o,u,e=>by
  simp only[jG] at e
  split at e
  ·rename_i x o1 u1 e1
   split at e
   ·rename_i ic o2 u2 e2
    injection e with e;injection e with _ e;injection e with _ e;subst e
    intro q hq
    rw[List.flatMap_cons]
    rcases List.mem_append.1 hq with hq|hq
    ·exact List.mem_append.2 (.inl (aql e1 q hq))
    ·exact List.mem_append.2 (.inr (KG e2 q hq))
   ·cases e
  ·cases e
theorem As {v:aj} {b:Bool} {cs:List ah} (h:v.cells?=some (b,cs)):cs.flatMap ah.nm=v.gf:=by
 cases v with
 |one c=>cases c<;>simp[aj.cells?] at h<;>(obtain⟨_,rfl⟩:=h;simp[aj.gf])
 |agg cs'=>simp[aj.cells?] at h;obtain⟨_,rfl⟩:=h;rfl
 |bo xs=>simp[aj.cells?] at h
theorem adL {sz:Nat}:∀{vs:List aj} {h:Nat->Option aq} {xs:List (List C)} {o:Bool} {u:Us},oy sz h vs=some (xs,o,u)->∀q∈u,q.1∈vs.flatMap aj.gf
 |[],h,xs,o,u,e=>by
  simp only[oy] at e
  injection e with e;injection e with _ e;injection e with _ e;subst e;intro q hq;cases hq
 |v::vs,h,xs,o,u,e=>by
  simp only[oy] at e
  split at e
  ·rename_i b cs hv
   split at e
   ·split at e
    ·rename_i x o1 u1 e1
     split at e
     ·rename_i ic o2 u2 e2
      injection e with e;injection e with _ e;injection e with _ e;subst e
      intro q hq
      rw[List.flatMap_cons]
      rcases List.mem_append.1 hq with hq|hq
      ·exact List.mem_append.2 (.inl (As hv▸KG e1 q hq))
      ·exact List.mem_append.2 (.inr (adL e2 q hq))
     ·cases e
    ·cases e
   ·cases e
  ·cases e
theorem FH {h h':Nat->Option aq} {n:Nat} (hh:h' n=h n) (u:Us):dv h' u n=dv h u n:=by
 by_cases hu:∃p∈u,p.1=n
 ·exact FI hu
 ·rw[nC fun p hp e=>hu ⟨p,hp,e⟩,nC fun p hp e=>hu ⟨p,hp,e⟩,hh]
theorem aqk {h h':Nat->Option aq} {c:ah} (hh:∀n∈c.nm,h' n=h n):r6 h' c=r6 h c:=by
 cases c with
 |sl n sz lo len=>simp only[r6];rw[hh n (by simp[ah.nm,ah.rR])]
 |_=>rfl
theorem KF:∀{cs:List ah} {h h':Nat->Option aq},(∀n∈cs.flatMap ah.nm,h' n=h n)->jG h' cs=jG h cs
 |[],h,h',_=>rfl
 |c::cs,h,h',hh=>by
  simp only[jG]
  rw[aqk fun n hn=>hh n (by rw[List.flatMap_cons];exact List.mem_append.2 (.inl hn))]
  cases r6 h c with
  |none=>rfl
  |some x=>
   obtain⟨x,o,u⟩:=x
   simp only
   rw[KF (cs:=cs) (h:=dv h u) (h':=dv h' u) fun n hn=>FH (hh n (by rw[List.flatMap_cons];exact List.mem_append.2 (.inr hn))) u]
theorem adK {sz:Nat}:∀{vs:List aj} {h h':Nat->Option aq},(∀n∈vs.flatMap aj.gf,h' n=h n)->oy sz h' vs=oy sz h vs
 |[],h,h',_=>rfl
 |v::vs,h,h',hh=>by
  simp only[oy]
  cases hv:v.cells? with
  |none=>rfl
  |some x=>
   obtain⟨b,cs⟩:=x
   simp only
   rw[KF (cs:=cs) fun n hn=>hh n (by rw[List.flatMap_cons];exact List.mem_append.2 (.inl (As hv▸hn)))]
   cases jG h cs with
   |none=>rfl
   |some y=>
    obtain⟨e,o,u⟩:=y
    simp only
    rw[adK (vs:=vs) (h:=dv h u) (h':=dv h' u) fun n hn=>FH (hh n (by rw[List.flatMap_cons];exact List.mem_append.2 (.inr hn))) u]
def xp (h:Nat->Option aq) (n:Nat) (gr:Bool) (m:Mode) (rs:Nat) (xs:List (List C)) (k off:Nat) (e:List C) (vs:List ah):Option Us:=
 match sub e off vs.length with
 |none=>none
 |some f0=>match jG h vs with
  |none=>none
  |some (cs,o,u)=>
   if m=.live then
    if fq cs=true/\fq f0=true/\(dv h u n).isSome=true then some (u++[(n,some (.row gr m rs (xs.set k (bX e off cs))))]) else none
   else if(dv h u n).isSome=true then some (u++[(n,some (.row gr (if o=true then m else .aO) rs (xs.set k (bX e off cs))))])
   else none
theorem ap6 (σ:St) (n:Nat) (gr:Bool) (m:Mode) (rs:Nat) (xs:List (List C)) (k off:Nat) (e:List C) (vs:List ah):
  mU σ n gr m rs xs k off e vs=(xp σ.h n gr m rs xs k off e vs).map fun u=>σ.dc u:=by
 unfold mU xp
 cases sub e off vs.length with
 |none=>rfl
 |some f0=>
  simp only[KH]
  cases jG σ.h vs with
  |none=>rfl
  |some x=>
   obtain⟨cs,o,u⟩:=x
   simp only[Option.map_some,FJ]
   repeat' split
   all_goals first|rfl|(simp only[Option.map_some,Cx];rfl)
def vE (h:Nat->Option aq) (sz:Nat):aj->Option (List (List C)×Mode×List (Nat×Option aq))
 |.one (.nil _)=>some ([],.ab,[])
 |.one (.sl a s 0 len)=>match h a with
  |some (.row true m rs xs)=>if rs=sz/\s=sz/\len=xs.length then some (xs,m,[(a,none)]) else none
  |_=>none
 |_=>none
def tK (fl:Bool) (h:Nat->Option aq) (sz:Nat) (m:Mode):aj->Option (List (List C)×Mode×List (Nat×Option aq))
  |.one (.nil _)=>some ([],m,[])
  |.one (.c (.list s ys))=>if s=sz then(if(fl&&fQ ys)=true then some (ys,m,[]) else if m=.live then none else some (ys,.aO,[])) else none
  |.one (.sl b s lo len)=>match h b with
   |some (.row _ m' rs ys)=>if rs=sz/\s=sz/\lo+len<=ys.length then
       (if(fl&&fQ ((ys.drop lo).take len))=true then some ((ys.drop lo).take len,m,[])
        else if lo=0/\len=ys.length then(if m=m' then some (ys,m,[(b,none)]) else if m=.live\/m'=.live then none else some (ys,.aO,[(b,none)])) else none)
    else none
   |_=>none
  |_=>none
theorem ael (σ:St) (sz:Nat) (v:aj):pI σ sz v=(vE σ.h sz v).map fun x=>(x.1,x.2.1,σ.dc x.2.2):=by
 cases v with
 |one v=>cases v with
  |sl a s lo len=>cases lo with
   |zero=>
    simp only[pI,vE]
    cases σ.h a with
    |none=>rfl
    |some b=>cases b with
     |box cs=>rfl
     |row gr m rs xs=>cases gr with
      |true=>simp only;split<;>rfl
      |false=>rfl
   |succ lo=>rfl
  |_=>rfl
 |_=>rfl
theorem aen (fl:Bool) (σ:St) (sz:Nat) (m:Mode) (v:aj):lm fl σ sz m v=(tK fl σ.h sz m v).map fun x=>(x.1,x.2.1,σ.dc x.2.2):=by
 cases v with
 |one v=>cases v with
  |sl b s lo len=>
   simp only[lm,tK]
   cases σ.h b with
   |none=>rfl
   |some b=>cases b with
    |box cs=>rfl
    |row gr m rs xs=>
     simp only
     repeat' split
     all_goals rfl
  |c x=>cases x with
   |list s ys=>
    simp only[lm,tK]
    repeat' split
    all_goals rfl
   |_=>rfl
  |_=>rfl
 |_=>rfl
def lp (h:Nat->Option aq):List aj->Option (List Dv×List Nat×Us)
 |[]=>some ([],[],[])
 |v::vs=>match lr h v with
  |some (n,xs)=>match lp h vs with
   |some (ds,ns,u)=>some ((.ptr,xs)::ds,n::ns,u)
   |none=>none
  |none=>match v.cells? with
   |some (ag,cs)=>match jG h cs with
    |some (xs,_,u)=>match lp (dv h u) vs with
     |some (ds,ns,u')=>some ((if ag=true then .agg else .one,xs)::ds,ns,u++u')
     |none=>none
    |none=>none
   |none=>none
theorem Mk:∀(vs:List aj) (σ:St),σ.gF vs=(lp σ.h vs).map fun x=>(x.1,x.2.1,σ.dc x.2.2)
 |[],σ=>rfl
 |v::vs,σ=>by
  simp only[St.gF,lp]
  cases lr σ.h v with
  |some x=>
   obtain⟨n,xs⟩:=x
   simp only[Mk vs σ]
   cases lp σ.h vs<;>rfl
  |none=>
   simp only
   cases v.cells? with
   |none=>rfl
   |some x=>
    obtain⟨ag,cs⟩:=x
    simp only
    rw[KH]
    cases jG σ.h cs with
    |none=>rfl
    |some y=>
     obtain⟨e,o,u⟩:=y
     simp only[Option.map_some,Mk vs,FJ]
     cases lp (dv σ.h u) vs with
     |none=>rfl
     |some y=>obtain⟨ds,ns,u'⟩:=y;simp only[Option.map_some,Cx]
theorem aez {h:Nat->Option aq} {v:aj} {n:Nat} {xs:List C} (e:lr h v=some (n,xs)):n∈v.gf:=by
 obtain⟨sz,cs,rfl,_⟩:=Mm e
 simp[aj.gf,ah.nm,ah.rR]
theorem HJ:∀{vs:List aj} {h:Nat->Option aq} {ds:List Dv} {ns:List Nat} {u:Us},lp h vs=some (ds,ns,u)->(∀q∈u,q.1∈vs.flatMap aj.gf)/\∀n∈ns,n∈vs.flatMap aj.gf
 |[],h,ds,ns,u,e=>by
  simp only[lp] at e
  injection e with e;injection e with _ e;injection e with e1 e;subst e e1;exact⟨fun q hq=>(by cases hq),fun q hq=>(by cases hq)⟩
 |v::vs,h,ds,ns,u,e=>by
  simp only[lp] at e
  split at e
  ·rename_i n xs hp
   split at e
   ·rename_i tW jX u' e2
    injection e with e;injection e with _ e;injection e with e1 e;subst e e1
    obtain⟨i1,i2⟩:=HJ e2
    rw[List.flatMap_cons]
    refine⟨fun q hq=>List.mem_append.2 (.inr (i1 q hq)),fun m hm=>?_⟩
    rcases List.mem_cons.1 hm with rfl|hm
    ·exact List.mem_append.2 (.inl (aez hp))
    ·exact List.mem_append.2 (.inr (i2 m hm))
   ·cases e
  ·split at e
   ·rename_i b cs hv
    split at e
    ·rename_i x o1 u1 e1
     split at e
     ·rename_i ds2 ns2 u2 e2
      injection e with e;injection e with _ e;injection e with e3 e;subst e e3
      obtain⟨i1,i2⟩:=HJ e2
      rw[List.flatMap_cons]
      refine⟨fun q hq=>?_,fun m hm=>List.mem_append.2 (.inr (i2 m hm))⟩
      rcases List.mem_append.1 hq with hq|hq
      ·exact List.mem_append.2 (.inl (As hv▸KG e1 q hq))
      ·exact List.mem_append.2 (.inr (i1 q hq))
     ·cases e
    ·cases e
   ·cases e
theorem aey {h h':Nat->Option aq} {v:aj} (hh:∀n∈v.gf,h' n=h n):lr h' v=lr h v:=by
 cases v with
 |one c=>cases c with
  |ptr n k sz off=>simp only[lr];rw[hh n (by simp[aj.gf,ah.nm,ah.rR])]
  |_=>rfl
 |_=>rfl
theorem Mi:∀{vs:List aj} {h h':Nat->Option aq},(∀n∈vs.flatMap aj.gf,h' n=h n)->lp h' vs=lp h vs
 |[],h,h',_=>rfl
 |v::vs,h,h',hh=>by
  have h1:∀n∈v.gf,h' n=h n:=fun n hn=>hh n (by rw[List.flatMap_cons];exact List.mem_append.2 (.inl hn))
  have h2:∀n∈vs.flatMap aj.gf,h' n=h n:=fun n hn=>hh n (by rw[List.flatMap_cons];exact List.mem_append.2 (.inr hn))
  simp only[lp]
  rw[aey h1]
  cases lr h v with
  |some x=>
   obtain⟨n,xs⟩:=x
   simp only
   rw[Mi h2]
  |none=>
   simp only
   cases hv:v.cells? with
   |none=>rfl
   |some x=>
    obtain⟨b,cs⟩:=x
    simp only
    rw[KF (cs:=cs) fun n hn=>h1 n (As hv▸hn)]
    cases jG h cs with
    |none=>rfl
    |some y=>
     obtain⟨e,o,u⟩:=y
     simp only
     rw[Mi (vs:=vs) (h:=dv h u) (h':=dv h' u) fun n hn=>FH (h2 n hn) u]
def u0 (h:Nat->Option aq):List Nat->List C->Option Us
 |[],[]=>some []
 |[n],out=>match h n with
  |some (.box cs)=>if cs.length=out.length then some [(n,some (.box (out.map .c)))] else none
  |_=>none
 |_,_=>none
theorem aoM (σ:St) (ns:List Nat) (out:List C):σ.qF ns out=(u0 σ.h ns out).map σ.dc:=by
 match ns,out with
 |[],[]=>rfl
 |[],_::_=>rfl
 |[n],out=>
  simp only[St.qF,u0]
  cases σ.h n with
  |none=>rfl
  |some b=>
   cases b with
   |box cs=>simp only;split<;>rfl
   |row gr m rs xs=>rfl
 |_::_::_,out=>rfl
theorem aoL {h:Nat->Option aq} {ns:List Nat} {out:List C} {u:Us} (e:u0 h ns out=some u):∀q∈u,q.1∈ns:=by
 unfold u0 at e
 split at e
 ·injection e with e;subst e;intro q hq;cases hq
 ·split at e
  ·split at e
   ·injection e with e;subst e;intro q hq;simp at hq;subst hq;simp
   ·cases e
  ·cases e
 ·cases e
theorem aoK {h h':Nat->Option aq} {ns:List Nat} {out:List C} (hh:∀n∈ns,h' n=h n):u0 h' ns out=u0 h ns out:=by
 match ns,out with
 |[],[]=>rfl
 |[],_::_=>rfl
 |[n],out=>simp only[u0];rw[hh n (by simp)]
 |_::_::_,out=>rfl
def Aj (d:Option Nat):List Dv->Option (aj×List (Nat×aq))
 |[(.ptr,cs)]=>match d with
  |some q=>some (.one (.ptr q 0 0 0),[(q,.box (cs.map .c))])
  |none=>none
 |rs=>match gj rs with
  |some ls=>some (kQ ls,[])
  |none=>none
theorem aeA (σ:St) (d:Option Nat) (rs:List Dv):pK σ d rs=(Aj d rs).bind fun x=>(σ.ct x.2).map (·.put d x.1):=by
 unfold pK
 split
 ·cases d with
  |none=>rfl
  |some q=>
   simp only[Aj,Option.bind_some,St.ct]
   cases σ.ins q _<;>rfl
 ·rename_i aE
  have e:Aj d rs=match gj rs with
    |some ls=>some (kQ ls,[])
    |none=>none:=by
   unfold Aj
   split
   ·exact absurd rfl (aE _)
   ·rfl
  rw[e]
  cases gj rs with
  |none=>rfl
  |some ls=>rfl
abbrev L9:=aj×List (Nat×Option aq)×List (Nat×aq)
def eJ (T:aS) (d:Option Nat) (op:aF) (ev:MO->aj) (h:Nat->Option aq):Option L9:=
 match op with
 |.store sz x v=>match ev x,(ev v).cells? with
  |.one (.ptr n k aD off),some (_,vs)=>if vs.length=sz then
   match h n with
   |some (.box cs)=>if k=0/\off+sz<=cs.length then some (.one .bn,[(n,some (.box (bX cs off vs)))],[]) else none
   |some (.row gr m rs xs)=>if aD=rs then
    match xs[k]? with
    |some e=>match xp h n gr m rs xs k off e vs with
     |some u=>some (.one .bn,u,[])
     |none=>none
    |none=>none
    else none
   |none=>none
   else none
  |.one (.cN n k aD off s i),some (_,vs)=>if vs.length=sz then
   match h n with
   |some (.row gr .live rs xs)=>if aD=rs then
    match vc xs k off s i vs with
    |some ar=>some (.one .bn,[(n,some (.row gr .live rs ar))],[])
    |none=>none
    else none
   |_=>none
   else none
  |_,_=>none
 |.e7 sz ps=>match d,oy sz h (ps.map ev) with
  |some n,some (es,o,u)=>some (.one (.sl n sz 0 es.length),u,[(n,.row true (if o=true then .ab else .aO) sz es)])
  |_,_=>none
 |.append fl sz by_ x y=>match d with
  |none=>none
  |some n=>match vE h sz (ev x) with
   |none=>none
   |some (xs,m,u1)=>match tK fl (dv h u1) sz m (ev y) with
    |none=>none
    |some (ys,m2,u2)=>if(xs.length+ys.length)*by_<=dA then some (.one (.sl n sz 0 (xs.length+ys.length)),u1++u2,[(n,.row true m2 sz (xs++ys))]) else none
 |.jh f xs=>match lp h (xs.map ev),aS.j9 T.vs f with
  |some (ds,ns,u),some M=>match M ds with
   |some (rs,out)=>match u0 (dv h u) ns out,Aj d rs with
    |some u',some (v,is)=>some (v,u++u',is)
    |_,_=>none
   |none=>none
  |_,_=>none
 |.copy sz x y=>match ev x,ev y with
  |.one (.sl n s lo len),.one c=>match h n,bU h c with
   |some (.row gr m rs xs),some (.list s' ys)=>if sz=1/\s=1/\rs=1/\s'=1/\m≠ .aO/\fQ xs=true/\fQ ys=true/\lo+len<=xs.length then
    some (.one (.c (.int .i64 (Nat.min ys.length len:Nat))),[(n,some (.row gr m 1 (bX xs lo (ys.take len))))],[]) else none
   |_,_=>none
  |_,_=>none
 |.kB z x=>match ev x with
  |.one (.sl n s lo len)=>match h n with
   |some (.row gr m rs xs)=>if s=1/\rs=1/\z.eF=true/\m≠ .aO/\fQ xs=true/\lo+len<=xs.length then
    some (.bo [],[(n,some (.row gr m 1 (bX xs lo (List.replicate len [z]))))],[]) else none
   |_=>none
  |_=>none
 |op=>(rd T d op ev h).map fun x=>(x.1,[],x.2)
def vR (d:Option Nat) (σ:St) (p:L9):Option St:=((σ.dc p.2.1).ct p.2.2).map (·.put d p.1)
theorem It {T:aS} {d:Option Nat} {op:aF} {σ:St} {ws:List Nat} (hw:op.j4 σ.ev σ.h=some ws) (hd:∀sz x v,op=.store sz x v->d=none):
  exec T d op σ=(eJ T d op σ.ev σ.h).bind (vR d σ):=by
 by_cases hc:op.dE<=1
 ·rw[oK T d op σ hc]
  have:eJ T d op σ.ev σ.h=(rd T d op σ.ev σ.h).map fun x=>(x.1,[],x.2):=by
   cases op<;>first|rfl|(simp[aF.dE] at hc)
  rw[this]
  cases rd T d op σ.ev σ.h with
  |none=>rfl
  |some x=>rfl
 ·cases op<;>simp[aF.dE] at hc<;>simp only[aF.j4] at hw
  case eN=>cases hw
  case copy sz x y=>
   simp only[exec,eJ]
   cases σ.ev x with
   |one p=>cases p with
    |sl n s lo len=>
     cases σ.ev y with
     |one c=>
      simp only
      cases σ.h n with
      |none=>rfl
      |some b=>cases b with
       |box cs=>rfl
       |row gr m rs xs=>
        cases bU σ.h c with
        |none=>rfl
        |some q=>cases q with
         |list s' ys=>
          simp only
          split<;>rfl
         |_=>rfl
     |_=>rfl
    |_=>rfl
   |_=>rfl
  case kB z x=>
   simp only[exec,eJ]
   cases σ.ev x with
   |one p=>cases p with
    |sl n s lo len=>
     simp only
     cases σ.h n with
     |none=>rfl
     |some b=>cases b with
      |box cs=>rfl
      |row gr m rs xs=>
       simp only
       split<;>rfl
    |_=>rfl
   |_=>rfl
  case tail=>cases hw
  case mO=>cases hw
  case jh f xs=>
   simp only[exec,eJ,pQ,Mk]
   cases lp σ.h (xs.map σ.ev) with
   |none=>rfl
   |some x=>
    obtain⟨ds,ns,u⟩:=x
    simp only[Option.map_some]
    cases aS.j9 T.vs f with
    |none=>rfl
    |some M=>
     simp only
     cases M ds with
     |none=>rfl
     |some z=>
      obtain⟨rs,out⟩:=z
      simp only[aoM,FJ]
      cases u0 (dv σ.h u) ns out with
      |none=>rfl
      |some u'=>
       simp only[Option.map_some,aeA]
       cases Aj d rs with
       |none=>rfl
       |some z=>
        obtain⟨v,is⟩:=z
        simp only[Option.bind_some,vR,Cx]
  case e7 sz ps=>
   simp only[exec,eJ]
   rw[adM]
   cases d with
   |none=>rfl
   |some n=>
    cases oy sz σ.h (ps.map σ.ev) with
    |none=>rfl
    |some x=>
     obtain⟨es,o,u⟩:=x
     simp only[Option.map_some,Option.bind_some,vR,St.ct]
     cases (σ.dc u).ins n (.row true (if o=true then .ab else .aO) sz es)<;>rfl
  case append fl sz by_ x y=>
   simp only[exec,eJ,ael]
   cases d with
   |none=>rfl
   |some n=>
    simp only
    cases vE σ.h sz (σ.ev x) with
    |none=>rfl
    |some z=>
     obtain⟨xs,m,u1⟩:=z
     simp only[Option.map_some,aen]
     have hh:(σ.dc u1).h=dv σ.h u1:=by rw[lc]
     rw[hh]
     cases tK fl (dv σ.h u1) sz m (σ.ev y) with
     |none=>rfl
     |some z=>
      obtain⟨ys,m2,u2⟩:=z
      simp only[Option.map_some]
      split
      ·simp only[Option.bind_some,vR,Cx,St.ct]
       cases ((σ.dc u1).dc u2).ins n (.row true m2 sz (xs++ys))<;>rfl
      ·rfl
  case store sz x v=>
   have hd:=hd sz x v rfl
   subst hd
   simp only[exec,eJ]
   split at hw
   ·rename_i n k aD off hx
    simp only[hx]
    cases hv:(σ.ev v).cells? with
    |none=>rfl
    |some y=>
     obtain⟨ag,vs⟩:=y
     simp only
     split
     ·split at hw
      ·rename_i cs hn
       simp only[hn]
       split
       ·rfl
       ·rfl
      ·rename_i gr m rs xs hn
       simp only[hn]
       split
       ·cases xs[k]? with
        |none=>rfl
        |some e=>
         simp only
         rw[ap6]
         cases xp σ.h n gr m rs xs k off e vs with
         |none=>rfl
         |some b=>rfl
       ·rfl
      ·cases hw
     ·rfl
   ·rename_i n k aD off s i hx
    simp only[hx]
    cases hv:(σ.ev v).cells? with
    |none=>rfl
    |some y=>
     obtain⟨ag,vs⟩:=y
     simp only
     split
     ·cases σ.h n with
      |none=>rfl
      |some b=>cases b with
       |box cs=>rfl
       |row gr m rs xs=>cases m with
        |live=>
         simp only
         split
         ·cases vc xs k off s i vs<;>rfl
         ·rfl
        |_=>rfl
     ·rfl
   ·cases hw
theorem WY {T:aS} {d:Option Nat} {op:aF} {ev:MO->aj} {h:Nat->Option aq} {ws:List Nat} {p:L9} (hw:op.j4 ev h=some ws) (ha:eJ T d op ev h=some p):∀q∈p.2.1,q.1∈ws:=by
 by_cases hc:op.dE<=1
 ·have:eJ T d op ev h=(rd T d op ev h).map fun x=>(x.1,[],x.2):=by
   cases op<;>first|rfl|(simp[aF.dE] at hc)
  rw[this,Option.map_eq_some_iff] at ha
  obtain⟨x,_,rfl⟩:=ha
  intro q hq
  cases hq
 ·cases op<;>simp[aF.dE] at hc<;>simp only[aF.j4] at hw
  case eN=>cases hw
  case copy sz x y=>
   simp only[eJ] at ha
   split at ha
   ·rename_i n s lo len c hx hy
    simp only[hx] at hw
    injection hw with hw
    subst hw
    repeat' split at ha
    all_goals first|cases ha|skip
    intro q hq
    simp at hq
    subst hq
    simp
   ·cases ha
  case kB z x=>
   simp only[eJ] at ha
   split at ha
   ·rename_i n s lo len hx
    simp only[hx] at hw
    injection hw with hw
    subst hw
    repeat' split at ha
    all_goals first|cases ha|skip
    intro q hq
    simp at hq
    subst hq
    simp
   ·cases ha
  case tail=>cases hw
  case mO=>cases hw
  case jh f xs=>
   injection hw with hw
   subst hw
   simp only[eJ] at ha
   split at ha
   ·rename_i ds ns u M e1 e2
    split at ha
    ·rename_i rs out e3
     split at ha
     ·rename_i u' v is e4 e5
      injection ha with ha;subst ha
      obtain⟨i1,i2⟩:=HJ e1
      intro q hq
      rw[List.flatMap_map] at i1 i2
      rcases List.mem_append.1 hq with hq|hq
      ·exact i1 q hq
      ·exact i2 _ (aoL e4 q hq)
     ·cases ha
    ·cases ha
   ·cases ha
  case e7 sz ps=>
   injection hw with hw
   subst hw
   simp only[eJ] at ha
   split at ha
   ·rename_i n es o u e
    injection ha with ha;subst ha
    intro q hq
    have:=adL e q hq
    rw[List.flatMap_map] at this
    exact this
   ·cases ha
  case append fl sz by_ x y=>
   injection hw with hw
   subst hw
   simp only[eJ] at ha
   split at ha
   ·cases ha
   ·split at ha
    ·cases ha
    ·rename_i xs m u1 e1
     split at ha
     ·cases ha
     ·rename_i ys m2 u2 e2
      split at ha
      ·injection ha with ha
       subst ha
       intro q hq
       rcases List.mem_append.1 hq with sV|sV
       ·clear hq
        refine List.mem_append.2 (.inl ?_)
        unfold vE at e1
        split at e1
        ·injection e1 with e1;injection e1 with _ e1;injection e1 with _ e1;subst e1;cases sV
        ·rename_i a s len hv
         split at e1
         ·split at e1
          ·injection e1 with e1;injection e1 with _ e1;injection e1 with _ e1;subst e1
           simp at sV;subst sV;simp[aj.gf,ah.nm,ah.rR,hv]
          ·cases e1
         ·cases e1
        ·cases e1
       ·clear hq
        refine List.mem_append.2 (.inr ?_)
        have AU:∀(b:Nat),u2=[]\/u2=[(b,none)]->b∈(ev y).gf->q.1∈(ev y).gf:=by
         intro b hb hm
         rcases hb with hb|hb
         ·subst hb;cases sV
         ·subst hb;simp at sV;subst sV;exact hm
        unfold tK at e2
        split at e2
        ·injection e2 with e2;injection e2 with _ e2;injection e2 with _ e2;subst e2;cases sV
        ·repeat' split at e2
         all_goals first|cases e2|skip
         all_goals (cases sV)
        ·rename_i b s lo len hv
         have hm:b∈(ev y).gf:=by simp[hv,aj.gf,ah.nm,ah.rR]
         refine AU b ?_ hm
         repeat' split at e2
         all_goals first|cases e2|skip
         all_goals first|exact .inl rfl|exact .inr rfl
        ·cases e2
      ·cases ha
  case store sz x v=>
   simp only[eJ] at ha
   split at ha
   ·rename_i n k aD off b vs hx hv
    simp only[hx] at hw
    split at ha
    ·split at ha
     ·rename_i cs hn
      simp only[hn] at hw
      split at ha
      ·injection ha with ha;subst ha;injection hw with hw;subst hw
       intro q hq;simp at hq;subst hq;simp
      ·cases ha
     ·rename_i gr m rs xs hn
      simp only[hn] at hw
      injection hw with hw
      subst hw
      split at ha
      ·split at ha
       ·split at ha
        ·rename_i u e0
         injection ha with ha;subst ha
         intro q hq
         have hq:q∈u:=hq
         have two:∀(u1:Us) (bb:Option aq),u=u1++[(n,bb)]->(∀q∈u1,q.1∈vs.flatMap ah.nm)->q.1∈n::(ev v).gf:=by
          intro u1 bb he Bc
          rw[he] at hq
          rcases List.mem_append.1 hq with hq|hq
          ·exact List.mem_cons_of_mem _ (As hv▸Bc q hq)
          ·simp at hq;subst hq;simp
         unfold xp at e0
         split at e0
         ·cases e0
         ·split at e0
          ·cases e0
          ·rename_i cs o u1 e1
           have Bc:=KG e1
           repeat' split at e0
           all_goals first|(injection e0 with e0;exact two _ _ e0.symm Bc)|cases e0
        ·cases ha
       ·cases ha
      ·cases ha
     ·cases ha
    ·cases ha
   ·rename_i n k aD off s i b vs hx hv
    simp only[hx] at hw
    injection hw with hw
    subst hw
    repeat' split at ha
    all_goals first|cases ha|skip
    intro q hq
    simp at hq
    subst hq
    simp
   ·cases ha
section
variable {T:aS} {d:Option Nat} {op:aF} {ev ev':MO->aj} {h h':Nat->Option aq}
theorem ED (bq:∀x∈op.args,ev' x=ev x):op.iJ ev'=op.iJ ev:=by
 unfold aF.iJ
 generalize op.args=l at bq
 induction l with
 |nil=>rfl
 |cons x l ih=>simp only[List.flatMap_cons];rw[bq x (by simp),ih fun y hy=>bq y (List.mem_cons_of_mem _ hy)]
theorem Xl:∀{l:List Nat} (_:∀n∈l,h' n=h n),Ap h' l=Ap h l
 |[],_=>rfl
 |n::l,hh=>by
  have:=Xl (l:=l) fun m hm=>hh m (List.mem_cons_of_mem _ hm)
  simp only[Ap,List.flatMap_cons] at this⊢
  rw[hh n (by simp),this]
theorem Sn (bq:∀x∈op.args,ev' x=ev x) (hh:∀n∈op.iJ ev,h' n=h n):op.lU ev' h'=op.lU ev h:=by
 unfold aF.lU
 rw[ED bq,Xl hh]
theorem KU (bq:∀x∈op.args,ev' x=ev x) (hh:∀n∈op.iJ ev,h' n=h n):op.j4 ev' h'=op.j4 ev h:=by
 cases op<;>first|rfl|skip
 case store sz x v=>
  have h1:=bq x (by simp[aF.args])
  have h2:=bq v (by simp[aF.args])
  simp only[aF.j4,h1,h2]
  cases hv:ev x with
  |one p=>cases p with
   |ptr n k aD off=>simp only;rw[hh n (pb.2 ⟨x,by simp[aF.args],by rw[hv];exact rfl⟩)]
   |_=>rfl
  |_=>rfl
 case copy sz x y=>
  simp only[aF.j4,bq x (by simp[aF.args])]
 case kB z x=>
  simp only[aF.j4,bq x (by simp[aF.args])]
 case jh f xs=>
  have:=ED (op:=.jh f xs) bq
  simp only[aF.iJ,aF.args] at this
  simp only[aF.j4,this]
 case e7 sz ps=>
  have:=ED (op:=.e7 sz ps) bq
  simp only[aF.iJ,aF.args] at this
  simp only[aF.j4,this]
 case append fl sz by_ x y=>
  simp only[aF.j4,bq x (by simp[aF.args]),bq y (by simp[aF.args])]
theorem WX (bq:∀x∈op.args,ev' x=ev x) (hh:∀n∈op.lU ev h,h' n=h n):eJ T d op ev' h'=eJ T d op ev h:=by
 have IW:∀n∈op.iJ ev,h' n=h n:=fun n hn=>hh n (JN hn)
 have hn:∀a∈op.args,∀n,(ev a).ref n->h' n=h n:=fun a ha n hr=>IW n (pb.2 ⟨a,ha,hr⟩)
 have gen:rd T d op ev' h'=rd T d op ev h:=by
  rw[B0 T d op _ bq]
  refine abX (u:=fun n=>h' n=h n) (vv:=fun n=>n∈op.iJ ev) T d op ev (fun n hn=>hn) (fun hc m cs c n hm hb ew hr=>?_) (fun x hx m hm=>hn x hx m hm) (fun x hx m hm=>pb.2 ⟨x,hx,hm⟩)
  refine hh n ?_
  unfold aF.lU
  rw[hc]
  refine List.mem_append.2 (.inr ?_)
  unfold Ap
  rw[List.mem_flatMap]
  exact⟨m,hm,by rw[hb];exact List.mem_flatMap.2 ⟨c,ew,ah.EE.2 hr⟩⟩
 cases op<;>first|(simp only[eJ];rw[gen];done)|skip
 case store sz x v=>
  have h1:=bq x (by simp[aF.args])
  have h2:=bq v (by simp[aF.args])
  simp only[eJ,h1,h2]
  have h3:=hn x (by simp[aF.args])
  cases hv:ev x with
  |one p=>cases p with
   |ptr n k aD off=>
    rw[hv] at h3
    have h3:=h3 n rfl
    have h5:=hn v (by simp[aF.args])
    cases hc:(ev v).cells? with
    |none=>rfl
    |some y=>
     obtain⟨b,vs⟩:=y
     have h6:∀gr m rs xs e,xp h' n gr m rs xs k off e vs=xp h n gr m rs xs k off e vs:=by
      intro gr m rs xs e
      have h7:jG h' vs=jG h vs:=KF fun q hq=>h5 q (aj.y9.1 (As hc▸hq))
      unfold xp
      rw[h7]
      cases jG h vs with
      |none=>rfl
      |some y=>
       obtain⟨cs,o,u⟩:=y
       simp only[FH h3 u]
     simp only[h3,h6]
   |cN n k aD off s i=>
    rw[hv] at h3
    have h3:=h3 n rfl
    cases hc:(ev v).cells? with
    |none=>rfl
    |some y=>
     simp only[h3]
   |_=>cases (ev v).cells?<;>rfl
  |_=>cases (ev v).cells?<;>rfl
 case copy sz x y=>
  have h1:=bq x (by simp[aF.args])
  have h2:=bq y (by simp[aF.args])
  have h3:=hn x (by simp[aF.args])
  have h4:=hn y (by simp[aF.args])
  simp only[eJ,h1,h2]
  cases hv:ev x with
  |one p=>cases p with
   |sl n s lo len=>
    rw[hv] at h3
    have h3:=h3 n rfl
    cases hc:ev y with
    |one c=>
     rw[hc] at h4
     have h5:bU h' c=bU h c:=zy (u:=fun n=>h' n=h n) (fun n hn=>hn) fun m hm=>h4 m (ah.xa hm)
     simp only[h3,h5]
    |_=>rfl
   |_=>rfl
  |_=>rfl
 case kB z x=>
  have h1:=bq x (by simp[aF.args])
  have h3:=hn x (by simp[aF.args])
  simp only[eJ,h1]
  cases hv:ev x with
  |one p=>cases p with
   |sl n s lo len=>
    rw[hv] at h3
    have h3:=h3 n rfl
    simp only[h3]
   |_=>rfl
  |_=>rfl
 case jh f xs=>
  have hl:xs.map ev'=xs.map ev:=List.map_congr_left bq
  have h2:lp h' (xs.map ev)=lp h (xs.map ev):=Mi fun n bk=>by
   rw[List.flatMap_map] at bk
   exact IW n bk
  simp only[eJ,hl,h2]
  cases e1:lp h (xs.map ev) with
  |none=>rfl
  |some x=>
   obtain⟨ds,ns,u⟩:=x
   try simp only
   cases aS.j9 T.vs f with
   |none=>rfl
   |some M=>
    try simp only
    cases M ds with
    |none=>rfl
    |some z=>
     obtain⟨rs,out⟩:=z
     try simp only
     rw[aoK (h:=dv h u) (h':=dv h' u) fun n bk=>FH (IW n (by
      have:=(HJ e1).2 n bk
      rw[List.flatMap_map] at this
      exact this)) u]
 case e7 sz ps=>
  have hl:ps.map ev'=ps.map ev:=List.map_congr_left bq
  have h2:oy sz h' (ps.map ev)=oy sz h (ps.map ev):=adK fun n bk=>by
   rw[List.flatMap_map] at bk
   exact IW n bk
  simp only[eJ,hl,h2]
 case append fl sz by_ x y=>
  have h1:=bq x (by simp[aF.args])
  have h2:=bq y (by simp[aF.args])
  have h3:=hn x (by simp[aF.args])
  have h4:=hn y (by simp[aF.args])
  have e1:vE h' sz (ev x)=vE h sz (ev x):=by
   cases hv:ev x with
   |one p=>cases p with
    |sl a s lo len=>
     rw[hv] at h3
     cases lo with
     |zero=>simp only[vE,h3 a rfl]
     |succ lo=>rfl
    |_=>rfl
   |_=>rfl
  have e2:∀(us:List (Nat×Option aq)) (m:Mode),tK fl (dv h' us) sz m (ev y)=tK fl (dv h us) sz m (ev y):=by
   intro us m
   cases hv:ev y with
   |one p=>cases p with
    |sl b s lo len=>
     rw[hv] at h4
     have hb:dv h' us b=dv h us b:=by
      by_cases hu:∃p∈us,p.1=b
      ·exact FI hu
      ·rw[nC fun p hp e=>hu ⟨p,hp,e⟩,nC fun p hp e=>hu ⟨p,hp,e⟩]
       exact h4 b rfl
     simp only[tK,hb]
    |c x=>cases x<;>rfl
    |_=>rfl
   |_=>rfl
  simp only[eJ,h1,h2,e1,e2]
end
theorem M1 {f g:List Nat×List Nat} (h:C9 f g=true) {n:Nat} (h1:n∈f.2) (h2:n∈g.1):False:=by
 simp only[C9,Bool.and_eq_true,List.all_eq_true] at h
 have:=h.1 n h1
 simp[h2] at this
theorem aff {f g:List Nat×List Nat} (h:C9 f g=true) {n:Nat} (h1:n∈g.2) (h2:n∈f.1):False:=by
 simp only[C9,Bool.and_eq_true,List.all_eq_true] at h
 have:=h.2 n h1
 simp[h2] at this
theorem BK {σ:St} (W:Wf σ) {op:aF} (hf:∀a∈op.args,a.flat=true) {n:Nat} (hn:n∈op.iJ σ.ev):σ.used n=true:=by
 obtain⟨a,ha,hr⟩:=pb.1 hn
 exact W.arg (hf a ha) n hr
theorem abV {σ:St} (W:Wf σ) {op:aF} (hf:∀a∈op.args,a.flat=true) {n:Nat} (hn:n∈op.lU σ.ev σ.h):σ.used n=true:=by
 unfold aF.lU at hn
 cases hc:op.Ei with
 |true=>
  rw[hc] at hn
  rcases List.mem_append.1 hn with hn|hn
  ·exact BK W hf hn
  ·unfold Ap at hn
   rw[List.mem_flatMap] at hn
   obtain⟨m,hm,hn⟩:=hn
   split at hn
   ·rename_i cs hb
    obtain⟨c,hc,hr⟩:=List.mem_flatMap.1 hn
    exact W.box m cs c n hb hc (ah.EE.1 hr)
   ·cases hn
 |false=>rw[hc] at hn;exact BK W hf hn
section
variable {T:aS} {dx dy:Option Nat} {x y:aF} {σ σ1 σ2:St}
theorem Ze (W:Wf σ) (kg:∀n,dx=some n->MO.t n∉y.args) (yt:∀a∈y.args,a.flat=true) (uo:∀sz p v,x=.store sz p v->dx=none)
  (hc:x.dE<=1\/y.dE=0) (h1:exec T dx x σ=some σ1):y.fp σ1=y.fp σ:=by
 have rD:=vQ uo h1
 have bq:∀a∈y.args,σ1.ev a=σ.ev a:=fun a ha=>by
  cases a with
  |t n=>show σ1.env n=σ.env n;rw[rD];exact qG fun oS=>kg n oS ha
  |k v=>rfl
 rcases hc with hc|hc
 ·rw[oK T dx x σ hc] at h1
  have hh:∀n∈y.iJ σ.ev,σ1.h n=σ.h n:=by
   intro n hn
   cases hr:rd T dx x σ.ev σ.h with
   |none=>rw[hr] at h1;cases h1
   |some p=>
    rw[hr] at h1
    simp only[Option.bind_some,fin,Option.map_eq_some_iff] at h1
    obtain⟨A,hA,rfl⟩:=h1
    have:(A.put dx p.1).h=A.h:=by cases dx<;>rfl
    rw[this]
    exact((yO hA).1 n (BK W yt hn)).2
  unfold aF.fp
  rw[KU bq hh,Sn bq hh]
 ·unfold aF.fp
  have c1:y.Ei=false:=by cases y<;>first|rfl|(simp[aF.dE] at hc)
  have w:∀ev h,y.j4 ev h=some []:=by intro ev h;cases y<;>first|rfl|(simp[aF.dE] at hc)
  simp only[w,aF.lU,c1,cond_false,ED bq]
theorem ae6 (W:Wf σ) (hd:∀n,dx=some n->dy≠some n) (kg:∀n,dx=some n->MO.t n∉y.args) (sZ:∀n,dy=some n->MO.t n∉x.args)
  (IU:∀a∈x.args,a.flat=true) (yt:∀a∈y.args,a.flat=true)
  (uo:∀sz p v,x=.store sz p v->dx=none) (DN:∀sz p v,y=.store sz p v->dy=none) (hk:Da (x.fp σ) (y.fp σ1)=true)
  (h1:exec T dx x σ=some σ1) (h2:exec T dy y σ1=some σ2):∃τ,exec T dy y σ=some τ/\exec T dx x τ=some σ2/\y.fp σ1=y.fp σ/\x.fp τ=x.fp σ:=by
 unfold aF.fp at hk
 cases yc:x.j4 σ.ev σ.h with
 |none=>rw[yc] at hk;cases hk
 |some wx=>
 cases yd:y.j4 σ1.ev σ1.h with
 |none=>rw[yc,yd] at hk;cases hk
 |some wy=>
 rw[yc,yd] at hk
 simp only[Option.map_some,Da] at hk
 rw[It yc uo] at h1
 rw[It yd DN] at h2
 cases Ig:eJ T dx x σ.ev σ.h with
 |none=>rw[Ig] at h1;cases h1
 |some px=>
 obtain⟨vx,ux,nx⟩:=px
 rw[Ig] at h1
 simp only[Option.bind_some,vR,Option.map_eq_some_iff] at h1
 obtain⟨A,hA,rfl⟩:=h1
 have KK:∀q∈ux,q.1∈wx:=WY yc Ig
 have Wy:∀q∈ux,σ.used q.1=true:=fun q hq=>BK W IU (ad6 yc (KK q hq))
 obtain⟨A',Zk,rfl⟩:=P0 Wy hA
 obtain⟨oa,ea⟩:=yO Zk
 have qf:∀(s:St) (d:Option Nat) (v:aj),(s.put d v).h=s.h:=fun s d v=>by cases d<;>rfl
 have bq:∀a∈y.args,((A'.dc ux).put dx vx).ev a=σ.ev a:=fun a ha=>by
  rw[oh,Iq fun n hn=>qG fun oS=>kg n oS (hn▸ha)]
  cases a with
  |t n=>show(A'.dc ux).env n=σ.env n;rw[lc];show A'.env n=_;rw[ea]
  |k v=>rfl
 have aim:y.lU ((A'.dc ux).put dx vx).ev ((A'.dc ux).put dx vx).h=y.lU σ.ev σ.h/\y.j4 ((A'.dc ux).put dx vx).ev ((A'.dc ux).put dx vx).h=y.j4 σ.ev σ.h:=by
  have hh:∀n∈y.iJ σ.ev,((A'.dc ux).put dx vx).h n=σ.h n:=fun n hn=>by
   rw[qf,lc]
   show dv A'.h ux n=_
   rw[nC fun p hp e=>M1 hk (KK p hp) (by rw[e];exact JN (by rw[ED bq];exact hn))]
   exact(oa n (BK W yt hn)).2
  exact⟨Sn bq hh,KU bq hh⟩
 obtain⟨r1,r2⟩:=aim
 have hh:∀n∈y.lU σ.ev σ.h,((A'.dc ux).put dx vx).h n=σ.h n:=fun n hn=>by
  rw[qf,lc]
  show dv A'.h ux n=_
  rw[nC fun p hp e=>M1 hk (KK p hp) (by rw[e];show n∈y.lU _ _;rw[r1];exact hn)]
  exact(oa n (abV W yt hn)).2
 have eay:eJ T dy y ((A'.dc ux).put dx vx).ev ((A'.dc ux).put dx vx).h=eJ T dy y σ.ev σ.h:=WX bq hh
 rw[eay] at h2
 rw[r2] at yd
 cases Ih:eJ T dy y σ.ev σ.h with
 |none=>rw[Ih] at h2;cases h2
 |some py=>
 obtain⟨vy,uy,ny⟩:=py
 rw[Ih] at h2
 simp only[Option.bind_some,vR,Option.map_eq_some_iff] at h2
 obtain⟨D,hD,rfl⟩:=h2
 have uyw:∀q∈uy,q.1∈wy:=WY yd Ih
 have uyn:∀q∈uy,q.1∈y.iJ σ.ev:=fun q hq=>ad6 yd (uyw q hq)
 have Wz:∀q∈uy,σ.used q.1=true:=fun q hq=>BK W yt (uyn q hq)
 have uyA:∀q∈uy,A'.used q.1=true:=fun q hq=>(oa _ (Wz q hq)).1
 have uxA:∀q∈ux,A'.used q.1=true:=fun q hq=>(oa _ (Wy q hq)).1
 have vY:∀p∈ux,∀q∈uy,p.1≠q.1:=fun p hp q hq e=>M1 hk (KK p hp) (by rw[e];show q.1∈y.lU _ _;rw[r1];exact JN (uyn q hq))
 rw[oh,adU,yP,Option.map_eq_some_iff] at hD
 obtain⟨D0,hD0,rfl⟩:=hD
 obtain⟨D1,hD1,rfl⟩:=P0 (σ:=A'.dc ux) (fun q hq=>by rw[lc];exact uyA q hq) hD0
 obtain⟨F,hF,rfl⟩:=P0 uxA hD1
 obtain⟨C',hC,hCF⟩:=PZ Zk hF
 obtain⟨oc,ec⟩:=yO hC
 have uyC:∀q∈uy,C'.used q.1=true:=fun q hq=>(oc _ (Wz q hq)).1
 have uxC:∀q∈ux,C'.used q.1=true:=fun q hq=>(oc _ (Wy q hq)).1
 have IK:∀a∈x.args,((C'.dc uy).put dy vy).ev a=σ.ev a:=fun a ha=>by
  rw[oh,Iq fun n hn=>qG fun oS=>sZ n oS (hn▸ha)]
  cases a with
  |t n=>show(C'.dc uy).env n=σ.env n;rw[lc];show C'.env n=_;rw[ec]
  |k v=>rfl
 have ZI:∀n∈x.lU σ.ev σ.h,((C'.dc uy).put dy vy).h n=σ.h n:=fun n hn=>by
  rw[qf,lc]
  show dv C'.h uy n=_
  rw[nC fun p hp e=>aff hk (uyw p hp) (by rw[e];exact hn)]
  exact(oc n (abV W IU hn)).2
 have O3:∀n∈x.iJ σ.ev,((C'.dc uy).put dy vy).h n=σ.h n:=fun n hn=>ZI n (JN hn)
 refine⟨(C'.dc uy).put dy vy,?_,?_,?_,?_⟩
 ·rw[It yd DN,Ih]
  simp only[Option.bind_some,vR,Eg Wz hC,Option.map_some]
 ·rw[It (ws:=wx) (by rw[KU IK O3];exact yc) uo,WX IK ZI,Ig]
  simp only[Option.bind_some,vR]
  rw[oh,adU,yP,Eg (σ:=C'.dc uy) (fun q hq=>by rw[lc];exact uxC q hq) (Eg uyC hCF)]
  simp only[Option.map_some]
  rw[oh,oh,aqw vY]
  congr 1
  have e1:(C'.dc uy).env=σ.env:=by rw[lc];exact ec
  have e2:(A'.dc ux).env=σ.env:=by rw[lc];exact ea
  show St.we _ (hY (hY (C'.dc uy).env dy vy) dx vx)=St.we _ (hY (hY (A'.dc ux).env dx vx) dy vy)
  rw[e1,e2,JY σ.env _ _ hd]
  rfl
 ·unfold aF.fp
  rw[r1,r2]
 ·unfold aF.fp
  rw[KU IK O3,Sn IK O3]
end
end Go.Am
end
section
namespace Go.Am
def C3 (x y:bK):Bool:=x.op.dE==0||y.op.dE==0||(decide (x.op.dE<=1)&&decide (y.op.dE<=1))
def C4 (x y:bK):Bool:=
 (match x.dst with|some d=>y.tm d&&(match y.dst with|some e=>e !=d|none=>true)|none=>true)&&
 (match y.dst with|some d=>x.tm d|none=>true)&&x.pU&&y.pU
theorem ae7 {T:aS} {x y:bK} {σ σ1 σ2:St} (W:Wf σ) (hc:C4 x y=true) (hk:C3 x y=true\/Da (x.fp σ) (y.fp σ1)=true) (h1:d8 T x σ=some σ1) (h2:d8 T y σ1=some σ2):
  ∃τ,d8 T y σ=some τ/\d8 T x τ=some σ2/\y.fp σ1=y.fp σ/\x.fp τ=x.fp σ:=by
 simp only[C4,Bool.and_eq_true] at hc
 obtain⟨⟨⟨c1,c2⟩,c3⟩,c4⟩:=hc
 rw[AG] at h1 h2
 cases ex:mq x σ.env with
 |none=>rw[ex] at h1;cases h1
 |some jb=>
  rw[ex] at h1
  have h1:exec T x.dst jb σ=some σ1:=h1
  have jx:jb=x.op\/jb=.mv (.k (.bo [])):=Ii ex
  have zu:∀sz p v,jb=.store sz p v->x.dst=none:=by
   intro sz p v he
   rcases jx with rfl|rfl
   ·simp only[bK.pU,Bool.and_eq_true,he] at c3;simpa using c3.2
   ·cases he
  have rD:=vQ zu h1
  have PF:∀s w,y.guard=some (s,w)->x.dst≠some s:=by
   intro s w hg hd
   rw[hd] at c1
   simp[bK.tm,hg] at c1
  have Jc:∀s w,x.guard=some (s,w)->y.dst≠some s:=by
   intro s w hg hd
   rw[hd] at c2
   simp[bK.tm,hg] at c2
  have Iu:mq y σ1.env=mq y σ.env:=Db fun s w hg=>by rw[rD];exact qG (PF s w hg)
  rw[Iu] at h2
  cases ey:mq y σ.env with
  |none=>rw[ey] at h2;cases h2
  |some iL=>
   rw[ey] at h2
   have h2:exec T y.dst iL σ1=some σ2:=h2
   have jy:iL=y.op\/iL=.mv (.k (.bo [])):=Ii ey
   have xq:∀sz p v,iL=.store sz p v->y.dst=none:=by
    intro sz p v he
    rcases jy with rfl|rfl
    ·simp only[bK.pU,Bool.and_eq_true,he] at c4;simpa using c4.2
    ·cases he
   have Dl:∀a∈jb.args,a.flat=true:=by
    rcases jx with rfl|rfl
    ·simp only[bK.pU,Bool.and_eq_true,List.all_eq_true] at c3;exact c3.1
    ·intro a ha;simp[aF.args] at ha;subst ha;rfl
   have Dm:∀a∈iL.args,a.flat=true:=by
    rcases jy with rfl|rfl
    ·simp only[bK.pU,Bool.and_eq_true,List.all_eq_true] at c4;exact c4.1
    ·intro a ha;simp[aF.args] at ha;subst ha;rfl
   have kg:∀n,x.dst=some n->MO.t n∉iL.args:=by
    intro n hd
    rcases jy with rfl|rfl
    ·rw[hd] at c1
     simp only[Bool.and_eq_true] at c1
     exact bK.JO c1.1
    ·simp[aF.args]
   have sZ:∀n,y.dst=some n->MO.t n∉jb.args:=by
    intro n hd
    rcases jx with rfl|rfl
    ·rw[hd] at c2
     exact bK.JO c2
    ·simp[aF.args]
   have vY:∀n,x.dst=some n->y.dst≠some n:=by
    intro n hd he
    rw[hd,he] at c1
    simp at c1
   have yfp:y.fp σ1=iL.fp σ1:=by unfold bK.fp;rw[Iu,ey]
   have aqN:y.fp σ=iL.fp σ:=by unfold bK.fp;rw[ey]
   have ad8:x.fp σ=jb.fp σ:=by unfold bK.fp;rw[ex]
   have xfp:∀τ,exec T y.dst iL σ=some τ->x.fp τ=jb.fp τ:=by
    intro τ t1
    unfold bK.fp
    rw[Db (e:=σ.env) (fun s w hg=>by rw[vQ xq t1];exact qG (Jc s w hg)),ex]
   have fin:(∃τ,exec T y.dst iL σ=some τ/\exec T x.dst jb τ=some σ2/\iL.fp σ1=iL.fp σ/\jb.fp τ=jb.fp σ)->∃τ,d8 T y σ=some τ/\d8 T x τ=some σ2/\y.fp σ1=y.fp σ/\x.fp τ=x.fp σ:=by
    rintro⟨τ,t1,t2,t3,t4⟩
    refine⟨τ,?_,?_,?_,?_⟩
    ·rw[AG,ey];exact t1
    ·rw[AG,Db (e:=σ.env) (fun s w hg=>by rw[vQ xq t1];exact qG (Jc s w hg)),ex];exact t2
    ·rw[yfp,aqN,t3]
    ·rw[xfp τ t1,ad8,t4]
   apply fin
   rcases hk with c5|hk
   ·have bG:jb.dE=0\/iL.dE=0\/(jb.dE<=1/\iL.dE<=1):=by
     rcases jx with rfl|rfl
     ·rcases jy with rfl|rfl
      ·simp only[C3,Bool.or_eq_true,beq_iff_eq,Bool.and_eq_true,decide_eq_true_eq,or_assoc] at c5
       exact c5
      ·exact .inr (.inl rfl)
     ·exact .inl rfl
    obtain⟨τ,t1,t2⟩:=XS W vY kg sZ Dl Dm zu xq bG h1 h2
    refine⟨τ,t1,t2,Ze W kg Dm zu (by omega) h1,Ze W sZ Dl xq (by omega) t1⟩
   ·rw[yfp,ad8] at hk
    exact ae6 W vY kg sZ Dl Dm zu xq hk h1 h2
def CQ (T:aS) (ms:List bK) (F:Nat->Option FP):List Nat->St->St->Prop
 |[],σ,iP=>σ=iP
 |i::L,σ,iP=>∃m σ1,ms[i]? =some m/\F i=m.fp σ/\d8 T m σ=some σ1/\CQ T ms F L σ1 iP
def WU (F:Nat->Option FP) (ms:List bK) (i j:Nat) (m:bK):Prop:=∃mj,ms[j]? =some mj/\C4 mj m=true/\(C3 mj m=true\/Da (F j) (F i)=true)
structure WJ (F:Nat->Option FP) (ops:Array Oper) (ms:List bK):Prop where
 back:∀(i:Nat) (o:Oper),ops[i]? =some o->∀e∈o.after,Region.binds .any e=true->e.on<i
 pair:∀(i j:Nat) (o:Oper) (m:bK),ops[i]? =some o->ms[i]? =some m->j<i->vl ops i j\/WU F ms i j m
section
variable {B:Nat} {E:Ex} {w0 w w':World} {G G':Gh} {N:Nat}
variable {P:Program} {T:aS} {o:Oper} {mo:bK} {a:Act} {σ σ':St} {Q:Exit->Act->World->Prop} {ops:Array Oper}
theorem acf (hT:nI P T) {ms:List bK} {F:Nat->Option FP} (rr:∀(i:Nat) (m:bK),ms[i]? =some m->∃o,ops[i]? =some o/\tT P N ops o m=true) {i:Nat} {mi:bK} (hi:ms[i]? =some mi) {post:List Nat} {iP:St}:
  ∀{pre:List Nat} {σ:St},F7 B E w0 N σ->CQ T ms F (pre++i::post) σ iP->(∀j∈pre,WU F ms i j mi)->
  ∃τ,F i=mi.fp σ/\d8 T mi σ=some τ/\CQ T ms F (pre++post) τ iP
 |[],σ,hr,hx,hc=>by
  obtain⟨m,σ1,h1,h2,h3,h4⟩:=hx
  rw[hi] at h1
  injection h1 with h1
  subst h1
  exact⟨σ1,h2,h3,h4⟩
 |j::pre,σ,hr,hx,hc=>by
  obtain⟨mj,σ1,k1,k2,k3,k4⟩:=hx
  obtain⟨mj',hj,m7,bG⟩:=hc j (by simp)
  rw[k1] at hj
  injection hj with hj
  subst hj
  obtain⟨oj,_,f9⟩:=rr j mj k1
  obtain⟨oz,t0,t1,t2⟩:=acf hT rr hi (ab2 hr hT f9 k3) k4 (fun k hk=>hc k (by simp[hk]))
  obtain⟨a,w,G,r⟩:=hr
  rw[k2,t0] at bG
  obtain⟨τ,s1,s2,s3,s4⟩:=ae7 r.wf m7 bG k3 t1
  exact⟨τ,by rw[t0,s3],s1,mj,oz,k1,by rw[s4];exact k2,s2,t2⟩
theorem aqK (hT:nI P T) {ms:List bK} {F:Nat->Option FP} (rr:∀(i:Nat) (m:bK),ms[i]? =some m->∃o,ops[i]? =some o/\tT P N ops o m=true) (hlen:ms.length=ops.size) (hd:WJ F ops ms) {iP:St}
  (hQ:∀a w G,R B E w0 N iP a w G->Q .normal a w):
  ∀(ik:Nat) (L:List Nat) (cW:Array Bool) (σ:St) (a:Act) (w:World) (G:Gh),R B E w0 N σ a w G->CQ T ms F L σ iP->L.Pairwise (·<·)->L.length<=ik->cW.size=ops.size->
   (∀j,j∈L↔cW.getD j true=false)->KZ ops cW->wpAny P .any ops Q ik cW a w:=by
 have first:∀(L:List Nat) (cW:Array Bool),L.Pairwise (·<·)->cW.size=ops.size->(∀j,j∈L↔cW.getD j true=false)->Region.ready .any ops cW=[]->L=[]:=by
  intro L cW hp hs hL hr
  cases L with
  |nil=>rfl
  |cons j L=>
   exfalso
   have hj:=(hL j).1 (by simp)
   have kE:j<ops.size:=by
    rw[<-hs]
    rcases Nat.lt_or_ge j cW.size with h|h
    ·exact h
    ·simp[Array.getElem?_eq_none h] at hj
   have ho:ops[j]? =some ops[j]:=Array.getElem?_eq_getElem kE
   have:j∈Region.ready .any ops cW:=by
    rw[mem_ready]
    refine⟨hj,_,ho,fun e he hb=>?_⟩
    have bB:=hd.back j _ ho e he hb
    have nT:e.on∉j::L:=by
     intro hm
     cases hm with
     |head=>omega
     |tail _ hm=>have:=(List.pairwise_cons.1 hp).1 _ hm;omega
    have aE:cW.getD e.on true≠false:=fun h=>nT ((hL e.on).2 h)
    have oT:e.on<cW.size:=by omega
    simp[oT] at aE⊢
    exact aE
   rw[hr] at this
   cases this
 intro ik
 induction ik with
 |zero=>
  intro L cW σ a w G r hx hp hl hs hL hC
  have rq:L=[]:=List.eq_nil_of_length_eq_zero (by omega)
  subst rq
  have hx:σ=iP:=hx
  subst hx
  refine⟨?_,hQ _ _ _ r⟩
  cases hr:Region.ready .any ops cW with
  |nil=>rfl
  |cons i l=>
   have hm:i∈Region.ready .any ops cW:=by rw[hr];simp
   have:=(hL i).2 (mem_ready.1 hm).1
   cases this
 |succ ik ih=>
  intro L cW σ a w G r hx hp hl hs hL hC
  refine⟨fun hr=>?_,fun i hi=>?_⟩
  ·have rq:=first L cW hp hs hL hr
   subst rq
   have hx:σ=iP:=hx
   subst hx
   exact hQ _ _ _ r
  ·obtain⟨O5,oi,jP,DF⟩:=mem_ready.1 hi
   have qc:i∈L:=(hL i).2 O5
   obtain⟨pre,post,rfl⟩:=List.append_of_mem qc
   have his:i<ops.size:=(Array.getElem?_eq_some_iff.1 jP).1
   have yz:ms[i]? =some ms[i]:=List.getElem?_eq_getElem (by omega)
   obtain⟨o',gm,OS⟩:=rr i _ yz
   rw[jP] at gm
   injection gm with gm
   subst gm
   have fU:=List.pairwise_append.1 hp
   obtain⟨τ,t0,t1,t2⟩:=acf (ops:=ops) hT rr yz ⟨a,w,G,r⟩ hx (fun j hj=>by
    have rv:j<i:=fU.2.2 j hj i (by simp)
    rcases hd.pair i j oi _ jP yz rv with OH|h
    ·have h1:=Xh hC OH (fun o ho e he hb=>by
      rw[jP] at ho
      injection ho with ho
      subst ho
      have h1:=DF e he hb
      have bB:=hd.back i _ jP e he hb
      have oT:e.on<cW.size:=by omega
      simp[oT] at h1⊢
      exact h1)
     have h2:=(hL j).1 (by simp[hj])
     rw[h1] at h2
     cases h2
    ·exact h)
   have yF:∀a' w',Nx B E w0 N τ a' w'->wpAny P .any ops Q ik (cW.setIfInBounds i true) a' w':=by
    rintro a' w' ⟨G',r'⟩
    refine ih (pre++post) _ τ a' w' G' r' t2 ?_ (by simp at hl⊢;omega) (by simpa using hs) (fun j=>?_) (fun k o ho hk e he hb=>?_)
    ·rw[List.pairwise_append]
     exact⟨fU.1,(List.pairwise_cons.1 fU.2.1).2,fun x hx y hy=>fU.2.2 x hx y (by simp[hy])⟩
    ·by_cases rv:j=i
     ·subst rv
      have kE:j<cW.size:=by omega
      simp only[List.mem_append]
      constructor
      ·rintro(h|h)
       ·have:=fU.2.2 j h j (by simp);omega
       ·have:=(List.pairwise_cons.1 fU.2.1).1 j h;omega
      ·intro h
       simp[kE] at h
     ·rw[getD_set_ne true (Ne.symm rv),<-hL j]
      simp[rv]
    ·have DW:∀q,cW.getD q true=true->(cW.setIfInBounds i true).getD q true=true:=by
      intro q hq
      by_cases mD:q=i
      ·subst mD
       have:q<cW.size:=by omega
       simp[this]
      ·rw[getD_set_ne true (Ne.symm mD)];exact hq
     by_cases DT:k=i
     ·subst DT
      rw[jP] at ho
      injection ho with ho
      subst ho
      have h1:=DF e he hb
      have bB:=hd.back k _ jP e he hb
      have oT:e.on<cW.size:=by omega
      refine DW _ ?_
      simp[oT] at h1⊢
      exact h1
     ·rw[getD_set_ne true (Ne.symm DT)] at hk
      exact DW _ (hC k o ho hk e he hb)
   unfold wpOp
   rw[jP]
   simp only
   rcases Is (Q:=Q) r hT OS t1 with⟨hw,h⟩|⟨hw,h⟩
   ·rw[if_pos hw]
    exact .inl (Oper.wp_mono yF h)
   ·rw[if_neg (by simp[hw])]
    exact yF _ _ h
def HT (ps:List (Nat×Nat)) (ops:List Oper) (ms:List bK):Bool:=
 (fun ks:List Nat=>(List.range ops.length).all fun i=>match ops[i]?,ms[i]? with
  |some o,some m=>(o.after.toList.all fun e=> !Region.binds .any e||decide (e.on<i))&&
   (List.range i).all fun j=>(ks.getD i 0).testBit j||(match ms[j]? with|some mj=>C4 mj m&&(C3 mj m||ps.contains (j,i))|none=>false)
  |_,_=>false) (BB ops [])
theorem aeS {ps:List (Nat×Nat)} {ms:List bK} {fs:List (Option FP)} (h:HT ps ops.toList ms=true) (hp:wZ ps fs=true):WJ (fun i=>fs.getD i none) ops ms:=by
  simp only[HT,List.all_eq_true,List.mem_range] at h
  have cV:∀(i:Nat) (o:Oper),ops[i]? =some o->∃m,ms[i]? =some m/\(o.after.toList.all fun e=> !Region.binds .any e||decide (e.on<i))=true/\
        ∀j,j<i->(((BB ops.toList []).getD i 0).testBit j||(match ms[j]? with|some mj=>C4 mj m&&(C3 mj m||ps.contains (j,i))|none=>false))=true:=by
    intro i o ho
    have hi:i<ops.toList.length:=by simpa using(Array.getElem?_eq_some_iff.1 ho).1
    have hi':=h i hi
    have gm:ops.toList[i]? =some o:=by simpa using ho
    rw[gm] at hi'
    cases hm:ms[i]? with
    |none=>rw[hm] at hi';cases hi'
    |some m=>
     rw[hm] at hi'
     simp only[Bool.and_eq_true,List.all_eq_true,List.mem_range] at hi'
     exact⟨m,rfl,by rw[List.all_eq_true];exact hi'.1,hi'.2⟩
  refine⟨fun i o ho e he hb=>?_,fun i j o m ho hm hj=>?_⟩
  · obtain⟨m,_,k1,_⟩:=cV i o ho
    have:=List.all_eq_true.1 k1 e (Array.mem_toList_iff.2 he)
    simp[hb] at this
    exact this
  · obtain⟨m',bI,_,k2⟩:=cV i o ho
    rw[hm] at bI
    injection bI with bI
    subst bI
    have:=k2 j hj
    rw[Bool.or_eq_true] at this
    rcases this with h1|h1
    · exact .inl (QA ops.toList [] [] rfl rfl (by intro i k hb;simp at hb) i j h1)
    · cases A7:ms[j]? with
      |none=>rw[A7] at h1;cases h1
      |some mj=>
       rw[A7] at h1
       simp only[Bool.and_eq_true,Bool.or_eq_true] at h1
       refine .inr ⟨mj,A7,h1.1,?_⟩
       rcases h1.2 with h2|h2
       · exact .inl h2
       · refine .inr ?_
         have:=List.all_eq_true.1 hp (j,i) (by simpa using h2)
         exact this
theorem YH {ms:List bK}:∀(post pre:List bK) (σ iP:St) (fs cL:List (Option FP)),ms=pre++post->cL.length=pre.length->mr T post cL σ=some (fs,iP)->
  cL=fs.take cL.length/\CQ T ms (fun i=>fs.getD i none) (List.range' pre.length post.length) σ iP
 |[],pre,σ,iP,fs,cL,he,hl,hx=>by
  simp only[mr] at hx
  injection hx with hx
  injection hx with h1 h2
  subst h1 h2
  exact⟨by simp,rfl⟩
 |m::post,pre,σ,iP,fs,cL,he,hl,hx=>by
  simp only[mr] at hx
  split at hx
  ·rename_i σ1 e1
   obtain⟨h1,h2⟩:=YH (ms:=ms) post (pre++[m]) σ1 iP fs (cL++[m.fp σ]) (by simp[he]) (by simp[hl]) hx
   have h3:fs[cL.length]? =some (m.fp σ):=by
    have:(fs.take (cL++[m.fp σ]).length)[cL.length]? =some (m.fp σ):=by rw[<-h1];simp
    rw[List.getElem?_take] at this
    split at this
    ·exact this
    ·cases this
   have h4:cL=fs.take cL.length:=by
    have:=congrArg (List.take cL.length) h1
    simpa[List.take_take] using this
   refine⟨h4,m,σ1,?_,?_,e1,?_⟩
   ·rw[he,List.getElem?_append_right (Nat.le_refl _),Nat.sub_self];rfl
   ·show fs.getD pre.length none=_
    rw[<-hl,List.getD_eq_getElem?_getD,h3];rfl
   ·simpa using h2
  ·cases hx
theorem aoT (hT:nI P T) (hm:P.follows .mixedOrders=true) {id:Nat} {ps:List (Nat×Nat)} {ms:List bK} {fs:List (Option FP)} (hc:oG P N ops ops.toList ms=true) (hd:HT ps ops.toList ms=true)
  (hx:mr T ms [] σ=some (fs,σ')) (hp:wZ ps fs=true) (r:R B E w0 N σ a w G) (hQ:∀a w G,R B E w0 N σ' a w G->Q .normal a w):(Code.region id ops true).wp P Q a w:=by
 obtain⟨k1,k2⟩:=MA hc
 have hlen:ms.length=ops.size:=by simpa using k1
 refine wp_region_any hm (aqK (B:=B) (E:=E) (w0:=w0) (N:=N) hT (fun i m h=>by
  obtain⟨o,h1,h2⟩:=k2 i m h;exact⟨o,by simpa using h1,h2⟩) hlen (aeS hd hp) hQ ops.size (List.range ops.size) _ σ a _ G (r.drawn _) ?_ ?_ (by simp) (by simp) (fun j=>?_) (fun k o ho hk=>?_))
 ·have:=(YH (T:=T) (ms:=ms) ms [] σ σ' fs [] rfl rfl hx).2
  simp only[List.length_nil,hlen,<-List.range_eq_range'] at this
  exact this
 ·exact List.pairwise_lt_range
 ·rw[List.mem_range]
  constructor
  ·intro h;simp[h]
  ·intro h
   rcases Nat.lt_or_ge j ops.size with h'|h'
   ·exact h'
   ·simp[Array.getElem?_eq_none (show(Array.replicate ops.size false).size<=j by simpa using h')] at h
 ·exfalso
  have Pa:k<ops.size:=(Array.getElem?_eq_some_iff.1 ho).1
  simp[Pa] at hk
end
end Go.Am
end
