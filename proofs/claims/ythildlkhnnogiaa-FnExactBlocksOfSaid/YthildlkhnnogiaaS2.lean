/- AmP, AmQ, AmG, AmH, AmI, AmJ, Am24, Am25, Am26, Am27, Am28, Am29, Am30, AmW, S0, S1, S2: parts of the proof. No condition. -/
import Derived.Test.YthildlkhnnogiaaAmF
set_option linter.unusedVariables false
set_option linter.unusedSimpArgs false
namespace Go.Am
theorem ah.aqs {c:ah} {m:Nat}:m∈c.tB↔c.hH m:=by
 cases c<;>simp[ah.tB,ah.hH]
theorem ah.G6 {c:ah} {m:Nat}:m∈c.nm↔c.ref m:=by
 cases c with
 |fn f cK=>simp[ah.nm,ah.ref,List.mem_flatMap,ah.aqs]
 |_=>simp[ah.nm,ah.tB,ah.ref,ah.hH]
theorem aj.A5 {v:aj} {m:Nat}:m∈v.iw↔v.ref m:=by
 cases v with
 |one c=>exact ah.G6
 |agg cs=>simp[aj.iw,aj.ref,List.mem_flatMap,ah.G6]
 |bH xs=>simp only[aj.iw,aj.ref,List.mem_flatMap,ah.G6]
theorem qU {op:aU} {ev:MO->aj} {n:Nat}:n∈op.j0 ev↔∃a∈op.args,(ev a).ref n:=by
 simp[aU.j0,List.mem_flatMap,aj.A5]
theorem LV {op:aU} {ev:MO->aj} {h:Nat->Option aq} {n:Nat} (hn:n∈op.j0 ev):n∈op.nB ev h:=by
 unfold aU.nB;cases op.GC with
 |true=>exact List.mem_append.2 (.inl hn)
 |false=>exact hn
theorem agV {op:aU} {ev:MO->aj} {h:Nat->Option aq} {ws:List Nat} (hw:op.lF ev h=some ws) {n:Nat} (hn:n∈ws):n∈op.j0 ev:=by
 cases op<;>simp only[aU.lF] at hw<;>first|(cases hw;cases hn)|(cases hw;done)|skip
 case store sz x v=>
  split at hw
  ·rename_i q _ _ _ hx;have hq:q∈(aU.store sz x v).j0 ev:=qU.2 ⟨x,by simp[aU.args],by rw[hx];exact rfl⟩;split at hw
   ·injection hw with hw;subst hw;simp at hn;subst hn;exact hq
   ·injection hw with hw;subst hw;rcases List.mem_cons.1 hn with rfl|hn
    ·exact hq
    ·exact qU.2 ⟨v,by simp[aU.args],aj.A5.1 hn⟩
   ·cases hw
  ·rename_i q _ _ _ _ _ hx;have hq:q∈(aU.store sz x v).j0 ev:=qU.2 ⟨x,by simp[aU.args],by rw[hx];exact rfl⟩;injection hw with hw;subst hw;simp at hn;subst hn;exact hq
  ·cases hw
 case copy sz x y=>
  split at hw
  ·rename_i q _ _ _ hx;injection hw with hw;subst hw;simp at hn;subst hn;exact qU.2 ⟨x,by simp[aU.args],by rw[hx];exact rfl⟩
  ·cases hw
 case mA z x=>
  split at hw
  ·rename_i q _ _ _ hx;injection hw with hw;subst hw;simp at hn;subst hn;exact qU.2 ⟨x,by simp[aU.args],by rw[hx];exact rfl⟩
  ·cases hw
 case ft sz ps=>
  injection hw with hw;subst hw;obtain⟨a,ha,hn⟩:=List.mem_flatMap.1 hn;exact qU.2 ⟨a,ha,aj.A5.1 hn⟩
 case ki f xs=>
  injection hw with hw;subst hw;obtain⟨a,ha,hn⟩:=List.mem_flatMap.1 hn;exact qU.2 ⟨a,ha,aj.A5.1 hn⟩
 case append fl sz by_ x y=>
  injection hw with hw;subst hw;rcases List.mem_append.1 hn with hn|hn
  ·exact qU.2 ⟨x,by simp[aU.args],aj.A5.1 hn⟩
  ·exact qU.2 ⟨y,by simp[aU.args],aj.A5.1 hn⟩
def St.eu (σ:St):List (Nat×Option aq)->St
 |[]=>σ
 |(n,b)::l=>St.eu {σ with h:=ax σ.h n b} l
def eQ (h:Nat->Option aq):List (Nat×Option aq)->(Nat->Option aq)
 |[]=>h
 |(n,b)::l=>eQ (ax h n b) l
theorem mT:∀(l:List (Nat×Option aq)) (σ:St),σ.eu l={σ with h:=eQ σ.h l}
 |[],σ=>rfl
 |(n,b)::l,σ=>by simp only[St.eu,eQ];rw[mT l]
theorem pf:∀{l:List (Nat×Option aq)} {h:Nat->Option aq} {n:Nat},(∀p∈l,p.1≠n)->eQ h l n=h n
 |[],h,n,_=>rfl
 |(m,b)::l,h,n,hn=>by
  simp only[eQ];rw[pf fun p hp=>hn p (List.mem_cons_of_mem _ hp)];exact cJ _ _ _ _ (fun e=>hn (m,b) (by simp) e.symm)
theorem atY (h:Nat->Option aq) (l l':List (Nat×Option aq)):eQ h (l++l')=eQ (eQ h l) l':=by
 induction l generalizing h with
 |nil=>rfl
 |cons x l ih=>obtain⟨n,b⟩:=x;exact ih _
theorem EJ (σ:St) (l l':List (Nat×Option aq)):σ.eu (l++l')=(σ.eu l).eu l':=by
 simp only[mT,atY]
theorem H5:∀{l:List (Nat×Option aq)} {h h':Nat->Option aq} {n:Nat},(∃p∈l,p.1=n)->eQ h l n=eQ h' l n
 |[],h,h',n,hn=>by obtain⟨p,hp,_⟩:=hn;cases hp
 |(m,b)::l,h,h',n,hn=>by
  simp only[eQ];by_cases hl:∃p∈l,p.1=n
  ·exact H5 hl
  ·have cg:∀p∈l,p.1≠n:=fun p hp e=>hl ⟨p,hp,e⟩;rw[pf cg,pf cg];obtain⟨p,hp,e⟩:=hn;rcases List.mem_cons.1 hp with rfl|hp
   ·simp only at e;subst e;rw[bO,bO]
   ·exact absurd e (cg p hp)
theorem agD {u v:List (Nat×Option aq)} (hd:∀p∈u,∀q∈v,p.1≠q.1) (h:Nat->Option aq):eQ (eQ h u) v=eQ (eQ h v) u:=by
 funext n;by_cases hu:∃p∈u,p.1=n
 ·obtain⟨p,hp,rfl⟩:=hu;rw[pf (l:=v) fun q hq e=>hd p hp q hq e.symm];exact H5 ⟨p,hp,rfl⟩
 ·rw[pf (l:=u) (h:=eQ h v) fun p hp e=>hu ⟨p,hp,e⟩];by_cases hv:∃q∈v,q.1=n
  ·exact H5 hv
  ·rw[pf fun q hq e=>hv ⟨q,hq,e⟩,pf fun p hp e=>hu ⟨p,hp,e⟩,pf fun q hq e=>hv ⟨q,hq,e⟩]
theorem at0 {u v:List (Nat×Option aq)} (hd:∀p∈u,∀q∈v,p.1≠q.1) (σ:St):(σ.eu u).eu v=(σ.eu v).eu u:=by
 simp only[mT,agD hd]
theorem agE (σ:St) (e:Nat->aj) (l:List (Nat×Option aq)):(σ.we e).eu l=(σ.eu l).we e:=by
 simp only[mT];rfl
theorem atZ {l:List (Nat×Option aq)} {h:Nat->Option aq} {n:Nat} {b:Option aq} (hn:∀p∈l,p.1≠n):eQ (ax h n b) l=ax (eQ h l) n b:=by
 have:=agD (u:=l) (v:=[(n,b)]) (fun p hp q hq=>by simp at hq;subst hq;exact hn p hp) h;exact this.symm
theorem alQ {σ σ1:St} {l:List (Nat×Option aq)} {n:Nat} {b:aq} (hl:∀p∈l,σ.used p.1=true) (h:σ.ins n b=some σ1):(σ.eu l).ins n b=some (σ1.eu l):=by
 obtain⟨u1,rfl⟩:=ko h;unfold St.ins;rw[mT,mT];rw[if_neg (show¬σ.used n=true by rw[u1];simp)];simp only
 rw[atZ fun p hp e=>by rw[<-e,hl p hp] at u1;cases u1]
theorem Gz:∀{A:List (Nat×aq)} {σ σ1:St} {l:List (Nat×Option aq)},(∀p∈l,σ.used p.1=true)->σ.dB A=some σ1->(σ.eu l).dB A=some (σ1.eu l)
 |[],σ,σ1,l,hl,h=>by
  simp only[St.dB] at h⊢;injection h with h;rw[h]
 |(n,b)::A,σ,σ1,l,hl,h=>by
  simp only[St.dB] at h⊢;split at h
  ·rename_i kZ e;rw[alQ hl e];obtain⟨u1,rfl⟩:=ko e;exact Gz (fun p hp=>oy _ _ (hl p hp)) h
  ·cases h
theorem aaG:∀{A:List (Nat×aq)} {σ σ':St},σ.used=σ'.used->(σ.dB A).isSome=true->(σ'.dB A).isSome=true
 |[],σ,σ',hu,h=>rfl
 |(n,b)::A,σ,σ',hu,h=>by
  simp only[St.dB,St.ins] at h⊢;rw[<-hu];split at h
  ·rename_i kZ e;split at e
   ·cases e
   ·rename_i hn;injection e with e;subst e;rw[if_neg hn];simp only
    exact aaG (by rfl) h
  ·cases h
theorem RU {A:List (Nat×aq)} {σ B:St} {l:List (Nat×Option aq)} (hl:∀p∈l,σ.used p.1=true) (h:(σ.eu l).dB A=some B):∃B',σ.dB A=some B'/\B=B'.eu l:=by
 have hs:(σ.dB A).isSome=true:=aaG (A:=A) (σ:=σ.eu l) (σ':=σ) (by rw[mT]) (by rw[h];rfl);cases e:σ.dB A with
 |none=>rw[e] at hs;cases hs
 |some B'=>
  refine⟨B',rfl,?_⟩;have:=Gz hl e;rw[h] at this;injection this
abbrev Us:=List (Nat×Option aq)
def tK (h:Nat->Option aq):ah->Option (C×Bool×Us)
 |.c x=>some (x,x.fh,[])
 |.nil sz=>if 0<sz then some (.list sz [],true,[]) else none
 |.sl n sz lo len=>
  match h n with
  |some (.row _ m rs xs)=>if rs=sz/\lo=0/\len<=xs.length then some (.list sz (xs.take len),decide (m≠ .aI),[(n,none)]) else none
  |_=>none
 |_=>none
def kT (h:Nat->Option aq):List ah->Option (List C×Bool×Us)
 |[]=>some ([],true,[])
 |c::cs=>match tK h c with
  |some (x,o,u)=>match kT (eQ h u) cs with
   |some (xs,o',u')=>some (x::xs,o&&o',u++u')
   |none=>none
  |none=>none
def qa (sz:Nat) (h:Nat->Option aq):List aj->Option (List (List C)×Bool×Us)
 |[]=>some ([],true,[])
 |v::vs=>match v.cells? with
  |some (_,cs)=>if cs.length=sz then
   match kT h cs with
   |some (e,o,u)=>match qa sz (eQ h u) vs with
    |some (es,o',u')=>some (e::es,o&&o',u++u')
    |none=>none
   |none=>none
   else none
  |none=>none
theorem H6 (σ:St) (l:Us):(σ.eu l).h=eQ σ.h l:=by rw[mT]
theorem atQ (σ:St) (c:ah):σ.fR c=(tK σ.h c).map fun x=>(x.1,x.2.1,σ.eu x.2.2):=by
 cases c with
 |sl n sz lo len=>
  simp only[St.fR,tK];cases σ.h n with
  |none=>rfl
  |some b=>cases b with
   |box cs=>rfl
   |row gr m rs xs=>simp only;split<;>rfl
 |nil sz=>simp only[St.fR,tK];split<;>rfl
 |_=>rfl
theorem M8:∀(cs:List ah) (σ:St),σ.gw cs=(kT σ.h cs).map fun x=>(x.1,x.2.1,σ.eu x.2.2)
 |[],σ=>rfl
 |c::cs,σ=>by
  simp only[St.gw,kT,atQ];cases tK σ.h c with
  |none=>rfl
  |some x=>
   obtain⟨x,o,u⟩:=x;simp only[Option.map_some,M8 cs,H6];cases kT (eQ σ.h u) cs with
   |none=>rfl
   |some y=>obtain⟨xs,o',u'⟩:=y;simp only[Option.map_some,EJ]
theorem agu (sz:Nat):∀(vs:List aj) (σ:St),σ.mS sz vs=(qa sz σ.h vs).map fun x=>(x.1,x.2.1,σ.eu x.2.2)
 |[],σ=>rfl
 |v::vs,σ=>by
  simp only[St.mS,qa];cases v.cells? with
  |none=>rfl
  |some x=>
   obtain⟨b,cs⟩:=x;simp only
   split
   ·rw[M8];cases kT σ.h cs with
    |none=>rfl
    |some y=>
     obtain⟨e,o,u⟩:=y;simp only[Option.map_some,agu sz vs,H6];cases qa sz (eQ σ.h u) vs with
     |none=>rfl
     |some y=>obtain⟨es,o',u'⟩:=y;simp only[Option.map_some,EJ]
   ·rfl
theorem atO {h:Nat->Option aq} {c:ah} {x:C} {o:Bool} {u:Us} (e:tK h c=some (x,o,u)):∀q∈u,q.1∈c.nm:=by
 unfold tK at e;split at e
 ·injection e with e;injection e with _ e;injection e with _ e;subst e;intro q hq;cases hq
 ·split at e
  ·injection e with e;injection e with _ e;injection e with _ e;subst e;intro q hq;cases hq
  ·cases e
 ·split at e
  ·split at e
   ·injection e with e;injection e with _ e;injection e with _ e;subst e;intro q hq;simp at hq;subst hq;simp[ah.nm,ah.tB]
   ·cases e
  ·cases e
 ·cases e
theorem M7:∀{cs:List ah} {h:Nat->Option aq} {xs:List C} {o:Bool} {u:Us},kT h cs=some (xs,o,u)->∀q∈u,q.1∈cs.flatMap ah.nm
 |[],h,xs,o,u,e=>by
  simp only[kT] at e;injection e with e;injection e with _ e;injection e with _ e;subst e;intro q hq;cases hq
 |c::cs,h,xs,o,u,e=>by
  simp only[kT] at e;split at e
  ·rename_i x o1 u1 e1;split at e
   ·rename_i gx o2 u2 e2;injection e with e;injection e with _ e;injection e with _ e;subst e;intro q hq;rw[List.flatMap_cons];rcases List.mem_append.1 hq with hq|hq
    ·exact List.mem_append.2 (.inl (atO e1 q hq))
    ·exact List.mem_append.2 (.inr (M7 e2 q hq))
   ·cases e
  ·cases e
theorem CA {v:aj} {b:Bool} {cs:List ah} (h:v.cells?=some (b,cs)):cs.flatMap ah.nm=v.iw:=by
 cases v with
 |one c=>cases c<;>simp[aj.cells?] at h<;>(obtain⟨_,rfl⟩:=h;simp[aj.iw])
 |agg cs'=>simp[aj.cells?] at h;obtain⟨_,rfl⟩:=h;rfl
 |bH xs=>simp[aj.cells?] at h
theorem agt {sz:Nat}:∀{vs:List aj} {h:Nat->Option aq} {xs:List (List C)} {o:Bool} {u:Us},qa sz h vs=some (xs,o,u)->∀q∈u,q.1∈vs.flatMap aj.iw
 |[],h,xs,o,u,e=>by
  simp only[qa] at e;injection e with e;injection e with _ e;injection e with _ e;subst e;intro q hq;cases hq
 |v::vs,h,xs,o,u,e=>by
  simp only[qa] at e;split at e
  ·rename_i b cs hv;split at e
   ·split at e
    ·rename_i x o1 u1 e1;split at e
     ·rename_i gx o2 u2 e2;injection e with e;injection e with _ e;injection e with _ e;subst e;intro q hq;rw[List.flatMap_cons];rcases List.mem_append.1 hq with hq|hq
      ·exact List.mem_append.2 (.inl (CA hv▸M7 e1 q hq))
      ·exact List.mem_append.2 (.inr (agt e2 q hq))
     ·cases e
    ·cases e
   ·cases e
  ·cases e
theorem H4 {h h':Nat->Option aq} {n:Nat} (hh:h' n=h n) (u:Us):eQ h' u n=eQ h u n:=by
 by_cases hu:∃p∈u,p.1=n
 ·exact H5 hu
 ·rw[pf fun p hp e=>hu ⟨p,hp,e⟩,pf fun p hp e=>hu ⟨p,hp,e⟩,hh]
theorem atM {h h':Nat->Option aq} {c:ah} (hh:∀n∈c.nm,h' n=h n):tK h' c=tK h c:=by
 cases c with
 |sl n sz lo len=>simp only[tK];rw[hh n (by simp[ah.nm,ah.tB])]
 |_=>rfl
theorem M6:∀{cs:List ah} {h h':Nat->Option aq},(∀n∈cs.flatMap ah.nm,h' n=h n)->kT h' cs=kT h cs
 |[],h,h',_=>rfl
 |c::cs,h,h',hh=>by
  simp only[kT];rw[atM fun n hn=>hh n (by rw[List.flatMap_cons];exact List.mem_append.2 (.inl hn))];cases tK h c with
  |none=>rfl
  |some x=>
   obtain⟨x,o,u⟩:=x;simp only
   rw[M6 (cs:=cs) (h:=eQ h u) (h':=eQ h' u) fun n hn=>H4 (hh n (by rw[List.flatMap_cons];exact List.mem_append.2 (.inr hn))) u]
theorem ags {sz:Nat}:∀{vs:List aj} {h h':Nat->Option aq},(∀n∈vs.flatMap aj.iw,h' n=h n)->qa sz h' vs=qa sz h vs
 |[],h,h',_=>rfl
 |v::vs,h,h',hh=>by
  simp only[qa];cases hv:v.cells? with
  |none=>rfl
  |some x=>
   obtain⟨b,cs⟩:=x;simp only
   rw[M6 (cs:=cs) fun n hn=>hh n (by rw[List.flatMap_cons];exact List.mem_append.2 (.inl (CA hv▸hn)))];cases kT h cs with
   |none=>rfl
   |some y=>
    obtain⟨e,o,u⟩:=y;simp only
    rw[ags (vs:=vs) (h:=eQ h u) (h':=eQ h' u) fun n hn=>H4 (hh n (by rw[List.flatMap_cons];exact List.mem_append.2 (.inr hn))) u]
def zf (h:Nat->Option aq) (n:Nat) (gr:Bool) (m:Mode) (rs:Nat) (xs:List (List C)) (k off:Nat) (e:List C) (vs:List ah):Option Us:=
 match sub e off vs.length with
 |none=>none
 |some ii=>match kT h vs with
  |none=>none
  |some (cs,o,u)=>
   if m=.live then
    if fF cs=true/\fF ii=true/\(eQ h u n).isSome=true/\gr=false then some (u++[(n,some (.row gr m rs (xs.set k (dn e off cs))))]) else none
   else if(eQ h u n).isSome=true then some (u++[(n,some (.row gr (if o=true then m else .aI) rs (xs.set k (dn e off cs))))])
   else none
theorem aty (σ:St) (n:Nat) (gr:Bool) (m:Mode) (rs:Nat) (xs:List (List C)) (k off:Nat) (e:List C) (vs:List ah):
  oq σ n gr m rs xs k off e vs=(zf σ.h n gr m rs xs k off e vs).map fun u=>σ.eu u:=by
 unfold oq zf;cases sub e off vs.length with
 |none=>rfl
 |some ii=>
  simp only[M8];cases kT σ.h vs with
  |none=>rfl
  |some x=>
   obtain⟨cs,o,u⟩:=x;simp only[Option.map_some,H6]
   repeat' split
   all_goals first|rfl|(simp only[Option.map_some,EJ];rfl)
def xE (h:Nat->Option aq) (sz:Nat):aj->Option (List (List C)×Mode×List (Nat×Option aq))
 |.one (.nil _)=>some ([],.aO,[])
 |.one (.sl a s 0 len)=>match h a with
  |some (.row true m rs xs)=>if rs=sz/\s=sz/\len=xs.length then some (xs,m,[(a,none)]) else none
  |_=>none
 |_=>none
def vA (fl:Bool) (h:Nat->Option aq) (sz:Nat) (m:Mode):aj->Option (List (List C)×Mode×List (Nat×Option aq))
  |.one (.nil _)=>some ([],m,[])
  |.one (.c (.list s ys))=>if s=sz then(if(fl&&eO ys)=true then some (ys,m,[]) else if m=.live then none else some (ys,.aI,[])) else none
  |.one (.sl b s lo len)=>match h b with
   |some (.row gr m' rs ys)=>if rs=sz/\s=sz/\lo+len<=ys.length then
       (if(fl&&eO ((ys.drop lo).take len))=true then some ((ys.drop lo).take len,m,[])
        else if lo=0/\len=ys.length then(if m=m'/\(m=.live->gr=true) then some (ys,m,[(b,none)]) else if m=.live\/m'=.live then none else some (ys,.aI,[(b,none)])) else none)
    else none
   |_=>none
  |_=>none
theorem ag9 (σ:St) (sz:Nat) (v:aj):rv σ sz v=(xE σ.h sz v).map fun x=>(x.1,x.2.1,σ.eu x.2.2):=by
 cases v with
 |one v=>cases v with
  |sl a s lo len=>cases lo with
   |zero=>
    simp only[rv,xE];cases σ.h a with
    |none=>rfl
    |some b=>cases b with
     |box cs=>rfl
     |row gr m rs xs=>cases gr with
      |true=>simp only;split<;>rfl
      |false=>rfl
   |succ lo=>rfl
  |_=>rfl
 |_=>rfl
theorem ahb (fl:Bool) (σ:St) (sz:Nat) (m:Mode) (v:aj):mq fl σ sz m v=(vA fl σ.h sz m v).map fun x=>(x.1,x.2.1,σ.eu x.2.2):=by
 cases v with
 |one v=>cases v with
  |sl b s lo len=>
   simp only[mq,vA];cases σ.h b with
   |none=>rfl
   |some b=>cases b with
    |box cs=>rfl
    |row gr m rs xs=>
     simp only
     repeat' split
     all_goals rfl
  |c x=>cases x with
   |list s ys=>
    simp only[mq,vA]
    repeat' split
    all_goals rfl
   |_=>rfl
  |_=>rfl
 |_=>rfl
def mX (h:Nat->Option aq):List aj->Option (List Dv×List Nat×Us)
 |[]=>some ([],[],[])
 |v::vs=>match mY h v with
  |some (n,xs)=>match mX h vs with
   |some (ds,ns,u)=>some ((.ptr,xs)::ds,n::ns,u)
   |none=>none
  |none=>match v.cells? with
   |some (ag,cs)=>match kT h cs with
    |some (xs,_,u)=>match mX (eQ h u) vs with
     |some (ds,ns,u')=>some ((if ag=true then .agg else .one,xs)::ds,ns,u++u')
     |none=>none
    |none=>none
   |none=>none
theorem O3:∀(vs:List aj) (σ:St),σ.iP vs=(mX σ.h vs).map fun x=>(x.1,x.2.1,σ.eu x.2.2)
 |[],σ=>rfl
 |v::vs,σ=>by
  simp only[St.iP,mX];cases mY σ.h v with
  |some x=>
   obtain⟨n,xs⟩:=x;simp only[O3 vs σ];cases mX σ.h vs<;>rfl
  |none=>
   simp only
   cases v.cells? with
   |none=>rfl
   |some x=>
    obtain⟨ag,cs⟩:=x;simp only
    rw[M8];cases kT σ.h cs with
    |none=>rfl
    |some y=>
     obtain⟨e,o,u⟩:=y;simp only[Option.map_some,O3 vs,H6];cases mX (eQ σ.h u) vs with
     |none=>rfl
     |some y=>obtain⟨ds,ns,u'⟩:=y;simp only[Option.map_some,EJ]
theorem ahm {h:Nat->Option aq} {v:aj} {n:Nat} {xs:List C} (e:mY h v=some (n,xs)):n∈v.iw:=by
 obtain⟨sz,cs,rfl,_⟩:=O5 e;simp[aj.iw,ah.nm,ah.tB]
theorem JL:∀{vs:List aj} {h:Nat->Option aq} {ds:List Dv} {ns:List Nat} {u:Us},mX h vs=some (ds,ns,u)->(∀q∈u,q.1∈vs.flatMap aj.iw)/\∀n∈ns,n∈vs.flatMap aj.iw
 |[],h,ds,ns,u,e=>by
  simp only[mX] at e;injection e with e;injection e with _ e;injection e with e1 e;subst e e1;exact⟨fun q hq=>(by cases hq),fun q hq=>(by cases hq)⟩
 |v::vs,h,ds,ns,u,e=>by
  simp only[mX] at e;split at e
  ·rename_i n xs hp;split at e
   ·rename_i ur lD u' e2;injection e with e;injection e with _ e;injection e with e1 e;subst e e1;obtain⟨i1,i2⟩:=JL e2;rw[List.flatMap_cons];refine⟨fun q hq=>List.mem_append.2 (.inr (i1 q hq)),fun m hm=>?_⟩;rcases List.mem_cons.1 hm with rfl|hm
    ·exact List.mem_append.2 (.inl (ahm hp))
    ·exact List.mem_append.2 (.inr (i2 m hm))
   ·cases e
  ·split at e
   ·rename_i b cs hv;split at e
    ·rename_i x o1 u1 e1;split at e
     ·rename_i ds2 ns2 u2 e2;injection e with e;injection e with _ e;injection e with e3 e;subst e e3;obtain⟨i1,i2⟩:=JL e2;rw[List.flatMap_cons];refine⟨fun q hq=>?_,fun m hm=>List.mem_append.2 (.inr (i2 m hm))⟩;rcases List.mem_append.1 hq with hq|hq
      ·exact List.mem_append.2 (.inl (CA hv▸M7 e1 q hq))
      ·exact List.mem_append.2 (.inr (i1 q hq))
     ·cases e
    ·cases e
   ·cases e
theorem ahl {h h':Nat->Option aq} {v:aj} (hh:∀n∈v.iw,h' n=h n):mY h' v=mY h v:=by
 cases v with
 |one c=>cases c with
  |ptr n k sz off=>simp only[mY];rw[hh n (by simp[aj.iw,ah.nm,ah.tB])]
  |_=>rfl
 |_=>rfl
theorem O1:∀{vs:List aj} {h h':Nat->Option aq},(∀n∈vs.flatMap aj.iw,h' n=h n)->mX h' vs=mX h vs
 |[],h,h',_=>rfl
 |v::vs,h,h',hh=>by
  have h1:∀n∈v.iw,h' n=h n:=fun n hn=>hh n (by rw[List.flatMap_cons];exact List.mem_append.2 (.inl hn));have h2:∀n∈vs.flatMap aj.iw,h' n=h n:=fun n hn=>hh n (by rw[List.flatMap_cons];exact List.mem_append.2 (.inr hn));simp only[mX];rw[ahl h1];cases mY h v with
  |some x=>
   obtain⟨n,xs⟩:=x;simp only
   rw[O1 h2]
  |none=>
   simp only
   cases hv:v.cells? with
   |none=>rfl
   |some x=>
    obtain⟨b,cs⟩:=x;simp only
    rw[M6 (cs:=cs) fun n hn=>h1 n (CA hv▸hn)];cases kT h cs with
    |none=>rfl
    |some y=>
     obtain⟨e,o,u⟩:=y;simp only
     rw[O1 (vs:=vs) (h:=eQ h u) (h':=eQ h' u) fun n hn=>H4 (h2 n hn) u]
def wR (h:Nat->Option aq):List Nat->List C->Option Us
 |[],[]=>some []
 |[n],out=>match h n with
  |some (.box cs)=>if cs.length=out.length then some [(n,some (.box (out.map .c)))] else none
  |_=>none
 |_,_=>none
theorem ar4 (σ:St) (ns:List Nat) (out:List C):σ.sq ns out=(wR σ.h ns out).map σ.eu:=by
 match ns,out with
 |[],[]=>rfl
 |[],_::_=>rfl
 |[n],out=>
  simp only[St.sq,wR];cases σ.h n with
  |none=>rfl
  |some b=>
   cases b with
   |box cs=>simp only;split<;>rfl
   |row gr m rs xs=>rfl
 |_::_::_,out=>rfl
theorem ar3 {h:Nat->Option aq} {ns:List Nat} {out:List C} {u:Us} (e:wR h ns out=some u):∀q∈u,q.1∈ns:=by
 unfold wR at e;split at e
 ·injection e with e;subst e;intro q hq;cases hq
 ·split at e
  ·split at e
   ·injection e with e;subst e;intro q hq;simp at hq;subst hq;simp
   ·cases e
  ·cases e
 ·cases e
theorem ar2 {h h':Nat->Option aq} {ns:List Nat} {out:List C} (hh:∀n∈ns,h' n=h n):wR h' ns out=wR h ns out:=by
 match ns,out with
 |[],[]=>rfl
 |[],_::_=>rfl
 |[n],out=>simp only[wR];rw[hh n (by simp)]
 |_::_::_,out=>rfl
def Cm (d:Option Nat):List Dv->Option (aj×List (Nat×aq))
 |[(.ptr,cs)]=>match d with
  |some q=>some (.one (.ptr q 0 0 0),[(q,.box (cs.map .c))])
  |none=>none
 |rs=>match kl rs with
  |some ls=>some (lZ ls,[])
  |none=>none
theorem ahn (σ:St) (d:Option Nat) (rs:List Dv):rz σ d rs=(Cm d rs).bind fun x=>(σ.dB x.2).map (·.put d x.1):=by
 unfold rz;split
 ·cases d with
  |none=>rfl
  |some q=>
   simp only[Cm,Option.bind_some,St.dB];cases σ.ins q _<;>rfl
 ·rename_i aF;have e:Cm d rs=match kl rs with
    |some ls=>some (lZ ls,[])
    |none=>none:=by
   unfold Cm;split
   ·exact absurd rfl (aF _)
   ·rfl
  rw[e];cases kl rs with
  |none=>rfl
  |some ls=>rfl
abbrev OL:=aj×List (Nat×Option aq)×List (Nat×aq)
def hY (T:aN) (d:Option Nat) (op:aU) (ev:MO->aj) (h:Nat->Option aq):Option OL:=
 match op with
 |.store sz x v=>match ev x,(ev v).cells? with
  |.one (.ptr n k aB off),some (_,vs)=>if vs.length=sz then
   match h n with
   |some (.box cs)=>if k=0/\off+sz<=cs.length then some (.one .bm,[(n,some (.box (dn cs off vs)))],[]) else none
   |some (.row gr m rs xs)=>if aB=rs then
    match xs[k]? with
    |some e=>match zf h n gr m rs xs k off e vs with
     |some u=>some (.one .bm,u,[])
     |none=>none
    |none=>none
    else none
   |none=>none
   else none
  |.one (.cY n k aB off s i),some (_,vs)=>if vs.length=sz then
   match h n with
   |some (.row false .live rs xs)=>if aB=rs then
    match w6 xs k off s i vs with
    |some ar=>some (.one .bm,[(n,some (.row false .live rs ar))],[])
    |none=>none
    else none
   |_=>none
   else none
  |_,_=>none
 |.ft sz ps=>match d,qa sz h (ps.map ev) with
  |some n,some (es,o,u)=>some (.one (.sl n sz 0 es.length),u,[(n,.row true (if o=true then .aO else .aI) sz es)])
  |_,_=>none
 |.append fl sz by_ x y=>match d with
  |none=>none
  |some n=>match xE h sz (ev x) with
   |none=>none
   |some (xs,m,u1)=>match vA fl (eQ h u1) sz m (ev y) with
    |none=>none
    |some (ys,m2,u2)=>if(xs.length+ys.length)*by_<=dR then some (.one (.sl n sz 0 (xs.length+ys.length)),u1++u2,[(n,.row true m2 sz (xs++ys))]) else none
 |.ki f xs=>match mX h (xs.map ev),aN.lM T.vs f with
  |some (ds,ns,u),some M=>match M ds with
   |some (rs,out)=>match wR (eQ h u) ns out,Cm d rs with
    |some u',some (v,is)=>some (v,u++u',is)
    |_,_=>none
   |none=>none
  |_,_=>none
 |.copy sz x y=>match ev x,ev y with
  |.one (.sl n s lo len),.one c=>match h n,cO h c with
   |some (.row gr m rs xs),some (.list s' ys)=>if sz=1/\s=1/\rs=1/\s'=1/\m≠ .aI/\eO xs=true/\eO ys=true/\lo+len<=xs.length then
    some (.one (.c (.int .i64 (Nat.min ys.length len:Nat))),[(n,some (.row gr m 1 (dn xs lo (ys.take len))))],[]) else none
   |_,_=>none
  |_,_=>none
 |.mA z x=>match ev x with
  |.one (.sl n s lo len)=>match h n with
   |some (.row gr m rs xs)=>if s=1/\rs=1/\z.fh=true/\m≠ .aI/\eO xs=true/\lo+len<=xs.length then
    some (.bH [],[(n,some (.row gr m 1 (dn xs lo (List.replicate len [z]))))],[]) else none
   |_=>none
  |_=>none
 |op=>(rd T d op ev h).map fun x=>(x.1,[],x.2)
def xT (d:Option Nat) (σ:St) (p:OL):Option St:=((σ.eu p.2.1).dB p.2.2).map (·.put d p.1)
theorem Km {T:aN} {d:Option Nat} {op:aU} {σ:St} {ws:List Nat} (hw:op.lF σ.ev σ.h=some ws) (hd:∀sz x v,op=.store sz x v->d=none):
  exec T d op σ=(hY T d op σ.ev σ.h).bind (xT d σ):=by
 by_cases hc:op.eY<=1
 ·rw[ql T d op σ hc];have:hY T d op σ.ev σ.h=(rd T d op σ.ev σ.h).map fun x=>(x.1,[],x.2):=by
   cases op<;>first|rfl|(simp[aU.eY] at hc)
  rw[this];cases rd T d op σ.ev σ.h with
  |none=>rfl
  |some x=>rfl
 ·cases op<;>simp[aU.eY] at hc<;>simp only[aU.lF] at hw
  case hZ=>cases hw
  case nH=>cases hw
  case pq=>cases hw
  case copy sz x y=>
   simp only[exec,hY];cases σ.ev x with
   |one p=>cases p with
    |sl n s lo len=>
     cases σ.ev y with
     |one c=>
      simp only
      cases σ.h n with
      |none=>rfl
      |some b=>cases b with
       |box cs=>rfl
       |row gr m rs xs=>
        cases cO σ.h c with
        |none=>rfl
        |some q=>cases q with
         |list s' ys=>
          simp only
          split<;>rfl
         |_=>rfl
     |_=>rfl
    |_=>rfl
   |_=>rfl
  case mA z x=>
   simp only[exec,hY];cases σ.ev x with
   |one p=>cases p with
    |sl n s lo len=>
     simp only
     cases σ.h n with
     |none=>rfl
     |some b=>cases b with
      |box cs=>rfl
      |row gr m rs xs=>
       simp only
       split<;>rfl
    |_=>rfl
   |_=>rfl
  case tail=>cases hw
  case qS=>cases hw
  case ki f xs=>
   simp only[exec,hY,rE,O3];cases mX σ.h (xs.map σ.ev) with
   |none=>rfl
   |some x=>
    obtain⟨ds,ns,u⟩:=x;simp only[Option.map_some];cases aN.lM T.vs f with
    |none=>rfl
    |some M=>
     simp only
     cases M ds with
     |none=>rfl
     |some z=>
      obtain⟨rs,out⟩:=z;simp only[ar4,H6];cases wR (eQ σ.h u) ns out with
      |none=>rfl
      |some u'=>
       simp only[Option.map_some,ahn];cases Cm d rs with
       |none=>rfl
       |some z=>
        obtain⟨v,is⟩:=z;simp only[Option.bind_some,xT,EJ]
  case ft sz ps=>
   simp only[exec,hY];rw[agu];cases d with
   |none=>rfl
   |some n=>
    cases qa sz σ.h (ps.map σ.ev) with
    |none=>rfl
    |some x=>
     obtain⟨es,o,u⟩:=x;simp only[Option.map_some,Option.bind_some,xT,St.dB];cases (σ.eu u).ins n (.row true (if o=true then .aO else .aI) sz es)<;>rfl
  case append fl sz by_ x y=>
   simp only[exec,hY,ag9];cases d with
   |none=>rfl
   |some n=>
    simp only
    cases xE σ.h sz (σ.ev x) with
    |none=>rfl
    |some z=>
     obtain⟨xs,m,u1⟩:=z;simp only[Option.map_some,ahb];have hh:(σ.eu u1).h=eQ σ.h u1:=by rw[mT]
     rw[hh];cases vA fl (eQ σ.h u1) sz m (σ.ev y) with
     |none=>rfl
     |some z=>
      obtain⟨ys,m2,u2⟩:=z;simp only[Option.map_some];split
      ·simp only[Option.bind_some,xT,EJ,St.dB];cases ((σ.eu u1).eu u2).ins n (.row true m2 sz (xs++ys))<;>rfl
      ·rfl
  case store sz x v=>
   have hd:=hd sz x v rfl;subst hd;simp only[exec,hY];split at hw
   ·rename_i n k aB off hx;simp only[hx];cases hv:(σ.ev v).cells? with
    |none=>rfl
    |some y=>
     obtain⟨ag,vs⟩:=y;simp only
     split
     ·split at hw
      ·rename_i cs hn;simp only[hn];split
       ·rfl
       ·rfl
      ·rename_i gr m rs xs hn;simp only[hn];split
       ·cases xs[k]? with
        |none=>rfl
        |some e=>
         simp only
         rw[aty];cases zf σ.h n gr m rs xs k off e vs with
         |none=>rfl
         |some b=>rfl
       ·rfl
      ·cases hw
     ·rfl
   ·rename_i n k aB off s i hx;simp only[hx];cases hv:(σ.ev v).cells? with
    |none=>rfl
    |some y=>
     obtain⟨ag,vs⟩:=y;simp only
     split
     ·cases σ.h n with
      |none=>rfl
      |some b=>cases b with
       |box cs=>rfl
       |row gr m rs xs=>cases m with
        |live=>cases gr with
         |true=>rfl
         |false=>
          simp only
          split
          ·cases w6 xs k off s i vs<;>rfl
          ·rfl
        |_=>cases gr<;>rfl
     ·rfl
   ·cases hw
theorem Wr {T:aN} {d:Option Nat} {op:aU} {ev:MO->aj} {h:Nat->Option aq} {ws:List Nat} {p:OL} (hw:op.lF ev h=some ws) (ha:hY T d op ev h=some p):∀q∈p.2.1,q.1∈ws:=by
 by_cases hc:op.eY<=1
 ·have:hY T d op ev h=(rd T d op ev h).map fun x=>(x.1,[],x.2):=by
   cases op<;>first|rfl|(simp[aU.eY] at hc)
  rw[this,Option.map_eq_some_iff] at ha;obtain⟨x,_,rfl⟩:=ha;intro q hq;cases hq
 ·cases op<;>simp[aU.eY] at hc<;>simp only[aU.lF] at hw
  case hZ=>cases hw
  case nH=>cases hw
  case pq=>cases hw
  case copy sz x y=>
   simp only[hY] at ha;split at ha
   ·rename_i n s lo len c hx hy;simp only[hx] at hw;injection hw with hw;subst hw
    repeat' split at ha
    all_goals first|cases ha|skip
    intro q hq;simp at hq;subst hq;simp
   ·cases ha
  case mA z x=>
   simp only[hY] at ha;split at ha
   ·rename_i n s lo len hx;simp only[hx] at hw;injection hw with hw;subst hw
    repeat' split at ha
    all_goals first|cases ha|skip
    intro q hq;simp at hq;subst hq;simp
   ·cases ha
  case tail=>cases hw
  case qS=>cases hw
  case ki f xs=>
   injection hw with hw;subst hw;simp only[hY] at ha;split at ha
   ·rename_i ds ns u M e1 e2;split at ha
    ·rename_i rs out e3;split at ha
     ·rename_i u' v is e4 e5;injection ha with ha;subst ha;obtain⟨i1,i2⟩:=JL e1;intro q hq;rw[List.flatMap_map] at i1 i2;rcases List.mem_append.1 hq with hq|hq
      ·exact i1 q hq
      ·exact i2 _ (ar3 e4 q hq)
     ·cases ha
    ·cases ha
   ·cases ha
  case ft sz ps=>
   injection hw with hw;subst hw;simp only[hY] at ha;split at ha
   ·rename_i n es o u e;injection ha with ha;subst ha;intro q hq;have:=agt e q hq;rw[List.flatMap_map] at this;exact this
   ·cases ha
  case append fl sz by_ x y=>
   injection hw with hw;subst hw;simp only[hY] at ha;split at ha
   ·cases ha
   ·split at ha
    ·cases ha
    ·rename_i xs m u1 e1;split at ha
     ·cases ha
     ·rename_i ys m2 u2 e2;split at ha
      ·injection ha with ha;subst ha;intro q hq;rcases List.mem_append.1 hq with ww|ww
       ·clear hq;refine List.mem_append.2 (.inl ?_);unfold xE at e1;split at e1
        ·injection e1 with e1;injection e1 with _ e1;injection e1 with _ e1;subst e1;cases ww
        ·rename_i a s len hv;split at e1
         ·split at e1
          ·injection e1 with e1;injection e1 with _ e1;injection e1 with _ e1;subst e1;simp at ww;subst ww;simp[aj.iw,ah.nm,ah.tB,hv]
          ·cases e1
         ·cases e1
        ·cases e1
       ·clear hq;refine List.mem_append.2 (.inr ?_);have C8:∀(b:Nat),u2=[]\/u2=[(b,none)]->b∈(ev y).iw->q.1∈(ev y).iw:=by
         intro b hb hm;rcases hb with hb|hb
         ·subst hb;cases ww
         ·subst hb;simp at ww;subst ww;exact hm
        unfold vA at e2;split at e2
        ·injection e2 with e2;injection e2 with _ e2;injection e2 with _ e2;subst e2;cases ww
        ·repeat' split at e2
         all_goals first|cases e2|skip
         all_goals (cases ww)
        ·rename_i b s lo len hv;have hm:b∈(ev y).iw:=by simp[hv,aj.iw,ah.nm,ah.tB]
         refine C8 b ?_ hm
         repeat' split at e2
         all_goals first|cases e2|skip
         all_goals first|exact .inl rfl|exact .inr rfl
        ·cases e2
      ·cases ha
  case store sz x v=>
   simp only[hY] at ha;split at ha
   ·rename_i n k aB off b vs hx hv;simp only[hx] at hw;split at ha
    ·split at ha
     ·rename_i cs hn;simp only[hn] at hw;split at ha
      ·injection ha with ha;subst ha;injection hw with hw;subst hw;intro q hq;simp at hq;subst hq;simp
      ·cases ha
     ·rename_i gr m rs xs hn;simp only[hn] at hw;injection hw with hw;subst hw;split at ha
      ·split at ha
       ·split at ha
        ·rename_i u e0;injection ha with ha;subst ha;intro q hq;have hq:q∈u:=hq;have two:∀(u1:Us) (bb:Option aq),u=u1++[(n,bb)]->(∀q∈u1,q.1∈vs.flatMap ah.nm)->q.1∈n::(ev v).iw:=by
          intro u1 bb he Dm;rw[he] at hq;rcases List.mem_append.1 hq with hq|hq
          ·exact List.mem_cons_of_mem _ (CA hv▸Dm q hq)
          ·simp at hq;subst hq;simp
         unfold zf at e0;split at e0
         ·cases e0
         ·split at e0
          ·cases e0
          ·rename_i cs o u1 e1;have Dm:=M7 e1
           repeat' split at e0
           all_goals first|(injection e0 with e0;exact two _ _ e0.symm Dm)|cases e0
        ·cases ha
       ·cases ha
      ·cases ha
     ·cases ha
    ·cases ha
   ·rename_i n k aB off s i b vs hx hv;simp only[hx] at hw;injection hw with hw;subst hw
    repeat' split at ha
    all_goals first|cases ha|skip
    intro q hq;simp at hq;subst hq;simp
   ·cases ha
section
variable {T:aN} {d:Option Nat} {op:aU} {ev ev':MO->aj} {h h':Nat->Option aq}
theorem G5 (cb:∀x∈op.args,ev' x=ev x):op.j0 ev'=op.j0 ev:=by
 unfold aU.j0;generalize op.args=l at cb;induction l with
 |nil=>rfl
 |cons x l ih=>simp only[List.flatMap_cons];rw[cb x (by simp),ih fun y hy=>cb y (List.mem_cons_of_mem _ hy)]
theorem WU:∀{l:List Nat} (_:∀n∈l,h' n=h n),Ct h' l=Ct h l
 |[],_=>rfl
 |n::l,hh=>by
  have:=WU (l:=l) fun m hm=>hh m (List.mem_cons_of_mem _ hm);simp only[Ct,List.flatMap_cons] at this⊢;rw[hh n (by simp),this]
theorem Th (cb:∀x∈op.args,ev' x=ev x) (hh:∀n∈op.j0 ev,h' n=h n):op.nB ev' h'=op.nB ev h:=by
 unfold aU.nB;rw[G5 cb,WU hh]
theorem Nq (cb:∀x∈op.args,ev' x=ev x) (hh:∀n∈op.j0 ev,h' n=h n):op.lF ev' h'=op.lF ev h:=by
 cases op<;>first|rfl|skip
 case store sz x v=>
  have h1:=cb x (by simp[aU.args]);have h2:=cb v (by simp[aU.args]);simp only[aU.lF,h1,h2];cases hv:ev x with
  |one p=>cases p with
   |ptr n k aB off=>simp only;rw[hh n (qU.2 ⟨x,by simp[aU.args],by rw[hv];exact rfl⟩)]
   |_=>rfl
  |_=>rfl
 case copy sz x y=>
  simp only[aU.lF,cb x (by simp[aU.args])]
 case mA z x=>
  simp only[aU.lF,cb x (by simp[aU.args])]
 case ki f xs=>
  have:=G5 (op:=.ki f xs) cb;simp only[aU.j0,aU.args] at this;simp only[aU.lF,this]
 case ft sz ps=>
  have:=G5 (op:=.ft sz ps) cb;simp only[aU.j0,aU.args] at this;simp only[aU.lF,this]
 case append fl sz by_ x y=>
  simp only[aU.lF,cb x (by simp[aU.args]),cb y (by simp[aU.args])]
theorem Wq (cb:∀x∈op.args,ev' x=ev x) (hh:∀n∈op.nB ev h,h' n=h n):hY T d op ev' h'=hY T d op ev h:=by
 have KM:∀n∈op.j0 ev,h' n=h n:=fun n hn=>hh n (LV hn);have hn:∀a∈op.args,∀n,(ev a).ref n->h' n=h n:=fun a ha n hr=>KM n (qU.2 ⟨a,ha,hr⟩);have gen:rd T d op ev' h'=rd T d op ev h:=by
  rw[D8 T d op _ cb];refine adx (u:=fun n=>h' n=h n) (vv:=fun n=>n∈op.j0 ev) T d op ev (fun n hn=>hn) (fun hc m cs c n hm hb fc hr=>?_) (fun x hx m hm=>hn x hx m hm) (fun x hx m hm=>qU.2 ⟨x,hx,hm⟩);refine hh n ?_;unfold aU.nB;rw[hc];refine List.mem_append.2 (.inr ?_);unfold Ct;rw[List.mem_flatMap];exact⟨m,hm,by rw[hb];exact List.mem_flatMap.2 ⟨c,fc,ah.G6.2 hr⟩⟩
 cases op<;>first|(simp only[hY];rw[gen];done)|skip
 case store sz x v=>
  have h1:=cb x (by simp[aU.args]);have h2:=cb v (by simp[aU.args]);simp only[hY,h1,h2];have h3:=hn x (by simp[aU.args]);cases hv:ev x with
  |one p=>cases p with
   |ptr n k aB off=>
    rw[hv] at h3;have h3:=h3 n rfl;have h5:=hn v (by simp[aU.args]);cases hc:(ev v).cells? with
    |none=>rfl
    |some y=>
     obtain⟨b,vs⟩:=y;have h6:∀gr m rs xs e,zf h' n gr m rs xs k off e vs=zf h n gr m rs xs k off e vs:=by
      intro gr m rs xs e;have h7:kT h' vs=kT h vs:=M6 fun q hq=>h5 q (aj.A5.1 (CA hc▸hq));unfold zf;rw[h7];cases kT h vs with
      |none=>rfl
      |some y=>
       obtain⟨cs,o,u⟩:=y;simp only[H4 h3 u]
     simp only[h3,h6]
   |cY n k aB off s i=>
    rw[hv] at h3;have h3:=h3 n rfl;cases hc:(ev v).cells? with
    |none=>rfl
    |some y=>
     simp only[h3]
   |_=>cases (ev v).cells?<;>rfl
  |_=>cases (ev v).cells?<;>rfl
 case copy sz x y=>
  have h1:=cb x (by simp[aU.args]);have h2:=cb y (by simp[aU.args]);have h3:=hn x (by simp[aU.args]);have h4:=hn y (by simp[aU.args]);simp only[hY,h1,h2];cases hv:ev x with
  |one p=>cases p with
   |sl n s lo len=>
    rw[hv] at h3;have h3:=h3 n rfl;cases hc:ev y with
    |one c=>
     rw[hc] at h4;have h5:cO h' c=cO h c:=BA (u:=fun n=>h' n=h n) (fun n hn=>hn) fun m hm=>h4 m (ah.yY hm);simp only[h3,h5]
    |_=>rfl
   |_=>rfl
  |_=>rfl
 case mA z x=>
  have h1:=cb x (by simp[aU.args]);have h3:=hn x (by simp[aU.args]);simp only[hY,h1];cases hv:ev x with
  |one p=>cases p with
   |sl n s lo len=>
    rw[hv] at h3;have h3:=h3 n rfl;simp only[h3]
   |_=>rfl
  |_=>rfl
 case ki f xs=>
  have hl:xs.map ev'=xs.map ev:=List.map_congr_left cb;have h2:mX h' (xs.map ev)=mX h (xs.map ev):=O1 fun n bu=>by
   rw[List.flatMap_map] at bu;exact KM n bu
  simp only[hY,hl,h2];cases e1:mX h (xs.map ev) with
  |none=>rfl
  |some x=>
   obtain⟨ds,ns,u⟩:=x
   try simp only
   cases aN.lM T.vs f with
   |none=>rfl
   |some M=>
    try simp only
    cases M ds with
    |none=>rfl
    |some z=>
     obtain⟨rs,out⟩:=z
     try simp only
     rw[ar2 (h:=eQ h u) (h':=eQ h' u) fun n bu=>H4 (KM n (by
      have:=(JL e1).2 n bu;rw[List.flatMap_map] at this;exact this)) u]
 case ft sz ps=>
  have hl:ps.map ev'=ps.map ev:=List.map_congr_left cb;have h2:qa sz h' (ps.map ev)=qa sz h (ps.map ev):=ags fun n bu=>by
   rw[List.flatMap_map] at bu;exact KM n bu
  simp only[hY,hl,h2]
 case append fl sz by_ x y=>
  have h1:=cb x (by simp[aU.args]);have h2:=cb y (by simp[aU.args]);have h3:=hn x (by simp[aU.args]);have h4:=hn y (by simp[aU.args]);have e1:xE h' sz (ev x)=xE h sz (ev x):=by
   cases hv:ev x with
   |one p=>cases p with
    |sl a s lo len=>
     rw[hv] at h3;cases lo with
     |zero=>simp only[xE,h3 a rfl]
     |succ lo=>rfl
    |_=>rfl
   |_=>rfl
  have e2:∀(us:List (Nat×Option aq)) (m:Mode),vA fl (eQ h' us) sz m (ev y)=vA fl (eQ h us) sz m (ev y):=by
   intro us m;cases hv:ev y with
   |one p=>cases p with
    |sl b s lo len=>
     rw[hv] at h4;have hb:eQ h' us b=eQ h us b:=by
      by_cases hu:∃p∈us,p.1=b
      ·exact H5 hu
      ·rw[pf fun p hp e=>hu ⟨p,hp,e⟩,pf fun p hp e=>hu ⟨p,hp,e⟩];exact h4 b rfl
     simp only[vA,hb]
    |c x=>cases x<;>rfl
    |_=>rfl
   |_=>rfl
  simp only[hY,h1,h2,e1,e2]
end
theorem PK {f g:List Nat×List Nat} (h:Fy f g=true) {n:Nat} (h1:n∈f.2) (h2:n∈g.1):False:=by
 simp only[Fy,Bool.and_eq_true,List.all_eq_true] at h;have:=h.1 n h1;simp[h2] at this
theorem aid {f g:List Nat×List Nat} (h:Fy f g=true) {n:Nat} (h1:n∈g.2) (h2:n∈f.1):False:=by
 simp only[Fy,Bool.and_eq_true,List.all_eq_true] at h;have:=h.2 n h1;simp[h2] at this
theorem DS {σ:St} (W:Wf σ) {op:aU} (hf:∀a∈op.args,a.flat=true) {n:Nat} (hn:n∈op.j0 σ.ev):σ.used n=true:=by
 obtain⟨a,ha,hr⟩:=qU.1 hn;exact W.arg (hf a ha) n hr
theorem adv {σ:St} (W:Wf σ) {op:aU} (hf:∀a∈op.args,a.flat=true) {n:Nat} (hn:n∈op.nB σ.ev σ.h):σ.used n=true:=by
 unfold aU.nB at hn;cases hc:op.GC with
 |true=>
  rw[hc] at hn;rcases List.mem_append.1 hn with hn|hn
  ·exact DS W hf hn
  ·unfold Ct at hn;rw[List.mem_flatMap] at hn;obtain⟨m,hm,hn⟩:=hn;split at hn
   ·rename_i cs hb;obtain⟨c,hc,hr⟩:=List.mem_flatMap.1 hn;exact W.box m cs c n hb hc (ah.G6.1 hr)
   ·cases hn
 |false=>rw[hc] at hn;exact DS W hf hn
section
variable {T:aN} {dx dy:Option Nat} {x y:aU} {σ σ1 σ2:St}
theorem Zz (W:Wf σ) (r9:∀n,dx=some n->MO.t n∉y.args) (Ad:∀a∈y.args,a.flat=true) (vZ:∀sz p v,x=.store sz p v->dx=none)
  (hc:x.eY<=1\/y.eY=0) (h1:exec T dx x σ=some σ1):y.fp σ1=y.fp σ:=by
 have tm:=xR vZ h1;have cb:∀a∈y.args,σ1.ev a=σ.ev a:=fun a ha=>by
  cases a with
  |t n=>show σ1.env n=σ.env n;rw[tm];exact sr fun qx=>r9 n qx ha
  |k v=>rfl
 rcases hc with hc|hc
 ·rw[ql T dx x σ hc] at h1;have hh:∀n∈y.j0 σ.ev,σ1.h n=σ.h n:=by
   intro n hn;cases hr:rd T dx x σ.ev σ.h with
   |none=>rw[hr] at h1;cases h1
   |some p=>
    rw[hr] at h1;simp only[Option.bind_some,gV,Option.map_eq_some_iff] at h1;obtain⟨A,hA,rfl⟩:=h1;have:(A.put dx p.1).h=A.h:=by cases dx<;>rfl
    rw[this];exact((AE hA).1 n (DS W Ad hn)).2
  unfold aU.fp;rw[Nq cb hh,Th cb hh]
 ·unfold aU.fp;have c1:y.GC=false:=by cases y<;>first|rfl|(simp[aU.eY] at hc)
  have w:∀ev h,y.lF ev h=some []:=by intro ev h;cases y<;>first|rfl|(simp[aU.eY] at hc)
  simp only[w,aU.nB,c1,cond_false,G5 cb]
theorem ahX (W:Wf σ) (hd:∀n,dx=some n->dy≠some n) (r9:∀n,dx=some n->MO.t n∉y.args) (uL:∀n,dy=some n->MO.t n∉x.args)
  (KK:∀a∈x.args,a.flat=true) (Ad:∀a∈y.args,a.flat=true)
  (vZ:∀sz p v,x=.store sz p v->dx=none) (F5:∀sz p v,y=.store sz p v->dy=none) (hk:Fz (x.fp σ) (y.fp σ1)=true)
  (h1:exec T dx x σ=some σ1) (h2:exec T dy y σ1=some σ2):∃τ,exec T dy y σ=some τ/\exec T dx x τ=some σ2/\y.fp σ1=y.fp σ/\x.fp τ=x.fp σ:=by
 unfold aU.fp at hk;cases zV:x.lF σ.ev σ.h with
 |none=>rw[zV] at hk;cases hk
 |some wx=>
 cases zW:y.lF σ1.ev σ1.h with
 |none=>rw[zV,zW] at hk;cases hk
 |some wy=>
 rw[zV,zW] at hk;simp only[Option.map_some,Fz] at hk;rw[Km zV vZ] at h1;rw[Km zW F5] at h2;cases Ka:hY T dx x σ.ev σ.h with
 |none=>rw[Ka] at h1;cases h1
 |some px=>
 obtain⟨vx,ux,nx⟩:=px;rw[Ka] at h1;simp only[Option.bind_some,xT,Option.map_eq_some_iff] at h1;obtain⟨A,hA,rfl⟩:=h1;have Nb:∀q∈ux,q.1∈wx:=Wr zV Ka;have VY:∀q∈ux,σ.used q.1=true:=fun q hq=>DS W KK (agV zV (Nb q hq));obtain⟨A',ZK,rfl⟩:=RU VY hA;obtain⟨oa,ea⟩:=AE ZK;have nX:∀(s:St) (d:Option Nat) (v:aj),(s.put d v).h=s.h:=fun s d v=>by cases d<;>rfl
 have cb:∀a∈y.args,((A'.eu ux).put dx vx).ev a=σ.ev a:=fun a ha=>by
  rw[pY,Kk fun n hn=>sr fun qx=>r9 n qx (hn▸ha)];cases a with
  |t n=>show(A'.eu ux).env n=σ.env n;rw[mT];show A'.env n=_;rw[ea]
  |k v=>rfl
 have alr:y.nB ((A'.eu ux).put dx vx).ev ((A'.eu ux).put dx vx).h=y.nB σ.ev σ.h/\y.lF ((A'.eu ux).put dx vx).ev ((A'.eu ux).put dx vx).h=y.lF σ.ev σ.h:=by
  have hh:∀n∈y.j0 σ.ev,((A'.eu ux).put dx vx).h n=σ.h n:=fun n hn=>by
   rw[nX,mT];show eQ A'.h ux n=_;rw[pf fun p hp e=>PK hk (Nb p hp) (by rw[e];exact LV (by rw[G5 cb];exact hn))];exact(oa n (DS W Ad hn)).2
  exact⟨Th cb hh,Nq cb hh⟩
 obtain⟨r1,r2⟩:=alr;have hh:∀n∈y.nB σ.ev σ.h,((A'.eu ux).put dx vx).h n=σ.h n:=fun n hn=>by
  rw[nX,mT];show eQ A'.h ux n=_;rw[pf fun p hp e=>PK hk (Nb p hp) (by rw[e];show n∈y.nB _ _;rw[r1];exact hn)];exact(oa n (adv W Ad hn)).2
 have eay:hY T dy y ((A'.eu ux).put dx vx).ev ((A'.eu ux).put dx vx).h=hY T dy y σ.ev σ.h:=Wq cb hh;rw[eay] at h2;rw[r2] at zW;cases Kc:hY T dy y σ.ev σ.h with
 |none=>rw[Kc] at h2;cases h2
 |some py=>
 obtain⟨vy,uy,ny⟩:=py;rw[Kc] at h2;simp only[Option.bind_some,xT,Option.map_eq_some_iff] at h2;obtain⟨D,hD,rfl⟩:=h2;have uyw:∀q∈uy,q.1∈wy:=Wr zW Kc;have uyn:∀q∈uy,q.1∈y.j0 σ.ev:=fun q hq=>agV zW (uyw q hq);have VZ:∀q∈uy,σ.used q.1=true:=fun q hq=>DS W Ad (uyn q hq);have uyA:∀q∈uy,A'.used q.1=true:=fun q hq=>(oa _ (VZ q hq)).1;have uxA:∀q∈ux,A'.used q.1=true:=fun q hq=>(oa _ (VY q hq)).1;have te:∀p∈ux,∀q∈uy,p.1≠q.1:=fun p hp q hq e=>PK hk (Nb p hp) (by rw[e];show q.1∈y.nB _ _;rw[r1];exact LV (uyn q hq));rw[pY,agE,AF,Option.map_eq_some_iff] at hD;obtain⟨D0,hD0,rfl⟩:=hD;obtain⟨D1,hD1,rfl⟩:=RU (σ:=A'.eu ux) (fun q hq=>by rw[mT];exact uyA q hq) hD0;obtain⟨F,hF,rfl⟩:=RU uxA hD1;obtain⟨C',hC,hCF⟩:=RT ZK hF;obtain⟨oc,ec⟩:=AE hC;have uyC:∀q∈uy,C'.used q.1=true:=fun q hq=>(oc _ (VZ q hq)).1;have uxC:∀q∈ux,C'.used q.1=true:=fun q hq=>(oc _ (VY q hq)).1;have KF:∀a∈x.args,((C'.eu uy).put dy vy).ev a=σ.ev a:=fun a ha=>by
  rw[pY,Kk fun n hn=>sr fun qx=>uL n qx (hn▸ha)];cases a with
  |t n=>show(C'.eu uy).env n=σ.env n;rw[mT];show C'.env n=_;rw[ec]
  |k v=>rfl
 have hhx:∀n∈x.nB σ.ev σ.h,((C'.eu uy).put dy vy).h n=σ.h n:=fun n hn=>by
  rw[nX,mT];show eQ C'.h uy n=_;rw[pf fun p hp e=>aid hk (uyw p hp) (by rw[e];exact hn)];exact(oc n (adv W KK hn)).2
 have QP:∀n∈x.j0 σ.ev,((C'.eu uy).put dy vy).h n=σ.h n:=fun n hn=>hhx n (LV hn);refine⟨(C'.eu uy).put dy vy,?_,?_,?_,?_⟩
 ·rw[Km zW F5,Kc];simp only[Option.bind_some,xT,Gz VZ hC,Option.map_some]
 ·rw[Km (ws:=wx) (by rw[Nq KF QP];exact zV) vZ,Wq KF hhx,Ka];simp only[Option.bind_some,xT];rw[pY,agE,AF,Gz (σ:=C'.eu uy) (fun q hq=>by rw[mT];exact uxC q hq) (Gz uyC hCF)];simp only[Option.map_some];rw[pY,pY,at0 te];congr 1;have e1:(C'.eu uy).env=σ.env:=by rw[mT];exact ec
  have e2:(A'.eu ux).env=σ.env:=by rw[mT];exact ea
  show St.we _ (jn (jn (C'.eu uy).env dy vy) dx vx)=St.we _ (jn (jn (A'.eu ux).env dx vx) dy vy);rw[e1,e2,L9 σ.env _ _ hd];rfl
 ·unfold aU.fp;rw[r1,r2]
 ·unfold aU.fp;rw[Nq KF QP,Th KF QP]
end
def Fm (x y:bN):Bool:=x.op.eY==0||y.op.eY==0||(decide (x.op.eY<=1)&&decide (y.op.eY<=1))
def Fp (x y:bN):Bool:=
 (match x.dst with|some d=>y.u5 d&&(match y.dst with|some e=>e !=d|none=>true)|none=>true)&&
 (match y.dst with|some d=>x.u5 d|none=>true)&&x.rK&&y.rK
theorem Xm {T:aN} {x y:bN} {σ σ1 σ2:St} (W:Wf σ) (hc:Fp x y=true) (hk:Fm x y=true\/Fz (x.fp σ) (y.fp σ1)=true) (h1:d6 T x σ=some σ1) (h2:d6 T y σ1=some σ2):
  ∃τ,d6 T y σ=some τ/\d6 T x τ=some σ2/\y.fp σ1=y.fp σ/\x.fp τ=x.fp σ:=by
 simp only[Fp,Bool.and_eq_true] at hc;obtain⟨⟨⟨c1,c2⟩,c3⟩,c4⟩:=hc;rw[CU] at h1 h2;cases ex:nK x σ.env with
 |none=>rw[ex] at h1;cases h1
 |some kw=>
  rw[ex] at h1;have h1:exec T x.dst kw σ=some σ1:=h1;have jx:kw=x.op\/kw=.mv (.k (.bH [])):=Kd ex;have Bt:∀sz p v,kw=.store sz p v->x.dst=none:=by
   intro sz p v he;rcases jx with rfl|rfl
   ·simp only[bN.rK,Bool.and_eq_true,he] at c3;simpa using c3.2
   ·cases he
  have tm:=xR Bt h1;have Rt:∀s w,y.guard=some (s,w)->x.dst≠some s:=by
   intro s w hg hd;rw[hd] at c1;simp[bN.u5,hg] at c1
  have K9:∀s w,x.guard=some (s,w)->y.dst≠some s:=by
   intro s w hg hd;rw[hd] at c2;simp[bN.u5,hg] at c2
  have Kn:nK y σ1.env=nK y σ.env:=FD fun s w hg=>by rw[tm];exact sr (Rt s w hg)
  rw[Kn] at h2;cases ey:nK y σ.env with
  |none=>rw[ey] at h2;cases h2
  |some j4=>
   rw[ey] at h2;have h2:exec T y.dst j4 σ1=some σ2:=h2;have jy:j4=y.op\/j4=.mv (.k (.bH [])):=Kd ey;have zg:∀sz p v,j4=.store sz p v->y.dst=none:=by
    intro sz p v he;rcases jy with rfl|rfl
    ·simp only[bN.rK,Bool.and_eq_true,he] at c4;simpa using c4.2
    ·cases he
   have FK:∀a∈kw.args,a.flat=true:=by
    rcases jx with rfl|rfl
    ·simp only[bN.rK,Bool.and_eq_true,List.all_eq_true] at c3;exact c3.1
    ·intro a ha;simp[aU.args] at ha;subst ha;rfl
   have FL:∀a∈j4.args,a.flat=true:=by
    rcases jy with rfl|rfl
    ·simp only[bN.rK,Bool.and_eq_true,List.all_eq_true] at c4;exact c4.1
    ·intro a ha;simp[aU.args] at ha;subst ha;rfl
   have r9:∀n,x.dst=some n->MO.t n∉j4.args:=by
    intro n hd;rcases jy with rfl|rfl
    ·rw[hd] at c1;simp only[Bool.and_eq_true] at c1;exact bN.LW c1.1
    ·simp[aU.args]
   have uL:∀n,y.dst=some n->MO.t n∉kw.args:=by
    intro n hd;rcases jx with rfl|rfl
    ·rw[hd] at c2;exact bN.LW c2
    ·simp[aU.args]
   have te:∀n,x.dst=some n->y.dst≠some n:=by
    intro n hd he;rw[hd,he] at c1;simp at c1
   have yfp:y.fp σ1=j4.fp σ1:=by unfold bN.fp;rw[Kn,ey]
   have aun:y.fp σ=j4.fp σ:=by unfold bN.fp;rw[ey]
   have agW:x.fp σ=kw.fp σ:=by unfold bN.fp;rw[ex]
   have xfp:∀τ,exec T y.dst j4 σ=some τ->x.fp τ=kw.fp τ:=by
    intro τ t1;unfold bN.fp;rw[FD (e:=σ.env) (fun s w hg=>by rw[xR zg t1];exact sr (K9 s w hg)),ex]
   have gV:(∃τ,exec T y.dst j4 σ=some τ/\exec T x.dst kw τ=some σ2/\j4.fp σ1=j4.fp σ/\kw.fp τ=kw.fp σ)->∃τ,d6 T y σ=some τ/\d6 T x τ=some σ2/\y.fp σ1=y.fp σ/\x.fp τ=x.fp σ:=by
    rintro⟨τ,t1,t2,t3,t4⟩;refine⟨τ,?_,?_,?_,?_⟩
    ·rw[CU,ey];exact t1
    ·rw[CU,FD (e:=σ.env) (fun s w hg=>by rw[xR zg t1];exact sr (K9 s w hg)),ex];exact t2
    ·rw[yfp,aun,t3]
    ·rw[xfp τ t1,agW,t4]
   apply gV;rcases hk with c5|hk
   ·have cv:kw.eY=0\/j4.eY=0\/(kw.eY<=1/\j4.eY<=1):=by
     rcases jx with rfl|rfl
     ·rcases jy with rfl|rfl
      ·simp only[Fm,Bool.or_eq_true,beq_iff_eq,Bool.and_eq_true,decide_eq_true_eq,or_assoc] at c5;exact c5
      ·exact .inr (.inl rfl)
     ·exact .inl rfl
    obtain⟨τ,t1,t2⟩:=Xl W te r9 uL FK FL Bt zg cv h1 h2;refine⟨τ,t1,t2,Zz W r9 FL Bt (by omega) h1,Zz W uL FK zg (by omega) t1⟩
   ·rw[yfp,agW] at hk;exact ahX W te r9 uL FK FL Bt zg hk h1 h2
def vt (T:aN) (ms:List bN) (F:Nat->Option FP):List Nat->St->St->Prop
 |[],σ,ef=>σ=ef
 |i::L,σ,ef=>∃m σ1,ms[i]? =some m/\F i=m.fp σ/\d6 T m σ=some σ1/\vt T ms F L σ1 ef
def OK (F:Nat->Option FP) (ms:List bN) (i j:Nat) (m:bN):Prop:=∃mj,ms[j]? =some mj/\Fp mj m=true/\(Fm mj m=true\/Fz (F j) (F i)=true)
structure Nw (F:Nat->Option FP) (ops:Array Oper) (ms:List bN):Prop where
 back:∀(i:Nat) (o:Oper),ops[i]? =some o->∀e∈o.after,Region.binds .any e=true->e.on<i
 pair:∀(i j:Nat) (o:Oper) (m:bN),ops[i]? =some o->ms[i]? =some m->j<i->qb ops i j\/OK F ms i j m
section
variable {B:Nat} {E:Ex} {w0 w w':World} {G G':Gh} {N:Nat}
variable {P:Program} {T:aN} {o:Oper} {mo:bN} {a:Act} {σ σ':St} {Q:Exit->Act->World->Prop} {ops:Array Oper}
theorem adN (hT:kg P T) {ms:List bN} {F:Nat->Option FP} (gQ:∀(i:Nat) (m:bN),ms[i]? =some m->∃o,ops[i]? =some o/\oH P N ops o m=true) {i:Nat} {mi:bN} (hi:ms[i]? =some mi) {post:List Nat} {ef:St}:
  ∀{pre:List Nat} {σ:St},zC B E w0 N σ->vt T ms F (pre++i::post) σ ef->(∀j∈pre,OK F ms i j mi)->
  ∃τ,F i=mi.fp σ/\d6 T mi σ=some τ/\vt T ms F (pre++post) τ ef
 |[],σ,hr,hx,hc=>by
  obtain⟨m,σ1,h1,h2,h3,h4⟩:=hx;rw[hi] at h1;injection h1 with h1;subst h1;exact⟨σ1,h2,h3,h4⟩
 |j::pre,σ,hr,hx,hc=>by
  obtain⟨mj,σ1,k1,k2,k3,k4⟩:=hx;obtain⟨mj',hj,jz,cv⟩:=hc j (by simp);rw[k1] at hj;injection hj with hj;subst hj;obtain⟨oj,_,fV⟩:=gQ j mj k1;obtain⟨oA,t0,t1,t2⟩:=adN hT gQ hi (Ti hr hT fV k3) k4 (fun k hk=>hc k (by simp[hk]));obtain⟨a,w,G,r⟩:=hr;rw[k2,t0] at cv;obtain⟨τ,s1,s2,s3,s4⟩:=Xm r.wf jz cv k3 t1;exact⟨τ,by rw[t0,s3],s1,mj,oA,k1,by rw[s4];exact k2,s2,t2⟩
theorem aug (hT:kg P T) {ms:List bN} {F:Nat->Option FP} (gQ:∀(i:Nat) (m:bN),ms[i]? =some m->∃o,ops[i]? =some o/\oH P N ops o m=true) (hlen:ms.length=ops.size) (hd:Nw F ops ms) {ef:St}
  (hQ:∀a w G,R B E w0 N ef a w G->Q .normal a w):
  ∀(gb:Nat) (L:List Nat) (cG:Array Bool) (σ:St) (a:Act) (w:World) (G:Gh),R B E w0 N σ a w G->vt T ms F L σ ef->L.Pairwise (·<·)->L.length<=gb->cG.size=ops.size->
   (∀j,j∈L↔cG.getD j true=false)->EV ops cG->wpAny P .any ops Q gb cG a w:=by
 have first:∀(L:List Nat) (cG:Array Bool),L.Pairwise (·<·)->cG.size=ops.size->(∀j,j∈L↔cG.getD j true=false)->Region.ready .any ops cG=[]->L=[]:=by
  intro L cG hp hs hL hr;cases L with
  |nil=>rfl
  |cons j L=>
   exfalso;have hj:=(hL j).1 (by simp);have kF:j<ops.size:=by
    rw[<-hs];rcases Nat.lt_or_ge j cG.size with h|h
    ·exact h
    ·simp[Array.getElem?_eq_none h] at hj
   have ho:ops[j]? =some ops[j]:=Array.getElem?_eq_getElem kF;have:j∈Region.ready .any ops cG:=by
    rw[mem_ready];refine⟨hj,_,ho,fun e he hb=>?_⟩;have cj:=hd.back j _ ho e he hb;have ni:e.on∉j::L:=by
     intro hm;cases hm with
     |head=>omega
     |tail _ hm=>have:=(List.pairwise_cons.1 hp).1 _ hm;omega
    have aF:cG.getD e.on true≠false:=fun h=>ni ((hL e.on).2 h);have nf:e.on<cG.size:=by omega
    simp[nf] at aF⊢;exact aF
   rw[hr] at this;cases this
 intro gb;induction gb with
 |zero=>
  intro L cG σ a w G r hx hp hl hs hL hC;have qt:L=[]:=List.eq_nil_of_length_eq_zero (by omega);subst qt;have hx:σ=ef:=hx;subst hx;refine⟨?_,hQ _ _ _ r⟩;cases hr:Region.ready .any ops cG with
  |nil=>rfl
  |cons i l=>
   have hm:i∈Region.ready .any ops cG:=by rw[hr];simp
   have:=(hL i).2 (mem_ready.1 hm).1;cases this
 |succ gb ih=>
  intro L cG σ a w G r hx hp hl hs hL hC;refine⟨fun hr=>?_,fun i hi=>?_⟩
  ·have qt:=first L cG hp hs hL hr
   subst qt;have hx:σ=ef:=hx;subst hx;exact hQ _ _ _ r
  ·obtain⟨Ai,oi,iD,Aa⟩:=mem_ready.1 hi;have pC:i∈L:=(hL i).2 Ai;obtain⟨pre,post,rfl⟩:=List.append_of_mem pC;have Df:i<ops.size:=(Array.getElem?_eq_some_iff.1 iD).1;have rY:ms[i]? =some ms[i]:=List.getElem?_eq_getElem (by omega);obtain⟨o',fB,jk⟩:=gQ i _ rY;rw[iD] at fB;injection fB with fB;subst fB;have fY:=List.pairwise_append.1 hp;obtain⟨τ,t0,t1,t2⟩:=adN (ops:=ops) hT gQ rY ⟨a,w,G,r⟩ hx (fun j hj=>by
    have kE:j<i:=fY.2.2 j hj i (by simp);rcases hd.pair i j oi _ iD rY kE with FX|h
    ·have h1:=Co hC FX (fun o ho e he hb=>by
      rw[iD] at ho;injection ho with ho;subst ho;have h1:=Aa e he hb;have cj:=hd.back i _ iD e he hb;have nf:e.on<cG.size:=by omega
      simp[nf] at h1⊢;exact h1)
     have h2:=(hL j).1 (by simp[hj]);rw[h1] at h2;cases h2
    ·exact h)
   have qF:∀a' w',Nx B E w0 N τ a' w'->wpAny P .any ops Q gb (cG.setIfInBounds i true) a' w':=by
    rintro a' w' ⟨G',r'⟩;refine ih (pre++post) _ τ a' w' G' r' t2 ?_ (by simp at hl⊢;omega) (by simpa using hs) (fun j=>?_) (fun k o ho hk e he hb=>?_)
    ·rw[List.pairwise_append];exact⟨fY.1,(List.pairwise_cons.1 fY.2.1).2,fun x hx y hy=>fY.2.2 x hx y (by simp[hy])⟩
    ·by_cases kE:j=i
     ·subst kE;have kF:j<cG.size:=by omega
      simp only[List.mem_append];constructor
      ·rintro(h|h)
       ·have:=fY.2.2 j h j (by simp);omega
       ·have:=(List.pairwise_cons.1 fY.2.1).1 j h;omega
      ·intro h;simp[kF] at h
     ·rw[getD_set_ne true (Ne.symm kE),<-hL j];simp[kE]
    ·have yg:∀q,cG.getD q true=true->(cG.setIfInBounds i true).getD q true=true:=by
      intro q hq;by_cases nZ:q=i
      ·subst nZ;have:q<cG.size:=by omega
       simp[this]
      ·rw[getD_set_ne true (Ne.symm nZ)];exact hq
     by_cases ye:k=i
     ·subst ye;rw[iD] at ho;injection ho with ho;subst ho;have h1:=Aa e he hb;have cj:=hd.back k _ iD e he hb;have nf:e.on<cG.size:=by omega
      refine yg _ ?_;simp[nf] at h1⊢;exact h1
     ·rw[getD_set_ne true (Ne.symm ye)] at hk;exact yg _ (hC k o ho hk e he hb)
   unfold wpOp;rw[iD];simp only
   rcases zZ (Q:=Q) r hT jk t1 with⟨hw,h⟩|⟨hw,h⟩
   ·rw[if_pos hw];exact .inl (Oper.wp_mono qF h)
   ·rw[if_neg (by simp[hw])];exact qF _ _ h
def Fi (ps:List (Nat×Nat)) (ops:List Oper) (ms:List bN):Bool:=
 (fun ks:List Nat=>(List.range ops.length).all fun i=>match ops[i]?,ms[i]? with
  |some o,some m=>(o.after.toList.all fun e=> !Region.binds .any e||decide (e.on<i))&&
   (List.range i).all fun j=>(ks.getD i 0).testBit j||(match ms[j]? with|some mj=>Fp mj m&&(Fm mj m||ps.contains (j,i))|none=>false)
  |_,_=>false) (uZ ops [])
theorem Xd {ps:List (Nat×Nat)} {ms:List bN} {fs:List (Option FP)} (h:Fi ps ops.toList ms=true) (hp:tC ps fs=true):Nw (fun i=>fs.getD i none) ops ms:=by
  simp only[Fi,List.all_eq_true,List.mem_range] at h;have db:∀(i:Nat) (o:Oper),ops[i]? =some o->∃m,ms[i]? =some m/\(o.after.toList.all fun e=> !Region.binds .any e||decide (e.on<i))=true/\
        ∀j,j<i->(((uZ ops.toList []).getD i 0).testBit j||(match ms[j]? with|some mj=>Fp mj m&&(Fm mj m||ps.contains (j,i))|none=>false))=true:=by
    intro i o ho;have hi:i<ops.toList.length:=by simpa using(Array.getElem?_eq_some_iff.1 ho).1
    have hi':=h i hi;have fB:ops.toList[i]? =some o:=by simpa using ho
    rw[fB] at hi';cases hm:ms[i]? with
    |none=>rw[hm] at hi';cases hi'
    |some m=>
     rw[hm] at hi';simp only[Bool.and_eq_true,List.all_eq_true,List.mem_range] at hi';exact⟨m,rfl,by rw[List.all_eq_true];exact hi'.1,hi'.2⟩
  refine⟨fun i o ho e he hb=>?_,fun i j o m ho hm hj=>?_⟩
  · obtain⟨m,_,k1,_⟩:=db i o ho;have:=List.all_eq_true.1 k1 e (Array.mem_toList_iff.2 he);simp[hb] at this;exact this
  · obtain⟨m',bL,_,k2⟩:=db i o ho;rw[hm] at bL;injection bL with bL;subst bL;have:=k2 j hj;rw[Bool.or_eq_true] at this;rcases this with h1|h1
    · exact .inl (LF ops.toList [] [] rfl rfl (by intro i k hb;simp at hb) i j h1)
    · cases Dh:ms[j]? with
      |none=>rw[Dh] at h1;cases h1
      |some mj=>
       rw[Dh] at h1;simp only[Bool.and_eq_true,Bool.or_eq_true] at h1;refine .inr ⟨mj,Dh,h1.1,?_⟩;rcases h1.2 with h2|h2
       · exact .inl h2
       · refine .inr ?_;have:=List.all_eq_true.1 hp (j,i) (by simpa using h2);exact this
theorem PU {ms:List bN}:∀(post pre:List bN) (σ ef:St) (fs dJ:List (Option FP)),ms=pre++post->dJ.length=pre.length->mD T post dJ σ=some (fs,ef)->
  dJ=fs.take dJ.length/\vt T ms (fun i=>fs.getD i none) (List.range' pre.length post.length) σ ef
 |[],pre,σ,ef,fs,dJ,he,hl,hx=>by
  simp only[mD] at hx;injection hx with hx;injection hx with h1 h2;subst h1 h2;exact⟨by simp,rfl⟩
 |m::post,pre,σ,ef,fs,dJ,he,hl,hx=>by
  simp only[mD] at hx;split at hx
  ·rename_i σ1 e1;obtain⟨h1,h2⟩:=PU (ms:=ms) post (pre++[m]) σ1 ef fs (dJ++[m.fp σ]) (by simp[he]) (by simp[hl]) hx;have h3:fs[dJ.length]? =some (m.fp σ):=by
    have:(fs.take (dJ++[m.fp σ]).length)[dJ.length]? =some (m.fp σ):=by rw[<-h1];simp
    rw[List.getElem?_take] at this;split at this
    ·exact this
    ·cases this
   have h4:dJ=fs.take dJ.length:=by
    have:=congrArg (List.take dJ.length) h1;simpa[List.take_take] using this
   refine⟨h4,m,σ1,?_,?_,e1,?_⟩
   ·rw[he,List.getElem?_append_right (Nat.le_refl _),Nat.sub_self];rfl
   ·show fs.getD pre.length none=_;rw[<-hl,List.getD_eq_getElem?_getD,h3];rfl
   ·simpa using h2
  ·cases hx
theorem ase (hT:kg P T) (hm:P.follows .mixedOrders=true) {id:Nat} {ps:List (Nat×Nat)} {ms:List bN} {fs:List (Option FP)} (hc:jQ P N ops ops.toList ms=true) (hd:Fi ps ops.toList ms=true)
  (hx:mD T ms [] σ=some (fs,σ')) (hp:tC ps fs=true) (r:R B E w0 N σ a w G) (hQ:∀a w G,R B E w0 N σ' a w G->Q .normal a w):(Code.region id ops true).wp P Q a w:=by
 obtain⟨k1,k2⟩:=Ps hc;have hlen:ms.length=ops.size:=by simpa using k1
 refine wp_region_any hm (aug (B:=B) (E:=E) (w0:=w0) (N:=N) hT (fun i m h=>by
  obtain⟨o,h1,h2⟩:=k2 i m h;exact⟨o,by simpa using h1,h2⟩) hlen (Xd hd hp) hQ ops.size (List.range ops.size) _ σ a _ G (r.drawn _) ?_ ?_ (by simp) (by simp) (fun j=>?_) (fun k o ho hk=>?_))
 ·have:=(PU (T:=T) (ms:=ms) ms [] σ σ' fs [] rfl rfl hx).2;simp only[List.length_nil,hlen,<-List.range_eq_range'] at this;exact this
 ·exact List.pairwise_lt_range
 ·rw[List.mem_range];constructor
  ·intro h;simp[h]
  ·intro h;rcases Nat.lt_or_ge j ops.size with h'|h'
   ·exact h'
   ·simp[Array.getElem?_eq_none (show(Array.replicate ops.size false).size<=j by simpa using h')] at h
 ·exfalso;have Gd:k<ops.size:=(Array.getElem?_eq_some_iff.1 ho).1;simp[Gd] at hk
end
def aqu:aU:=.mv (.k (.one .bm))
def MO.isNone:aU->Bool
 |.mv (.k (.one .bm))=>true
 |_=>false
def MO.DG (s:Nat):MO->Bool
 |.t n=>n==s
 |_=>false
def rj (sp:qd) (m:bN):Bool:=
 (match m.guard with|none=>true|some _=>false)&&(match m.op with|.mv _|.nj _ _ _|.nN _ _=>true|_=>false)&&
 (match m.dst with|none=>true|some s=>s !=sp.d&& !(sp.ml.DG s)&& !(sp.my.DG s))
def vF (P:Program) (N:Nat) (sp:qd) (o:Oper) (m:bN):Bool:=
 decide (m.dst=some sp.d)&&decide (o.dst=some sp.d)&&decide (sp.d<N)&&(match m.guard with|none=>true|some _=>false)&&(match o.guard with|none=>true|some _=>false)&&
 MO.isNone m.op&& !(sp.ml.DG sp.d)&& !(sp.my.DG sp.d)&&
 (match o.op with
  |.call c=>match c.callee,c.args.toList,c.argTypes.toList with
   |.builtin .append,[x,y],[t,t']=>(t==t')&&bT x sp.ml&&bT y sp.my&&sZ P t sp.sz (fun i z=>(i.bytes==sp.by_)&&decide (0<sp.by_)&&(z.cells.size==sp.sz))
   |_,_,_=>false
  |_=>false)
def vG (P:Program) (sp:qd) (o:Oper) (m:bN):Bool:=
 decide (m.dst=none)&&decide (o.dst=none)&&(match m.guard with|none=>true|some _=>false)&&(match o.guard with|none=>true|some _=>false)&&MO.isNone m.op&&
 (match o.op with
  |.store t x (.tmp s)=>bT x sp.mx&&(s==sp.d)&&J0 P t 1
  |_=>false)
def xL (P:Program) (N:Nat) (ops:Array Oper) (sp:qd) (n i:Nat) (o:Oper) (m:bN):Bool:=
 if i=sp.ia then vF P N sp o m else if i+1=n then vG P sp o m else oH P N ops o m
section
variable {B:Nat} {E:Ex} {w0 w w':World} {G G':Gh} {N:Nat} {h h':Nat->Option aq}
variable {P:Program} {T:aN} {o:Oper} {m:bN} {a:Act} {σ σ':St} {Q:Exit->Act->World->Prop} {ops:Array Oper} {sp:qd}
theorem MO.AG {op:aU} (h:MO.isNone op=true):op=aqu:=by
 unfold MO.isNone at h;split at h
 ·rfl
 ·cases h
theorem MO.DH {s:Nat} {x:MO} (h:x.DG s=false):x≠ .t s:=by
 rintro rfl;simp[MO.DG] at h
theorem CS {d:Nat} {v:aj} {x:MO} (h:x≠ .t d):(σ.put (some d) v).ev x=σ.ev x:=by
 cases x with
 |t n=>
  show ax σ.env d v n=σ.env n;exact cJ _ _ _ _ (fun e=>h (by rw[e]))
 |k v=>rfl
theorem Nc (hv:rj sp m=true) (hx:d6 T m σ=some σ'):σ'.h=σ.h/\σ'.ev sp.ml=σ.ev sp.ml/\σ'.ev sp.my=σ.ev sp.my:=by
 obtain⟨dst,op,guard⟩:=m;simp only[rj,Bool.and_eq_true] at hv;obtain⟨⟨h1,h2⟩,h3⟩:=hv;cases guard with
 |some g=>cases h1
 |none=>
  simp only[d6] at hx;have db:∀x,σ'=σ.put dst x->σ'.h=σ.h/\σ'.ev sp.ml=σ.ev sp.ml/\σ'.ev sp.my=σ.ev sp.my:=by
   rintro x rfl;cases dst with
   |none=>exact⟨rfl,rfl,rfl⟩
   |some s=>
    simp only[Bool.and_eq_true,Bool.not_eq_true'] at h3;exact⟨rfl,CS (MO.DH h3.1.2),CS (MO.DH h3.2)⟩
  cases op<;>simp only at h2<;>first|cases h2|skip
  ·simp only[exec] at hx;injection hx with hx;exact db _ hx.symm
  ·simp only[exec] at hx;split at hx
   ·split at hx
    ·injection hx with hx;exact db _ hx.symm
    ·cases hx
   ·injection hx with hx;exact db _ hx.symm
   ·injection hx with hx;exact db _ hx.symm
   ·cases hx
  ·simp only[exec] at hx;split at hx
   ·split at hx
    ·injection hx with hx;exact db _ hx.symm
    ·cases hx
   ·split at hx
    ·split at hx
     ·injection hx with hx;exact db _ hx.symm
     ·cases hx
    ·cases hx
   ·split at hx
    ·split at hx
     ·injection hx with hx;exact db _ hx.symm
     ·cases hx
    ·cases hx
   ·cases hx
theorem X5 (r:R B E w0 N σ a w G) (hv:rj sp m=true) (hc:oH P N ops o m=true) (hx:d6 T m σ=some σ'):o.guard=none/\o.wp P a w (Cb B E w0 N a w G o.dst σ') Q:=by
 simp only[oH,Bool.and_eq_true,decide_eq_true_eq] at hc;obtain⟨⟨⟨c1,c2⟩,c3⟩,c4⟩:=hc;have hN:∀n,o.dst=some n->n<N:=fun n hn=>by rw[hn] at c2;simpa using c2
 obtain⟨dst,op,guard⟩:=m;simp only[rj,Bool.and_eq_true] at hv;obtain⟨⟨h1,h2⟩,h3⟩:=hv;cases guard with
 |some g=>cases h1
 |none=>
  have hg:o.guard=none:=by
   unfold Pm at c3;cases hg:o.guard with
   |none=>rfl
   |some g=>rw[hg] at c3;cases c3
  refine⟨hg,?_⟩;simp only[d6] at hx;simp only at c1;subst c1;obtain⟨auD,SW,oty,auE,auC,ogd⟩:=o;cases op<;>simp only at h2<;>first|cases h2|skip
  ·rename_i x;simp only[exec] at hx;injection hx with hx;subst hx;cases SW<;>simp only[eU] at c4<;>first|cases c4|skip
   ·exact X0 r (.inl rfl) hN c4
   ·exact X0 r (.inr rfl) hN c4
  ·rename_i off x;cases SW<;>simp only[eU] at c4<;>first|cases c4|skip
   simp only[Bool.and_eq_true] at c4;simp only[exec] at hx;split at hx
   ·rename_i n k sz q e;split at hx
    ·rename_i hs;injection hx with hx;subst hx;exact PR r rfl hN c4.1 c4.2 (.inl ⟨n,k,sz,q,e,hs,rfl⟩)
    ·cases hx
   ·rename_i xs q e;injection hx with hx;subst hx;exact PR r rfl hN c4.1 c4.2 (.inr (.inl ⟨xs,q,e,rfl⟩))
   ·rename_i xs q j n s len e;injection hx with hx;subst hx;exact PR r rfl hN c4.1 c4.2 (.inr (.inr ⟨xs,q,j,n,s,len,e,rfl⟩))
   ·cases hx
  ·rename_i sz x i;cases SW<;>simp only[eU] at c4<;>first|cases c4|skip
   simp only[Bool.and_eq_true] at c4;obtain⟨⟨O9,Pa⟩,c43⟩:=c4;obtain⟨e,ti,z,k1,k2,k3,k4,k5,_⟩:=ul c43;simp only[exec] at hx;split at hx
   ·rename_i n s lo len q e1 e2;split at hx
    ·rename_i cR;obtain⟨rfl,q0,q1,hs⟩:=cR;injection hx with hx;subst hx;exact XY r rfl hN O9 Pa k1 k2 k4 e2 q0 (.inl ⟨n,lo,len,e1,q1,hs,rfl⟩)
    ·cases hx
   ·rename_i s xs q e1 e2;split at hx
    ·rename_i cR;obtain⟨rfl,q0⟩:=cR;split at hx
     ·rename_i el lm;injection hx with hx;subst hx;exact XY r rfl hN O9 Pa k1 k2 k4 e2 q0 (.inr ⟨xs,el,e1,lm,rfl⟩)
     ·cases hx
    ·cases hx
   ·rename_i n kk aB off s len q e1 e2;split at hx
    ·rename_i s' ys Gr;split at hx
     ·rename_i cR;obtain⟨rfl,q0,q1⟩:=cR;injection hx with hx;subst hx;exact ai0 r rfl hN O9 Pa k1 k2 k4 e2 q0 q1 e1 Gr
     ·cases hx
    ·cases hx
   ·cases hx
theorem ai4 (r:R B E w0 N σ a w G) {n k rs off sz s:Nat} {xs zs:List (List C)} {t:TypeId} {i:TypeInfo} {x:Operand} {mx:MO} (ho:o.op=.store t x (.tmp s)) (hd:o.dst=none) (fM:bT x mx=true)
  (hi:P.info? t=some i) (bU:i.size=1) (hp:σ.ev mx=.one (.ptr n k rs off)) (hn:σ.h n=some (.row true .live rs xs)) (nW:off+1=rs) (oP:n<aW) (hk:∃e,xs[k]? =some e)
  (r5:Cc B E w G σ.h n k off sz zs (a.tmps.getD s undef)):
  o.wp P a w (Nx B E w0 N ((σ.cut n).eD n (.row true .live rs (xs.set k ((xs.getD k []).set off (.list sz zs)))))) Q:=by
 obtain⟨x1,_⟩:=r.ev fM;rw[hp] at x1;have bK:σ.h n≠none:=by rw[hn];simp
 obtain⟨p1,p2⟩:=(x1.fE (by simp)).1 bK;have hr:=r.hr.row n true .live rs xs hn;obtain⟨⟨cur,et,q2⟩,l2,l3⟩:=hr.eI p1;obtain⟨q,qv,qe,hq⟩:=r5;obtain⟨el,lm⟩:=hk;have jC:∃pe,(G.g n).px[k]? =some pe/\pe.map PC.er=el:=by
  have bJ:=lm;rw[hr.er,List.getElem?_map] at bJ;cases hq:(G.g n).px[k]? with
  |none=>rw[hq] at bJ;cases bJ
  |some pe=>rw[hq] at bJ;simp at bJ;exact⟨pe,rfl,bJ⟩
 obtain⟨pe,r6,uG⟩:=jC;have wq:pe.length=rs:=l2.1 pe (List.mem_of_getElem? r6);have qC:=PC.kc q;rw[qv] at qC;have oL:(a.eval (.tmp s)).cells.toList=[q.val]:=by
  have he:a.eval (.tmp s)=a.tmps.getD s undef:=rfl;rw[he,qv]
  revert qC
  cases a.tmps.getD s undef<;>intro qC<;>first|rfl|(simp[Value.oneCell'] at qC)
 have jA:(a.eval (.tmp s)).cells.size=1:=by rw[<-Array.length_toList,oL];rfl
 have Ac:(G.g n).o+k*rs+off+(a.eval (.tmp s)).cells.size<=cur.size:=by
  have hc:=l2.2.1 k off (pe[off]'(by omega)) ⟨pe,r6,List.getElem?_eq_getElem _⟩;have:=Cy q2 hc;omega
 have rc:=r.cut n;have th:(σ.cut n).h n=some (.row true .live rs xs):=by show(σ.h n).map _=_;rw[hn];rfl
 have nY:Ig B E w G (σ.cut n).h n k off q:=⟨hq.ez,hq.sep,hq.nr,hq.own,fun b hb m h0=>hq.name b hb m (vJ h0),fun b hb m gr mo sz xs bF h0=>hq.row b hb m gr mo sz xs bF (xP h0),hq.rest⟩;have r':=rc.nest th oP (fun s=>aj.CM n (σ.env s)) (fun m cs c hm hc=>by
  obtain⟨ga,_,rfl⟩:=PH (h:=σ.h) hm;obtain⟨c0,_,rfl⟩:=List.mem_map.1 hc;exact ah.CM n c0) r6 nW q2 nY
 have bR:=Mk (P:=P) (w:=w) (t:=t) (i:=i) (b:=(G.g n).b) (off:=(G.g n).o+k*rs+off) (v:=a.eval (.tmp s)) (cur:=cur) (e:=et) hi (by rw[bU,jA]) q2 Ac (fun u hu=>by
  rw[oL] at hu;simp at hu;subst hu;exact PC.kc q)
 rw[oL] at bR;have iT:xs.getD k []=pe.map PC.er:=by rw[List.getD_eq_getElem?_getD,lm,uG];rfl
 rw[iT,<-qe];refine Np (w':=gE w (G.g n).b ((G.g n).o+k*rs+off) [q.val] cur) ?_ (by rw[hd];exact⟨_,r'⟩);simp only[execOp,ho,p2];simp[Instr.storeAt,Instr.sureAddr,bR]
structure EZ (sp:qd) (σ σ2:St) (n k rs off:Nat) (xs ls ys:List (List C)):Prop where
 hx:σ.ev sp.mx=.one (.ptr n k rs off)
 hl:∃s0 uW,σ.ev sp.ml=.one (.bw n k rs off s0 uW)
 nW:off+1=rs
 oP:n<aW
 hn:σ.h n=some (.row true .live rs xs)
 qA:(xs[k]?).bind (·[off]?)=some (.list sp.sz ls)
 hy:∃yc,σ.ev sp.my=.one yc/\cO σ.h yc=some (.list sp.sz ys)
 sl:eO ls=true
 sy:eO ys=true
 fit:(ls.length+ys.length)*sp.by_<=dR
 out:σ2=(σ.cut n).eD n (.row true .live rs (xs.set k ((xs.getD k []).set off (.list sp.sz (ls++ys)))))
theorem acQ {σ2:St} (h:yL sp σ=some σ2):∃n k rs off xs ls ys,EZ sp σ σ2 n k rs off xs ls ys:=by
 unfold yL at h;split at h
 ·rename_i n k rs off n' k' mP lE s0 uW yc e1 e2 e3;split at h
  ·rename_i hc;obtain⟨rfl,rfl,rfl,rfl,ho,hp⟩:=hc;split at h
   ·rename_i Hl xs hn;split at h
    ·rename_i qE;subst qE;split at h
     ·rename_i s ls s' ys qA pG;split at h
      ·rename_i cR;obtain⟨rfl,rfl,k1,k2,k3⟩:=cR;injection h with h;exact⟨_,_,_,_,xs,ls,ys,e1,⟨_,_,e2⟩,ho,hp,hn,qA,⟨yc,e3,pG⟩,k1,k2,k3,h.symm⟩
      ·cases h
     ·cases h
    ·cases h
   ·cases h
  ·cases h
 ·cases h
theorem WA (hc:vF P N sp o m=true):d6 T m σ=some (σ.put (some sp.d) (.one .bm)):=by
 simp only[vF,Bool.and_eq_true,decide_eq_true_eq] at hc;have lv:m.guard=none:=by cases hg:m.guard with|none=>rfl|some g=>rw[hg] at hc;simp at hc
 have ly:=MO.AG hc.1.1.1.2;have hd:=hc.1.1.1.1.1.1.1.1;obtain⟨dst,op,guard⟩:=m;simp only at lv ly hd;subst lv ly hd;rfl
theorem af5 (hc:vG P sp o m=true):d6 T m σ=some σ:=by
 simp only[vG,Bool.and_eq_true,decide_eq_true_eq] at hc;have lv:m.guard=none:=by cases hg:m.guard with|none=>rfl|some g=>rw[hg] at hc;simp at hc
 have ly:=MO.AG hc.1.2;have hd:=hc.1.1.1.1.1;obtain⟨dst,op,guard⟩:=m;simp only at lv ly hd;subst lv ly hd;rfl
theorem af9 (r:R B E w0 N σ a w G) (hc:vF P N sp o m=true) {ef σ2:St} {n k rs off:Nat} {xs ls ys:List (List C)} (F:EZ sp ef σ2 n k rs off xs ls ys) (hh:ef.h=σ.h) (hl:ef.ev sp.ml=σ.ev sp.ml) (hy:ef.ev sp.my=σ.ev sp.my):
  o.guard=none/\o.dst=some sp.d/\sp.d<N/\d6 T m σ=some (σ.put (some sp.d) (.one .bm))/\
  o.wp P a w (fun a' w'=>∃v,a'=a.put (some sp.d) v/\R B E w0 N (σ.put (some sp.d) (.one .bm)) a' w' G/\Cc B E w' G σ.h n k off sp.sz (ls++ys) v) Q:=by
 simp only[vF,Bool.and_eq_true,decide_eq_true_eq] at hc;obtain⟨⟨⟨⟨⟨⟨⟨⟨c1,c2⟩,c3⟩,c4⟩,c5⟩,c6⟩,c7⟩,c8⟩,c9⟩:=hc;have QM:o.guard=none:=by cases hg:o.guard with|none=>rfl|some g=>rw[hg] at c5;cases c5
 have lv:m.guard=none:=by cases hg:m.guard with|none=>rfl|some g=>rw[hg] at c4;cases c4
 have ly:=MO.AG c6;refine⟨QM,c2,c3,?_,?_⟩
 ·obtain⟨dst,op,guard⟩:=m;simp only at lv ly c1;subst lv ly c1;rfl
 ·split at c9
  ·rename_i c akN;split at c9
   ·rename_i x y t t' k1 k2 k3;simp only[Bool.and_eq_true,beq_iff_eq] at c9;obtain⟨⟨⟨rfl,d2⟩,d3⟩,d4⟩:=c9;obtain⟨e,i,z,g1,g2,g3,g4,g5,g6⟩:=ul d4;simp only[Bool.and_eq_true,beq_iff_eq,decide_eq_true_eq] at g6;obtain⟨⟨g6,g7⟩,g8⟩:=g6;have ho:o.op=.call {callee:=.builtin .append,args:=#[x,y],argTypes:=#[t,t]}:=by
     rw[akN];obtain⟨cc,ca,ct⟩:=c;simp only at k1 k2 k3;subst k1;congr 2
     ·apply Array.ext';simpa using k2
     ·apply Array.ext';simpa using k3
    obtain⟨s0,uW,gY⟩:=F.hl;obtain⟨yc,La,hy1⟩:=F.hy;rw[hl] at gY;rw[hy] at La;rw[hh] at hy1;have hn:=F.hn;rw[hh] at hn;refine Oper.wp_mono (fun a' w' ⟨v,e1,e2,e3⟩=>?_) (aiA (P:=P) (Q:=Q) r ho d2 d3 g1 g2 g3 g4 g5 g6 g7 g8 hn F.nW gY F.qA F.sl La hy1 F.sy F.fit);rw[c2] at e1;refine⟨v,e1,?_,e3⟩;rw[e1];exact e2.put (x:=.one .bm) (Or.inl rfl) (fun q hq=>(hq:False).elim) (fun q hq=>by injection hq with hq;omega)
   ·cases c9
  ·cases c9
theorem aga (r:R B E w0 N σ a w G) (hc:vG P sp o m=true) {σ2:St} {n k rs off:Nat} {xs ls ys:List (List C)} (F:EZ sp σ σ2 n k rs off xs ls ys) (hp:Cc B E w G σ.h n k off sp.sz (ls++ys) (a.tmps.getD sp.d undef)):
  o.guard=none/\d6 T m σ=some σ/\o.wp P a w (Nx B E w0 N σ2) Q:=by
 simp only[vG,Bool.and_eq_true,decide_eq_true_eq] at hc;obtain⟨⟨⟨⟨⟨c1,c2⟩,c4⟩,c5⟩,c6⟩,c9⟩:=hc;have QM:o.guard=none:=by cases hg:o.guard with|none=>rfl|some g=>rw[hg] at c5;cases c5
 have lv:m.guard=none:=by cases hg:m.guard with|none=>rfl|some g=>rw[hg] at c4;cases c4
 have ly:=MO.AG c6;refine⟨QM,?_,?_⟩
 ·obtain⟨dst,op,guard⟩:=m;simp only at lv ly c1;subst lv ly c1;rfl
 ·split at c9
  ·rename_i t x s r8;simp only[Bool.and_eq_true,beq_iff_eq] at c9;obtain⟨⟨d1,rfl⟩,d2⟩:=c9;unfold J0 at d2;split at d2
   ·rename_i i hi;simp only[Bool.and_eq_true,beq_iff_eq,decide_eq_true_eq] at d2;rw[F.out];refine ai4 r r8 c2 d1 hi d2.1 F.hx F.hn F.nW F.oP ?_ hp;have:=F.qA;cases hk:xs[k]? with
    |none=>rw[hk] at this;cases this
    |some e=>exact⟨e,rfl⟩
   ·cases d2
  ·cases c9
theorem agG:∀{l:List bN} {σ ef:St},(∀m∈l,rj sp m=true)->fu T l σ=some ef->ef.h=σ.h/\ef.ev sp.ml=σ.ev sp.ml/\ef.ev sp.my=σ.ev sp.my
 |[],σ,ef,hv,hx=>by simp only[fu] at hx;injection hx with hx;subst hx;exact⟨rfl,rfl,rfl⟩
 |m::l,σ,ef,hv,hx=>by
  simp only[fu] at hx;split at hx
  ·rename_i σ1 e1;obtain⟨a1,a2,a3⟩:=Nc (hv m (by simp)) e1;obtain⟨b1,b2,b3⟩:=agG (fun m hm=>hv m (by simp[hm])) hx;exact⟨b1.trans a1,b2.trans a2,b3.trans a3⟩
  ·cases hx
theorem Ma {d:Nat} {dst:Option Nat} {v:Value} (hd:dst≠some d):(a.put dst v).tmps.getD d undef=a.tmps.getD d undef:=by
 cases dst with
 |none=>rfl
 |some s=>
  have hs:s≠d:=fun e=>hd (by rw[e]);simp only[Act.put];simp[Array.getD_eq_getD_getElem?,Array.getElem?_setIfInBounds_ne hs]
theorem adt {d:Nat} {v:Value} (hd:d<a.tmps.size):(a.put (some d) v).tmps.getD d undef=v:=by
 simp only[Act.put];simp[Array.getD_eq_getD_getElem?,hd]
theorem agH (hv:rj sp m=true):m.dst≠some sp.d:=by
 intro h;simp only[rj,Bool.and_eq_true] at hv;rw[h] at hv;simp at hv
theorem Xe (hc:oH P N ops o m=true):o.dst=m.dst:=by
 simp only[oH,Bool.and_eq_true,decide_eq_true_eq] at hc;exact hc.1.1.1
theorem agU {so:Oper} {sm:bN}:∀{l:List Oper} {ms:List bN} {σ ef σ2:St} {a:Act} {w:World} {G:Gh} {n k rs off:Nat} {xs ls ys:List (List C)},(∀m∈ms,rj sp m=true)->jQ P N ops l ms=true->vG P sp so sm=true->
  fu T ms σ=some ef->EZ sp ef σ2 n k rs off xs ls ys->R B E w0 N σ a w G->Cc B E w G σ.h n k off sp.sz (ls++ys) (a.tmps.getD sp.d undef)->(∀a w G,R B E w0 N σ2 a w G->Q .normal a w)->wpList P ops Q (l++[so]) a w
 |[],[],σ,ef,σ2,a,w,G,n,k,rs,off,xs,ls,ys,hv,hc,hs,hx,F,r,hp,hQ=>by
  simp only[fu] at hx;injection hx with hx;subst hx;obtain⟨g1,_,g2⟩:=aga (T:=T) (Q:=Q) r hs F hp;simp only[List.nil_append];unfold wpList;rw[if_pos (by simp[Region.wanted,g1])];exact .inl (Oper.wp_mono (fun a' w' ⟨G',r'⟩=>hQ a' w' G' r') g2)
 |o::l,m::ms,σ,ef,σ2,a,w,G,n,k,rs,off,xs,ls,ys,hv,hc,hs,hx,F,r,hp,hQ=>by
  simp only[jQ,Bool.and_eq_true] at hc;simp only[fu] at hx;split at hx
  ·rename_i σ1 e1;have Ro:=hv m (by simp);obtain⟨g1,g2⟩:=X5 (Q:=Q) r Ro hc.1 e1;simp only[List.cons_append];unfold wpList;rw[if_pos (by simp[Region.wanted,g1])];refine .inl (Oper.wp_mono (fun a' w' ⟨e2,⟨v,e3⟩,r'⟩=>?_) g2);subst e2 e3;refine agU (fun m hm=>hv m (by simp[hm])) hc.2 hs hx F r' ?_ hQ;rw[(Nc Ro e1).1,Ma (by rw[Xe hc.1];exact agH Ro)];exact hp
  ·cases hx
 |[],_::_,_,_,_,_,_,_,_,_,_,_,_,_,_,_,hc,_,_,_,_,_,_=>by simp[jQ] at hc
 |_::_,[],_,_,_,_,_,_,_,_,_,_,_,_,_,_,hc,_,_,_,_,_,_=>by simp[jQ] at hc
theorem PV:∀(l l':List bN) (σ:St),fu T (l++l') σ=(fu T l σ).bind (fu T l')
 |[],l',σ=>rfl
 |m::l,l',σ=>by
  simp only[List.cons_append,fu];cases d6 T m σ with
  |none=>rfl
  |some σ1=>exact PV l l' σ1
theorem aui {l1 l2:List Oper} {m1:List bN} {σ1:St} (hT:kg P T) (hc:jQ P N ops l1 m1=true) (hx:fu T m1 σ=some σ1) (r:R B E w0 N σ a w G)
  (hQ:∀a w G,R B E w0 N σ1 a w G->wpList P ops Q l2 a w):wpList P ops Q (l1++l2) a w:=by
 induction l1 generalizing m1 σ a w G with
 |nil=>
  cases m1 with
  |nil=>simp only[fu] at hx;injection hx with hx;subst hx;exact hQ _ _ _ r
  |cons m m1=>simp[jQ] at hc
 |cons o l1 ih=>
  cases m1 with
  |nil=>simp[jQ] at hc
  |cons m m1=>
   simp only[jQ,Bool.and_eq_true] at hc;simp only[fu] at hx;split at hx
   ·rename_i σ2 e1;simp only[List.cons_append];unfold wpList;rcases zZ (Q:=Q) r hT hc.1 e1 with⟨hw,h⟩|⟨hw,G',h⟩
    ·rw[if_pos hw];exact .inl (Oper.wp_mono (fun a' w' ⟨G',r'⟩=>ih hc.2 hx r') h)
    ·rw[if_neg (by simp[hw])];exact ih hc.2 hx h
   ·cases hx
def Pq (P:Program) (N:Nat) (ops:Array Oper) (ms:List bN) (sp:qd):Bool:=
 jQ P N ops (ops.toList.take sp.ia) (ms.take sp.ia)&&
 (match ops.toList.drop sp.ia,ms.drop sp.ia with
  |oa::l,ma::m=>vF P N sp oa ma&&jQ P N ops l.dropLast m.dropLast&&m.dropLast.all (rj sp)&&(match l.getLast?,m.getLast? with
   |some so,some sm=>vG P sp so sm
   |_,_=>false)
  |_,_=>false)
theorem aa8 {α:Type} {l:List α} {x:α} (h:l.getLast?=some x):l=l.dropLast++[x]:=by
 rw[List.getLast?_eq_some_iff] at h;obtain⟨ys,rfl⟩:=h;simp
theorem asg (hT:kg P T) {id:Nat} {ms:List bN} {σ1 σ2:St} (hc:Pq P N ops ms sp=true) (hx:fu T ms σ=some σ1) (hf:yL sp σ1=some σ2) (r:R B E w0 N σ a w G)
  (hQ:∀a w G,R B E w0 N σ2 a w G->Q .normal a w):(Code.region id ops false).wp P Q a w:=by
 refine wp_region_list ?_;simp only[Pq,Bool.and_eq_true] at hc;obtain⟨nc,nd⟩:=hc;split at nd
 ·rename_i oa l ma m e1 e2;simp only[Bool.and_eq_true,List.all_eq_true] at nd;obtain⟨⟨⟨d1,d2⟩,d3⟩,d4⟩:=nd;split at d4
  ·rename_i so sm f1 f2;have hl:ops.toList=ops.toList.take sp.ia++(oa::(l.dropLast++[so])):=by
    rw[<-aa8 f1,<-e1,List.take_append_drop]
   have hm:ms=ms.take sp.ia++(ma::(m.dropLast++[sm])):=by
    rw[<-aa8 f2,<-e2,List.take_append_drop]
   rw[hl];rw[hm,PV] at hx;cases kI:fu T (ms.take sp.ia) σ with
   |none=>rw[kI] at hx;cases hx
   |some τ=>
    rw[kI] at hx;have hx:fu T (ma::(m.dropLast++[sm])) τ=some σ1:=hx;refine aui hT nc kI r fun a w G r1=>?_;obtain⟨n,k,rs,off,xs,ls,ys,F⟩:=acQ hf;simp only[fu] at hx;have hma:d6 T ma τ=some (τ.put (some sp.d) (.one .bm)):=WA d1;rw[hma] at hx;simp only at hx;rw[PV] at hx;cases eH:fu T m.dropLast (τ.put (some sp.d) (.one .bm)) with
    |none=>rw[eH] at hx;cases hx
    |some kf=>
     rw[eH] at hx;have hx:fu T [sm] kf=some σ1:=hx;have Rh:d6 T sm kf=some kf:=af5 d4;simp only[fu,Rh] at hx;injection hx with hx;subst hx;obtain⟨k1,k2,k3⟩:=agG (sp:=sp) d3 eH;have aF:sp.ml≠ .t sp.d/\sp.my≠ .t sp.d:=by
      have c:=d1;simp only[vF,Bool.and_eq_true,decide_eq_true_eq,Bool.not_eq_true'] at c;exact⟨MO.DH c.1.1.2,MO.DH c.1.2⟩
     have hh:kf.h=τ.h:=k1;have eG:kf.ev sp.ml=τ.ev sp.ml:=k2.trans (CS aF.1);have hy':kf.ev sp.my=τ.ev sp.my:=k3.trans (CS aF.2);obtain⟨g1,g2,g3,_,g5⟩:=af9 (T:=T) (Q:=Q) r1 d1 F hh eG hy';unfold wpList;rw[if_pos (by simp[Region.wanted,g1])];refine .inl (Oper.wp_mono (fun a' w' ⟨v,q1,q2,q3⟩=>?_) g5);refine agU d3 d2 d4 eH F q2 ?_ hQ;rw[q1,adt (by rw[r1.size];exact g3)];exact q3
  ·cases d4
 ·cases nd
structure Ny (F:Nat->Option FP) (ops:Array Oper) (ms:List bN) (sp:qd):Prop where
 base:Nw F ops ms
 Wy:∀(i:Nat) (m:bN),ms[i]? =some m->i≠sp.ia->i+1≠ops.size->qb ops sp.ia i\/rj sp m=true
 st:∀i,i+1<ops.size->qb ops (ops.size - 1) i
 lt:sp.ia+1<ops.size
def Ia (P:Program) (N:Nat) (ops:Array Oper) (ms:List bN) (sp:qd):Prop:=
 ∀(i:Nat) (m:bN),ms[i]? =some m->∃o,ops[i]? =some o/\xL P N ops sp ops.size i o m=true
theorem ahJ (hT:kg P T) {ms:List bN} (gQ:Ia P N ops ms sp) {i:Nat} {mi:bN} (hi:ms[i]? =some mi) {τ:St} (r:zC B E w0 N σ) (hx:d6 T mi σ=some τ):zC B E w0 N τ:=by
 obtain⟨o,ho,hc⟩:=gQ i mi hi;unfold xL at hc;split at hc
 ·simp only[vF,Bool.and_eq_true,decide_eq_true_eq] at hc;have lv:mi.guard=none:=by cases hg:mi.guard with|none=>rfl|some g=>rw[hg] at hc;simp at hc
  have ly:=MO.AG hc.1.1.1.2;have hd:=hc.1.1.1.1.1.1.1.1;have hdN:=hc.1.1.1.1.1.1.2;obtain⟨dst,op,guard⟩:=mi;simp only at lv ly hd;subst lv ly hd;have hx:some (σ.put (some sp.d) (.one .bm))=some τ:=hx;injection hx with hx;subst hx;obtain⟨a,w,G,r⟩:=r;exact⟨_,w,G,r.put (x:=.one .bm) (v:=undef) (d:=some sp.d) (Or.inl rfl) (fun q hq=>(hq:False).elim) (fun q hq=>by injection hq with hq;omega)⟩
 ·split at hc
  ·simp only[vG,Bool.and_eq_true,decide_eq_true_eq] at hc;have lv:mi.guard=none:=by cases hg:mi.guard with|none=>rfl|some g=>rw[hg] at hc;simp at hc
   have ly:=MO.AG hc.1.2;have hd:=hc.1.1.1.1.1;obtain⟨dst,op,guard⟩:=mi;simp only at lv ly hd;subst lv ly hd;have hx:some σ=some τ:=hx;injection hx with hx;subst hx;exact r
  ·exact Ti r hT hc hx
theorem adO (hT:kg P T) {ms:List bN} {F:Nat->Option FP} (gQ:Ia P N ops ms sp) {i:Nat} {mi:bN} (hi:ms[i]? =some mi) {post:List Nat} {ef:St}:
  ∀{pre:List Nat} {σ:St},zC B E w0 N σ->vt T ms F (pre++i::post) σ ef->(∀j∈pre,OK F ms i j mi)->
  ∃τ,F i=mi.fp σ/\d6 T mi σ=some τ/\vt T ms F (pre++post) τ ef
 |[],σ,hr,hx,hc=>by
  obtain⟨m,σ1,h1,h2,h3,h4⟩:=hx;rw[hi] at h1;injection h1 with h1;subst h1;exact⟨σ1,h2,h3,h4⟩
 |j::pre,σ,hr,hx,hc=>by
  obtain⟨mj,σ1,k1,k2,k3,k4⟩:=hx;obtain⟨mj',hj,jz,cv⟩:=hc j (by simp);rw[k1] at hj;injection hj with hj;subst hj;obtain⟨oA,t0,t1,t2⟩:=adO hT gQ hi (ahJ hT gQ k1 hr k3) k4 (fun k hk=>hc k (by simp[hk]));obtain⟨a,w,G,r⟩:=hr;rw[k2,t0] at cv;obtain⟨τ,s1,s2,s3,s4⟩:=Xm r.wf jz cv k3 t1;exact⟨τ,by rw[t0,s3],s1,mj,oA,k1,by rw[s4];exact k2,s2,t2⟩
theorem adP {ms:List bN} {F:Nat->Option FP} (gQ:Ia P N ops ms sp) (hd:Ny F ops ms sp):∀{L:List Nat} {σ ef:St},vt T ms F L σ ef->(∀j∈L,j≠sp.ia/\¬qb ops sp.ia j)->
  ef.h=σ.h/\ef.ev sp.ml=σ.ev sp.ml/\ef.ev sp.my=σ.ev sp.my
 |[],σ,ef,hx,_=>by have hx:σ=ef:=hx;subst hx;exact⟨rfl,rfl,rfl⟩
 |i::L,σ,ef,hx,hL=>by
  obtain⟨m,σ1,h1,_,h3,h4⟩:=hx;obtain⟨b1,b2,b3⟩:=adP gQ hd h4 (fun j hj=>hL j (by simp[hj]));have db:σ1.h=σ.h/\σ1.ev sp.ml=σ.ev sp.ml/\σ1.ev sp.my=σ.ev sp.my:=by
   obtain⟨n1,n2⟩:=hL i (by simp);by_cases rU:i+1=ops.size
   ·obtain⟨o,ho,hc⟩:=gQ i m h1;unfold xL at hc;rw[if_neg n1,if_pos rU] at hc;simp only[vG,Bool.and_eq_true,decide_eq_true_eq] at hc;have lv:m.guard=none:=by cases hg:m.guard with|none=>rfl|some g=>rw[hg] at hc;simp at hc
    have ly:=MO.AG hc.1.2;have te:=hc.1.1.1.1.1;obtain⟨dst,op,guard⟩:=m;simp only at lv ly te;subst lv ly te;have h3:some σ=some σ1:=h3;injection h3 with h3;subst h3;exact⟨rfl,rfl,rfl⟩
   ·exact Nc ((hd.Wy i m h1 n1 rU).resolve_left n2) h3
  exact⟨b1.trans db.1,b2.trans db.2.1,b3.trans db.2.2⟩
theorem wpAny_done {gb:Nat} {cG:Array Bool} (hr:Region.ready .any ops cG=[]) (hQ:Q .normal a w):wpAny P .any ops Q gb cG a w:=by
 cases gb with
 |zero=>exact⟨hr,hQ⟩
 |succ gb=>exact⟨fun _=>hQ,fun i hi=>by rw[hr] at hi;cases hi⟩
theorem auh (hT:kg P T) {ms:List bN} {F:Nat->Option FP} (gQ:Ia P N ops ms sp) (hlen:ms.length=ops.size) (hd:Ny F ops ms sp) {ef σ2:St} {n k rs off:Nat} {xs ls ys:List (List C)} (FN:EZ sp ef σ2 n k rs off xs ls ys)
  (hQ:∀a w G,R B E w0 N σ2 a w G->Q .normal a w):
  ∀(gb:Nat) (L:List Nat) (cG:Array Bool) (σ:St) (a:Act) (w:World) (G:Gh),R B E w0 N σ a w G->vt T ms F L σ ef->L.Pairwise (·<·)->L.length<=gb->cG.size=ops.size->
   (∀j,j∈L↔cG.getD j true=false)->EV ops cG->ops.size - 1∈L->(sp.ia∉L->Cc B E w G σ.h n k off sp.sz (ls++ys) (a.tmps.getD sp.d undef))->wpAny P .any ops Q gb cG a w:=by
 intro gb;induction gb with
 |zero=>
  intro L cG σ a w G r hx hp hl hs hL hC rU r5;have qt:L=[]:=List.eq_nil_of_length_eq_zero (by omega);subst qt;cases rU
 |succ gb ih=>
  intro L cG σ a w G r hx hp hl hs hL hC rU r5;have first:Region.ready .any ops cG≠[]:=by
   intro hr;cases L with
   |nil=>cases rU
   |cons j L=>
    have hj:=(hL j).1 (by simp);have kF:j<ops.size:=by
     rw[<-hs];rcases Nat.lt_or_ge j cG.size with h|h
     ·exact h
     ·simp[Array.getElem?_eq_none h] at hj
    have ho:ops[j]? =some ops[j]:=Array.getElem?_eq_getElem kF;have:j∈Region.ready .any ops cG:=by
     rw[mem_ready];refine⟨hj,_,ho,fun e he hb=>?_⟩;have cj:=hd.base.back j _ ho e he hb;have ni:e.on∉j::L:=by
      intro hm;cases hm with
      |head=>omega
      |tail _ hm=>have:=(List.pairwise_cons.1 hp).1 _ hm;omega
     have aF:cG.getD e.on true≠false:=fun h=>ni ((hL e.on).2 h);have nf:e.on<cG.size:=by omega
     simp[nf] at aF⊢;exact aF
    rw[hr] at this;cases this
  refine⟨fun hr=>absurd hr first,fun i hi=>?_⟩
  obtain⟨Ai,oi,iD,Aa⟩:=mem_ready.1 hi;have pC:i∈L:=(hL i).2 Ai;obtain⟨pre,post,rfl⟩:=List.append_of_mem pC;have Df:i<ops.size:=(Array.getElem?_eq_some_iff.1 iD).1;have rY:ms[i]? =some ms[i]:=List.getElem?_eq_getElem (by omega);obtain⟨o',fB,jk⟩:=gQ i _ rY;rw[iD] at fB;injection fB with fB;subst fB;have fY:=List.pairwise_append.1 hp;have K8:∀o,ops[i]? =some o->∀e∈o.after,Region.binds .any e=true->cG.getD e.on true=true:=by
   intro o ho e he hb;rw[iD] at ho;injection ho with ho;subst ho;have h1:=Aa e he hb;have cj:=hd.base.back i _ iD e he hb;have nf:e.on<cG.size:=by omega
   simp[nf] at h1⊢;exact h1
  obtain⟨τ,t0,t1,t2⟩:=adO (ops:=ops) hT gQ rY ⟨a,w,G,r⟩ hx (fun j hj=>by
   have kE:j<i:=fY.2.2 j hj i (by simp);rcases hd.base.pair i j oi _ iD rY kE with FX|h
   ·have h1:=Co hC FX K8;have h2:=(hL j).1 (by simp[hj]);rw[h1] at h2;cases h2
   ·exact h)
  have Gi:(pre++post).Pairwise (·<·):=by
   rw[List.pairwise_append];exact⟨fY.1,(List.pairwise_cons.1 fY.2.1).2,fun x hx y hy=>fY.2.2 x hx y (by simp[hy])⟩
  have Q2:i∉pre++post:=by
   simp only[List.mem_append];rintro(h|h)
   ·have:=fY.2.2 i h i (by simp);omega
   ·have:=(List.pairwise_cons.1 fY.2.1).1 i h;omega
  have Gb:∀j,j∈pre++post↔(cG.setIfInBounds i true).getD j true=false:=by
   intro j;by_cases kE:j=i
   ·subst kE;have kF:j<cG.size:=by omega
    constructor
    ·intro h;exact absurd h Q2
    ·intro h;simp[kF] at h
   ·rw[getD_set_ne true (Ne.symm kE),<-hL j];simp[kE]
  have yg:∀q,cG.getD q true=true->(cG.setIfInBounds i true).getD q true=true:=by
   intro q hq;by_cases nZ:q=i
   ·subst nZ;have:q<cG.size:=by omega
    simp[this]
   ·rw[getD_set_ne true (Ne.symm nZ)];exact hq
  have QG:EV ops (cG.setIfInBounds i true):=by
   intro k' o ho hk e he hb;by_cases ye:k'=i
   ·subst ye;exact yg _ (K8 o ho e he hb)
   ·rw[getD_set_ne true (Ne.symm ye)] at hk;exact yg _ (hC k' o ho hk e he hb)
  unfold wpOp;rw[iD];simp only
  by_cases x8:i=sp.ia
  ·
   have KS:ops.size - 1∈pre++post:=by
    have:ops.size - 1≠i:=by have:=hd.lt;omega
    simp only[List.mem_append,List.mem_cons] at rU⊢;rcases rU with h|h|h
    ·exact .inl h
    ·exact absurd h this
    ·exact .inr h
   unfold xL at jk;rw[if_pos x8] at jk;have yk:∀j∈pre++post,j≠sp.ia/\¬qb ops sp.ia j:=by
    intro j hj;refine⟨fun e=>Q2 (by rw[x8,<-e];exact hj),fun hb=>?_⟩;rw[<-x8] at hb;have h1:=Co hC hb K8;have h2:=(hL j).1 (by
     simp only[List.mem_append,List.mem_cons] at hj⊢;exact hj.elim .inl (fun h=>.inr (.inr h)))
    rw[h1] at h2;cases h2
   obtain⟨k1,k2,k3⟩:=adP gQ hd t2 yk;have Ru:τ=σ.put (some sp.d) (.one .bm):=by
    rw[WA (T:=T) (σ:=σ) jk] at t1;injection t1 with t1;exact t1.symm
   subst Ru;have aF:sp.ml≠ .t sp.d/\sp.my≠ .t sp.d:=by
    have c:=jk;simp only[vF,Bool.and_eq_true,decide_eq_true_eq,Bool.not_eq_true'] at c;exact⟨MO.DH c.1.1.2,MO.DH c.1.2⟩
   obtain⟨g1,g2,g3,_,g5⟩:=af9 (T:=T) (Q:=Q) r jk FN k1 (k2.trans (CS aF.1)) (k3.trans (CS aF.2));rw[if_pos (by simp[Region.wanted,g1])];refine .inl (Oper.wp_mono (fun a' w' ⟨v,q1,q2,q3⟩=>?_) g5);refine ih (pre++post) _ _ a' w' G q2 t2 Gi (by simp at hl⊢;omega) (by simpa using hs) Gb QG KS (fun _=>?_);rw[q1,adt (by rw[r.size];exact g3)];exact q3
  ·by_cases lx:i+1=ops.size
   ·
    have QQ:∀j∈pre++post,False:=by
     intro j hj;have hjL:j∈pre++i::post:=by
      simp only[List.mem_append,List.mem_cons] at hj⊢;exact hj.elim .inl (fun h=>.inr (.inr h))
     have h2:=(hL j).1 hjL;have kF:j<ops.size:=by
      rw[<-hs];rcases Nat.lt_or_ge j cG.size with h|h
      ·exact h
      ·simp[Array.getElem?_eq_none h] at h2
     have kE:j≠i:=fun e=>Q2 (e▸hj);have hb:=hd.st j (by omega);have h1:=Co hC (i:=i) (by rw[show ops.size - 1=i by omega] at hb;exact hb) K8;rw[h1] at h2;cases h2
    have Q3:pre++post=[]:=List.eq_nil_iff_forall_not_mem.2 QQ;rw[Q3] at t2 Gb;have t2:τ=ef:=t2;subst t2;unfold xL at jk;rw[if_neg x8,if_pos lx] at jk;have Ru:τ=σ:=by
     rw[af5 (T:=T) (σ:=σ) jk] at t1;injection t1 with t1;exact t1.symm
    subst Ru;have ak0:sp.ia∉pre++i::post:=by
     intro h;simp only[List.mem_append,List.mem_cons] at h;rcases h with h|h|h
     ·exact QQ sp.ia (List.mem_append_left _ h)
     ·exact x8 h.symm
     ·exact QQ sp.ia (List.mem_append_right _ h)
    obtain⟨g1,_,g2⟩:=aga (T:=T) (Q:=Q) r jk FN (r5 ak0);rw[if_pos (by simp[Region.wanted,g1])];refine .inl (Oper.wp_mono (fun a' w' ⟨G',r'⟩=>wpAny_done ?_ (hQ a' w' G' r')) g2);cases hrd:Region.ready .any ops (cG.setIfInBounds i true) with
    |nil=>rfl
    |cons q l=>
     have hm:q∈Region.ready .any ops (cG.setIfInBounds i true):=by rw[hrd];simp
     have:=(Gb q).2 (mem_ready.1 hm).1;cases this
   ·
    have KS:ops.size - 1∈pre++post:=by
     simp only[List.mem_append,List.mem_cons] at rU⊢;rcases rU with h|h|h
     ·exact .inl h
     ·omega
     ·exact .inr h
    unfold xL at jk;rw[if_neg x8,if_neg lx] at jk;by_cases cW:sp.ia∈pre++i::post
    ·have ak2:sp.ia∈pre++post:=by
      simp only[List.mem_append,List.mem_cons] at cW⊢;rcases cW with h|h|h
      ·exact .inl h
      ·exact absurd h.symm x8
      ·exact .inr h
     have qF:∀a' w',Nx B E w0 N τ a' w'->wpAny P .any ops Q gb (cG.setIfInBounds i true) a' w':=by
      rintro a' w' ⟨G',r'⟩;exact ih (pre++post) _ τ a' w' G' r' t2 Gi (by simp at hl⊢;omega) (by simpa using hs) Gb QG KS (fun h=>absurd ak2 h)
     rcases zZ (Q:=Q) r hT jk t1 with⟨hw,h⟩|⟨hw,h⟩
     ·rw[if_pos hw];exact .inl (Oper.wp_mono qF h)
     ·rw[if_neg (by simp[hw])];exact qF _ _ h
    ·have hv:rj sp ms[i]=true:=by
      refine(hd.Wy i _ rY x8 lx).resolve_left fun hb=>?_;have ak6:cG.getD sp.ia true=true:=by
       cases hq:cG.getD sp.ia true with
       |true=>rfl
       |false=>exact absurd ((hL sp.ia).2 hq) cW
      have h1:=Co hC hb (fun o ho e he hb=>hC sp.ia o ho ak6 e he hb);rw[h1] at Ai;cases Ai
     obtain⟨g1,g2⟩:=X5 (Q:=Q) r hv jk t1;rw[if_pos (by simp[Region.wanted,g1])];refine .inl (Oper.wp_mono (fun a' w' ⟨e2,⟨v,e3⟩,r'⟩=>?_) g2);subst e2 e3;refine ih (pre++post) _ τ _ _ G r' t2 Gi (by simp at hl⊢;omega) (by simpa using hs) Gb QG KS (fun _=>?_);rw[(Nc hv t1).1,Ma (by rw[Xe jk];exact agH hv)];exact r5 cW
def Pp (P:Program) (N:Nat) (ops:Array Oper) (ps:List (Nat×Nat)) (ms:List bN) (sp:qd):Bool:=
 (ms.length==ops.size)&&decide (sp.ia+1<ops.size)&&Fi ps ops.toList ms&&
 (fun ks:List Nat=>(List.range ops.size).all fun i=>match ops.toList[i]?,ms[i]? with
  |some o,some m=>xL P N ops sp ops.size i o m&&(i==sp.ia||i+1==ops.size||rj sp m||(ks.getD sp.ia 0).testBit i)&&(i+1==ops.size||(ks.getD (ops.size - 1) 0).testBit i)
  |_,_=>false) (uZ ops.toList [])
theorem asf (hT:kg P T) (hm:P.follows .mixedOrders=true) {id:Nat} {ps:List (Nat×Nat)} {ms:List bN} {fs:List (Option FP)} {σ1 σ2:St} (hc:Pp P N ops ps ms sp=true) (hx:mD T ms [] σ=some (fs,σ1)) (hp:tC ps fs=true)
  (hf:yL sp σ1=some σ2) (r:R B E w0 N σ a w G) (hQ:∀a w G,R B E w0 N σ2 a w G->Q .normal a w):(Code.region id ops true).wp P Q a w:=by
 simp only[Pp,Bool.and_eq_true,beq_iff_eq,decide_eq_true_eq,List.all_eq_true,List.mem_range] at hc;obtain⟨⟨⟨hlen,cj⟩,hd⟩,gQ⟩:=hc;have iT:∀(i:Nat) (m:bN),ms[i]? =some m->∃o,ops[i]? =some o/\xL P N ops sp ops.size i o m=true/\((i=sp.ia\/i+1=ops.size)\/rj sp m=true\/((uZ ops.toList []).getD sp.ia 0).testBit i=true)/\(i+1=ops.size\/((uZ ops.toList []).getD (ops.size - 1) 0).testBit i=true):=by
  intro i m hm;have hi:i<ops.size:=by rw[<-hlen];exact(List.getElem?_eq_some_iff.1 hm).1
  have h:=gQ i hi;have ho:ops.toList[i]? =some ops[i]:=by simp[hi]
  rw[ho,hm] at h;simp only[Bool.and_eq_true,Bool.or_eq_true,beq_iff_eq] at h;exact⟨_,Array.getElem?_eq_getElem hi,h.1.1,by
   rcases h.1.2 with(h1|h1)|h1
   ·exact .inl h1
   ·exact .inr (.inl h1)
   ·exact .inr (.inr h1),h.2⟩
 have ZT:∀i j,((uZ ops.toList []).getD i 0).testBit j=true->qb ops i j:=LF ops.toList [] [] rfl rfl (by intro i k hb;simp at hb);have hD:Ny (fun i=>fs.getD i none) ops ms sp:=by
  refine⟨Xd hd hp,fun i m hm h1 h2=>?_,fun i hi=>?_,cj⟩
  ·obtain⟨o,_,_,h3,_⟩:=iT i m hm;rcases h3 with(h3|h3)|h3|h3
   ·exact absurd h3 h1
   ·exact absurd h3 h2
   ·exact .inr h3
   ·exact .inl (ZT _ _ h3)
  ·have hm:ms[i]? =some (ms[i]'(by omega)):=List.getElem?_eq_getElem _;obtain⟨o,_,_,_,h4⟩:=iT i _ hm;exact ZT _ _ (h4.resolve_left (by omega))
 obtain⟨n,k,rs,off,xs,ls,ys,F⟩:=acQ hf;refine wp_region_any hm (auh (B:=B) (E:=E) (w0:=w0) (N:=N) hT (fun i m h=>by
  obtain⟨o,h1,h2,_⟩:=iT i m h;exact⟨o,h1,h2⟩) hlen hD F hQ ops.size (List.range ops.size) _ σ a _ G (r.drawn _) ?_ ?_ (by simp) (by simp) (fun j=>?_) (fun k o ho hk=>?_) ?_ (fun h=>?_))
 ·have:=(PU (T:=T) (ms:=ms) ms [] σ σ1 fs [] rfl rfl hx).2;simp only[List.length_nil,hlen,<-List.range_eq_range'] at this;exact this
 ·exact List.pairwise_lt_range
 ·rw[List.mem_range];constructor
  ·intro h;simp[h]
  ·intro h;rcases Nat.lt_or_ge j ops.size with h'|h'
   ·exact h'
   ·simp[Array.getElem?_eq_none (show(Array.replicate ops.size false).size<=j by simpa using h')] at h
 ·exfalso;have Gd:k<ops.size:=(Array.getElem?_eq_some_iff.1 ho).1;simp[Gd] at hk
 ·rw[List.mem_range];omega
 ·exfalso;apply h;rw[List.mem_range];omega
end
section
variable {B:Nat} {E:Ex} {w0 w w':World} {G G':Gh} {N:Nat} {h h':Nat->Option aq} {used used':Nat->Bool}
variable {P:Program} {o:Oper} {a:Act} {σ σ':St} {Q:Exit->Act->World->Prop}
structure vp (B:Nat) (E:Ex) (w:World) (G:Gh) (h:Nat->Option aq) (pc:PC):Prop where
 ez:Good w pc
 sep:Sep pc
 own:∀b,aX b pc->¬G.Im b/\dZ w b/\(B<=b\/E b)
 name:∀b,aX b pc->∀m,h m≠none->(G.g m).nl=false->b≠(G.g m).b
 row:∀b,aX b pc->∀m gr mo sz xs,h m=some (.row gr mo sz xs)->¬bf b (G.g m).px
theorem vp.less {pc:PC} (L:vp B E w G h pc) (hl:∀n b,h' n=some b->h n=some b):vp B E w G h' pc:=
 ⟨L.ez,L.sep,L.own,fun b hb m h0=>L.name b hb m (by
  cases hh:h' m with
  |none=>exact absurd hh h0
  |some x=>rw[hl m x hh];simp),fun b hb m gr mo sz xs h0=>L.row b hb m gr mo sz xs (hl m _ h0)⟩
theorem vp.wP {pc:PC} (hg:Good w pc) (cg:∀b,¬aX b pc):vp B E w G h pc:=
 ⟨hg,Sep.wP cg hg,fun b hb=>absurd hb (cg b),fun b hb=>absurd hb (cg b),fun b hb=>absurd hb (cg b)⟩
theorem HR.vi (H:HR B E w G σ.h σ.used []) {c:ah} {x:C} {ok:Bool} {σ1:St} {v:Value} (hx:σ.vi c=some (x,ok,σ1)) (hc:RC w G σ.h c v):
  ∃pc:PC,pc.er=x/\pc.val=v/\vp B E w G σ1.h pc/\(ok=true->pk w pc)/\HR B E w G σ1.h σ1.used []/\bk w G σ.h (fun n=>σ.used n=true) w G σ1.h/\σ1.env=σ.env/\σ1.used=σ.used/\(∀n b,σ1.h n=some b->σ.h n=some b)/\
   (∀b,aX b pc->∃n,σ.h n≠none/\(G.g n).nl=false/\(G.g n).b=b):=by
 unfold St.vi at hx;split at hx
 ·rename_i y;split at hx
  ·rename_i hs;injection hx with hx;injection hx with h1 h2;injection h2 with h2 h3;subst h1 h2 h3;obtain⟨pc,p1,p2,p3,_⟩:=hc;have jU:pc.er.fh=true:=by rw[p1];exact hs
   have cg:=(Sep.g9 jU).2;exact⟨pc,p1,p2,.wP p3 cg,fun _=>pk.g9 jU,H,bk.refl _ _ _ _,rfl,rfl,fun _ _ h=>h,fun b hb=>absurd hb (cg b)⟩
  ·cases hx
 ·rename_i sz;split at hx
  ·rename_i hp;injection hx with hx;injection hx with h1 h2;injection h2 with h2 h3;subst h1 h2 h3;have dm:v=.slice none 0 0:=hc;subst dm;have cg:∀b,¬aX b (.list sz none 0 []):=fun b hb=>by
    rw[aX.kN] at hb;rcases hb with⟨hb,_⟩|⟨k,j,c,⟨e,he,_⟩,_⟩
    ·exact absurd rfl hb
    ·simp at he
   exact⟨.list sz none 0 [],by simp[PC.d9],rfl,.wP (.nil _ _ _ hp) cg,fun _=>.inl rfl,H,bk.refl _ _ _ _,rfl,rfl,fun _ _ h=>h,fun b hb=>absurd hb (cg b)⟩
  ·cases hx
 ·rename_i n sz len;split at hx
  ·rename_i gr m rs xs hn;split at hx
   ·rename_i cR;obtain⟨rfl,hm,iV,hl⟩:=cR;injection hx with hx;injection hx with h1 h2;injection h2 with h2 h3;subst h1 h2 h3;have bK:σ.h n≠none:=by rw[hn];simp
    have hr:=H.row n gr m rs xs hn;have hs:gM (G.g n) rs 0 len v:=hc bK;obtain⟨a1,a2,a3,a4⟩:=Em hr hs (by omega);have Rk:eO ((G.g n).px.map fun e=>e.map PC.er)=true:=by rw[<-hr.er];exact iV
    have ale:∀b,¬bf b (G.g n).px:=vd Rk;have cW:∀b,aX b (jK (G.g n) rs 0 len v)->(G.g n).nl=false/\b=(G.g n).b:=fun b hb=>(a4 b hb).resolve_right (ale b);have F6:∃x0 c0,jK (G.g n) rs 0 len v=.list rs x0 c0 (((G.g n).px.drop 0).take len):=by
     rcases hs with⟨_,rfl,_,_⟩|⟨_,a',rfl,_,_⟩<;>exact⟨_,_,rfl⟩
    have fL:eO ((((G.g n).px.drop 0).take len).map fun e=>e.map PC.er)=true:=by
     simp only[eO,List.all_eq_true,List.mem_map] at Rk⊢;rintro e ⟨e0,lg,rfl⟩;exact Rk _ ⟨e0,List.mem_of_mem_drop (List.mem_of_mem_take lg),rfl⟩
    refine⟨jK (G.g n) rs 0 len v,by simpa using a1,a2,⟨a3,?_,fun b hb=>?_,fun b hb q hq Ao=>?_,fun b hb q bn mo aH ar hq=>?_⟩,fun fN=>?_,H.del n,bk.del n _,rfl,rfl,fun q b hq=>(nI hq).1,fun b hb=>⟨n,bK,(cW b hb).1,(cW b hb).2.symm⟩⟩
    ·obtain⟨x0,c0,hf⟩:=F6;rw[hf];exact Sep.flat fL
    ·obtain⟨gY,rfl⟩:=cW b hb;exact⟨(H.own n bK gY).1,(hr.eI gY).1,(H.own n bK gY).2.1⟩
    ·obtain⟨gY,rfl⟩:=cW b hb;obtain⟨q1,q2⟩:=vK hq;exact H.inj n q bK q1 (Ne.symm q2) gY Ao
    ·obtain⟨gY,rfl⟩:=cW b hb;intro hF;exact H.qp bK gY (nI hq).1 hF rfl
    ·simp only[Bool.and_eq_true,decide_eq_true_eq] at fN;obtain⟨rfl,eR⟩:=fN;have e7:(G.g n).px.length=xs.length:=by rw[hr.er];simp
     rcases hs with⟨aT,rfl,_,rfl⟩|⟨aT,a',rfl,gF,ha⟩
     ·omega
     ·obtain⟨r2,cur,e,r3,r4⟩:=hr.room aT rfl;have rQ:=ha (.inr rfl);refine .inr ⟨?_,?_,(G.g n).b,(G.g n).o,cur,e,by rw[rQ];simp,r3,by simpa using r4⟩
      ·intro h0;have:=congrArg List.length h0;simp at this;rcases this with h|h
       ·omega
       ·have:(G.g n).px.length=0:=by rw[h];rfl
        omega
      ·simpa using r2
   ·cases hx
  ·cases hx
 ·cases hx
theorem HR.sI:∀{cs:List ah} {σ σ1:St} {xs:List C} {ok:Bool} {vs:List Value},HR B E w G σ.h σ.used []->σ.sI cs=some (xs,ok,σ1)->dh w G σ.h cs vs->(∀c∈cs,∀m,c.ref m->σ.used m=true)->
  ∃bx:List PC,bx.map PC.er=xs/\bx.map PC.val=vs/\(∀pc∈bx,vp B E w G σ1.h pc)/\(∀(i j:Nat) (pc dv:PC) (b:Nat),i≠j->bx[i]? =some pc->bx[j]? =some dv->aX b pc->¬aX b dv)/\
   (ok=true->∀pc,bx[cs.length - 1]? =some pc->pk w pc)/\HR B E w G σ1.h σ1.used []/\bk w G σ.h (fun n=>σ.used n=true) w G σ1.h/\σ1.env=σ.env/\σ1.used=σ.used/\(∀n b,σ1.h n=some b->σ.h n=some b)/\
   (∀pc∈bx,∀b,aX b pc->∃n,σ.h n≠none/\(G.g n).nl=false/\(G.g n).b=b)
 |[],σ,σ1,xs,ok,vs,H,hx,hc,hr=>by
  simp only[St.sI] at hx;injection hx with hx;injection hx with h1 h2;injection h2 with h2 h3;subst h1 h2 h3;have:vs=[]:=List.eq_nil_of_length_eq_zero (by simpa using hc.1);subst this;exact⟨[],rfl,rfl,by simp,by simp,by simp,H,bk.refl _ _ _ _,rfl,rfl,fun _ _ h=>h,by simp⟩
 |c::cs,σ,σ2,xs,ok,vs,H,hx,hc,hr=>by
  simp only[St.sI] at hx;split at hx
  ·rename_i x o1 σ1 e1;split at hx
   ·rename_i ar o2 gK e2;injection hx with hx;injection hx with h1 h2;injection h2 with h2 h3;subst h1 h2 h3;obtain⟨hlen,cD⟩:=hc;match vs,hlen with
    |v::vs,hlen=>
     obtain⟨pc,a1,a2,a3,a4,a5,a6,a7,a8,a9,a10⟩:=H.vi e1 (cD 0 c v rfl rfl).2;have nd:dh w G σ1.h cs vs:=dh.fP a6 (fun c' dm m hm=>hr c' (by simp[dm]) m hm) ⟨by simpa using hlen,fun j c u h1 h2=>cD (j+1) c u h1 h2⟩;obtain⟨bx,b1,b2,b3,b4,b5,b6,b7,b8,b9,oE,Cl⟩:=HR.sI a5 e2 nd (fun c' dm m hm=>by rw[a8];exact hr c' (by simp[dm]) m hm);have nT:∀dv∈bx,∀b,aX b pc->¬aX b dv:=by
      intro dv alh b hb aJ;obtain⟨n,n1,n2,n3⟩:=Cl dv alh b aJ;exact a3.name b hb n n1 n2 n3.symm
     refine⟨pc::bx,by simp[a1,b1],by simp[a2,b2],fun q hq=>?_,fun i j p p' b iv hi hj hb=>?_,fun fN q hq=>?_,b6,bk.trans (fun n hn=>by rw[a8];exact hn) a6 b7,b8.trans a7,b9.trans a8,fun n b hb=>a9 n b (oE n b hb),fun q hq b hb=>?_⟩
     ·rcases List.mem_cons.1 hq with rfl|hq
      ·exact a3.less oE
      ·exact b3 q hq
     ·cases i with
      |zero=>
       simp at hi;subst hi;cases j with
       |zero=>exact absurd rfl iv
       |succ j=>exact nT p' (List.mem_of_getElem? (by simpa using hj)) b hb
      |succ i=>
       cases j with
       |zero=>
        simp at hj;subst hj;exact fun aJ=>nT p (List.mem_of_getElem? (by simpa using hi)) b aJ hb
       |succ j=>exact b4 i j p p' b (by omega) (by simpa using hi) (by simpa using hj) hb
     ·cases cs with
      |nil=>
       have Gk:bx=[]:=by
        have:=congrArg List.length b1;simp only[St.sI] at e2;injection e2 with e2;injection e2 with e2 _;rw[<-e2] at this;simpa using this
       subst Gk;simp at hq;subst hq;exact a4 fN
      |cons c2 CK=>
       refine b5 fN q ?_;simpa using hq
     ·rcases List.mem_cons.1 hq with rfl|hq
      ·exact a10 b hb
      ·obtain⟨n,n1,n2,n3⟩:=Cl q hq b hb;refine⟨n,?_,n2,n3⟩;cases hh:σ1.h n with
       |none=>exact absurd hh n1
       |some bb=>rw[a9 n bb hh];simp
   ·cases hx
  ·cases hx
theorem adR {t e:TypeId} {x:Operand} {i:TypeInfo} {z:Value} {sz:Nat} (ho:o.op=.buildSlice t 1 #[(0,x)]) (ht:P.underlying t=some (.slice e)) (hi:P.info? e=some i) (hz:i.zero=some z) (bU:i.size=sz) (fO:0<sz)
  (C9:sz<=16777216) (hv:(a.eval x).cells.size=sz):
  (execOp a.eval o).run P w=.ok (.value (.slice (some (ad w.heap.size 0)) 1 1)) (w.alloc (.cells (a.eval x).cells e)):=by
 have KJ:∀cs:Array Value,cs.size=1*sz->Instr.fill (fun i=>some (i*sz,sz)) cs [(0,a.eval x)]=some (a.eval x).cells:=by
  intro cs fc;have h1:=P0 sz [a.eval x] 0 cs (by intro v gh;simp at gh;rw[gh];exact hv) (by simp;omega);simp only[List.zipIdx_cons,List.zipIdx_nil,List.map_cons,List.map_nil] at h1;rw[h1];congr 1;apply Array.ext';simp only[dn,Nat.zero_mul,List.take_zero,List.nil_append,Nat.zero_add,List.flatMap_cons,List.flatMap_nil,List.append_nil];rw[List.drop_eq_nil_of_le (by rw[Array.length_toList,Array.length_toList,fc,hv];omega)];simp
 have hf:=KJ ((Array.range (1*sz)).map (z.cells[·%z.cells.size]!)) (by simp);have h0:¬(1*sz=0):=by omega
 have hb:¬(16777216<1*sz):=by omega
 simp only[Nat.one_mul] at hf h0 hb;have aJ:¬(16777216<sz):=by omega
 have hs0:¬(sz=0):=by omega
 simp[execOp,ho,Instr.buildSlice,run_underlying ht,sizeOf,typeInfo,hi,bU,hs0,aJ,zeroValue,hz,hf,newRow,ad]
end
section
variable {B:Nat} {E:Ex} {w0 w w':World} {G G':Gh} {N:Nat} {h h':Nat->Option aq} {used used':Nat->Bool}
variable {P:Program} {o:Oper} {a:Act} {σ σ':St} {Q:Exit->Act->World->Prop}
theorem aje (r:R B E w0 N σ a w G) {n n0:Nat} {t e:TypeId} {i:TypeInfo} {x y:Operand} {mx my:MO} {sz:Nat} {l:Int} {m:Mode} {xs:List (List C)} {σ1:St} (ho:o.op=.slice t x (some y) none none) (hd:o.dst=some n) (hN:n<N)
  (fM:bT x mx=true) (gR:bT y my=true) (ht:P.underlying t=some (.slice e)) (hi:P.info? e=some i) (bU:i.size=sz) (fO:0<sz)
  (hx:σ.ev mx=.one (.sl n0 sz 0 xs.length)) (hl:(σ.ev my).dV=some l) (h0:0<=l) (h1:l<=(xs.length:Int)) (hn:σ.h n0=some (.row true m sz xs)) (x7:(σ.del n0).ins n (.row true m sz (xs.drop l.toNat))=some σ1):
  o.wp P a w (fun a' w'=>w'=w/\(∃v,a'=a.put o.dst v)/\∃p:PB,R B E w0 N (σ1.put o.dst (.one (.sl n sz 0 (xs.length - l.toNat)))) a' w ⟨G.Im,ax G.g n p⟩/\p.px=(G.g n0).px.drop l.toNat/\(p.nl=false->p.b=(G.g n0).b/\(G.g n0).nl=false)) Q:=by
 obtain⟨yi,rfl⟩:=ko x7;obtain⟨x1,x2⟩:=r.ev fM;rw[hx] at x1 x2;obtain⟨kk,ey⟩:=(r.ev gR).1.int hl;have bK:σ.h n0≠none:=by rw[hn];simp
 have iF:gM (G.g n0) sz 0 xs.length (a.eval x):=(x1.fE (by simp)).1 bK;have H:=r.hr;have hr:=H.row n0 true m sz xs hn;have qH:xs.length=(G.g n0).px.length:=by rw[hr.er];simp
 have F:=mg.LZ H hn (fun _=>rfl);have QX:l.toNat<=xs.length:=by omega
 obtain⟨p,v,fC,bR,yj,e7,hsv⟩:∃(p:PB) (v:Value),p.px=(G.g n0).px.drop l.toNat/\(execOp a.eval o).run P w=.ok (.value v) w/\(p.nl=true->p.px=[]/\p.cap=0)/\
   (p.nl=false->(G.g n0).nl=false/\p.b=(G.g n0).b/\p.o=(G.g n0).o+l.toNat*sz/\p.cap=(G.g n0).cap - l.toNat/\l.toNat<=(G.g n0).cap)/\gM p sz 0 (xs.length - l.toNat) v:=by
  rcases iF with⟨aT,hv,_,gY⟩|⟨aT,a',hv,gF,ha⟩
  ·have bR:=Ho (P:=P) (w:=w) (ya:=(G.g n0).na) (len:=0) (cap:=(G.g n0).cap) (lo:=some (.int kk l)) (hi':=none) (l:=l) (hh:=0) ht hi bU (.inr ⟨kk,rfl⟩) (.inl ⟨rfl,rfl⟩) h0 (by omega) (by omega) (Nat.zero_le _);obtain⟨A9,xI⟩:=hr.nl aT;have xI:=xI rfl;have hlz:l.toNat=0:=by omega
   refine⟨⟨true,0,0,0,[],(G.g n0).na⟩,.slice (G.g n0).na 0 0,by rw[A9];simp,?_,fun _=>⟨rfl,rfl⟩,(fun h=>by cases h),.inl ⟨rfl,rfl,rfl,by omega⟩⟩;simp only[execOp,ho,hv,Option.map_none,Option.map_some,ey];rw[xI,hlz] at bR;simp only[if_true] at bR;simp[bR,xI];omega
  ·have bR:=Ho (P:=P) (w:=w) (ya:=a') (len:=xs.length) (cap:=(G.g n0).cap - 0) (lo:=some (.int kk l)) (hi':=none) (l:=l) (hh:=xs.length) ht hi bU (.inr ⟨kk,rfl⟩) (.inl ⟨rfl,rfl⟩) h0 h1 (by omega) (by omega);have rQ:=ha (.inr rfl);have e2:((xs.length:Int) - l).toNat=xs.length - l.toNat:=by omega
   rw[e2,Nat.sub_zero] at bR;by_cases hc:(G.g n0).cap=l.toNat
   ·have e3:xs.length - l.toNat=0:=by omega
    rw[if_pos hc,e3] at bR;refine⟨⟨true,0,0,0,[],a'⟩,.slice a' 0 0,?_,?_,fun _=>⟨rfl,rfl⟩,(fun h=>by cases h),.inl ⟨rfl,rfl,rfl,e3⟩⟩
    ·rw[List.drop_eq_nil_of_le (by omega)]
    ·simp only[execOp,ho,hv,Option.map_none,Option.map_some,ey,Nat.sub_zero];rw[hc,Nat.sub_self] at bR;simp[bR,hc]
   ·rw[if_neg hc,rQ] at bR;simp only[Option.map_some,ru,Nat.zero_mul,Nat.add_zero] at bR;refine⟨⟨false,(G.g n0).b,(G.g n0).o+l.toNat*sz,(G.g n0).cap - l.toNat,(G.g n0).px.drop l.toNat,none⟩,.slice (some (ad (G.g n0).b ((G.g n0).o+l.toNat*sz))) (xs.length - l.toNat) ((G.g n0).cap - l.toNat),rfl,?_,(fun h=>by cases h),fun _=>⟨aT,rfl,rfl,rfl,by omega⟩,.inr ⟨rfl,some (ad (G.g n0).b ((G.g n0).o+l.toNat*sz)),by simp,by simp;omega,fun _=>by simp⟩⟩;simp only[execOp,ho,hv,Option.map_none,Option.map_some,ey,Nat.sub_zero,rQ,Nat.zero_mul,Nat.add_zero];simp[bR]
 have fL:∀b,bf b p.px->bf b (G.g n0).px:=fun b hb=>ass (by rw[<-fC];exact hb);have H1:HR B E w G (ax σ.h n0 none) σ.used []:=H.del n0;have K1:bk w G σ.h (fun q=>σ.used q=true) w G (ax σ.h n0 none):=bk.del n0 _;have Hn:HR B E w ⟨G.Im,ax G.g n p⟩ (ax (ax σ.h n0 none) n (some (.row true m sz (xs.drop l.toNat)))) (ax σ.used n true) []:=by
  refine H1.insert (w':=w) (p:=p) yi (fun _ _=>rfl) (Nat.le_refl _) (fun hf=>?_) (fun cs c q hb=>by cases hb) ?_ ?_ ?_ (fun gr m sz xs _ _ i pc b hi=>by simp at hi)
  ·obtain⟨q1,q2,q3,q4,q5⟩:=e7 hf;obtain⟨o1,o2,o3⟩:=H.own n0 bK q1;rw[q2];refine⟨⟨o1,fun q hq Ao=>?_,fun q gr m' aH ar hq hb=>?_⟩,o2,o3⟩
   ·obtain⟨d1,d2⟩:=vK hq;exact H.inj q n0 d1 bK d2 Ao q1
   ·exact H.qp bK q1 (nI hq).1 hb rfl
  ·refine⟨hr.pos,by rw[fC,hr.er,List.map_drop],fun h=>⟨(yj h).1,fun _=>(yj h).2⟩,fun hf=>?_,fun hf _=>?_,?_,fun _ hm k c hk=>hr.nr rfl hm _ _ (xG (by rw[<-fC];exact hk))⟩
   ·obtain⟨q1,q2,q3,q4,q5⟩:=e7 hf;obtain⟨l1,⟨l2,l3,l4⟩,l5⟩:=hr.eI q1;rw[q2,q3,q4,fC];refine⟨l1,⟨fun e he=>l2 e (List.mem_of_mem_drop he),fun k j c hk=>?_,fun k j c hk=>l4 _ _ _ (xG hk)⟩,by simp;omega⟩;have:=l3 _ _ _ (xG hk);rw[<-this];congr 2;rw[Nat.add_mul];omega
   ·obtain⟨q1,q2,q3,q4,q5⟩:=e7 hf;obtain⟨r2,cur,ee,r3,r4⟩:=hr.room q1 rfl;unfold E7;rw[q2,q3,q4];refine⟨by omega,cur,ee,r3,?_⟩;rw[r4,Nat.add_assoc,<-Nat.add_mul];congr 2;omega
   ·have hm:=hr.mode;show Ca B E w _ p.px m;cases m with
    |aI=>exact fun b hb=>hm b (fL b hb)
    |aO=>exact⟨fun b hb=>hm.1 b (fL b hb),by rw[fC];exact hm.2.drop _⟩
    |live=>exact⟨fun b hb=>hm.1 b (fL b hb),by rw[fC];exact hm.2.drop _⟩
  ·intro gr m' aH ar hb iU q bn mo jc gx h0 ic b cN;injection hb with _ hb _ _;subst hb;exact F.gn iU q bn mo jc gx h0 ic b (fL b cN)
  ·intro gr aH ar hb b cN;injection hb with _ hb _ _;exact⟨fun hf=>by rw[(e7 hf).2.1];exact H.qp bK (e7 hf).1 hn (fL b cN),fun q h0 Ao=>F.live hb b (fL b cN) q h0 Ao⟩
 have r':R B E w0 N {(σ.del n0) with h:=ax (σ.del n0).h n (some (.row true m sz (xs.drop l.toNat))),used:=ax (σ.del n0).used n true} a w ⟨G.Im,ax G.g n p⟩:=
  r.step rfl (fun q hq=>oy n q hq) (bk.trans (u2:=fun q=>σ.used q=true) (fun _ h=>h) K1 (bk.insert H1 yi (fun _ _=>rfl))) Hn r.fr
 have qC:v.oneCell'=true:=by rcases hsv with⟨_,h,_⟩|⟨_,_,h,_⟩<;>rw[h]<;>rfl
 have pE:RC w ⟨G.Im,ax G.g n p⟩ (ax (ax σ.h n0 none) n (some (.row true m sz (xs.drop l.toNat)))) (.sl n sz 0 (xs.length - l.toNat)) v:=fun _=>by simpa[bO] using hsv
 exact pj (v:=v) (w':=w) bR ⟨rfl,⟨v,rfl⟩,p,r'.put (RA.fz qC pE) (fun q hq=>by have eV:q=n:=hq;subst eV;exact bO _ _ _) (fun q hq=>by rw[hd] at hq;injection hq with hq;omega),fC,fun h=>⟨(e7 h).2.1,(e7 h).1⟩⟩
theorem R.sD (r:R B E w0 N σ a w G) {s:Nat} {x:aj} (hv:RA w G σ.h x (a.tmps.getD s undef)) (hr:∀m,x.ref m->σ.used m=true):R B E w0 N {σ with env:=ax σ.env s x} a w G:=by
 refine⟨r.defers,r.size,fun q=>?_,fun q m hm=>?_,r.hr,r.fr,r.oV,r.u7⟩
 ·show RA w G σ.h (ax σ.env s x q) _;by_cases hq:q=s
  ·subst hq;rw[bO];exact hv
  ·rw[cJ _ _ _ _ hq];exact r.env q
 ·have bL:(ax σ.env s x q).ref m:=hm;by_cases hq:q=s
  ·subst hq;rw[bO] at bL;exact hr m bL
  ·rw[cJ _ _ _ _ hq] at bL;exact r.pg q m bL
theorem gM.eq0 {p:PB} {sz len:Nat} {v v':Value} (h1:gM p sz 0 len v) (h2:gM p sz 0 len v'):v=v':=by
 rcases h1 with⟨a1,a2,_,_⟩|⟨a1,b,a2,_,a3⟩
 ·rcases h2 with⟨_,b2,_,_⟩|⟨b1,_⟩
  ·rw[a2,b2]
  ·rw[a1] at b1;cases b1
 ·rcases h2 with⟨b1,_⟩|⟨b1,b',b2,_,b3⟩
  ·rw[a1] at b1;cases b1
  ·rw[a2,b2,a3 (.inr rfl),b3 (.inr rfl)]
theorem R.alO (r:R B E w0 N σ a w G) {q sz cap:Nat} {x0:Option Addr} {lY:List (List PC)} (hq:σ.used q=false) (L:vp B E w G σ.h (.list sz x0 cap lY)) (iV:eO (lY.map fun e=>e.map PC.er)=true) (fO:0<sz):
  ∃G',R B E w0 N {σ with h:=ax σ.h q (some (.row false .aO sz (lY.map fun e=>e.map PC.er))),used:=ax σ.used q true} a w G'/\
   RC w G' (ax σ.h q (some (.row false .aO sz (lY.map fun e=>e.map PC.er)))) (.sl q sz 0 lY.length) (PC.val (.list sz x0 cap lY)):=by
 have H:=r.hr;have cg:=vd iV;have jV:iM lY:=by cases L.sep with|list _ _ _ _ h1 h2 h3=>exact⟨h1,h3⟩
 have gf:∀G2:Gh,Ca B E w G2 lY .aO:=fun G2=>⟨fun b hb=>absurd hb (cg b),jV⟩;by_cases h0:lY=[]
 ·subst h0;refine⟨⟨G.Im,ax G.g q ⟨true,0,0,cap,[],x0⟩⟩,r.step rfl (fun m hm=>oy q m hm) (bk.insert H hq (fun _ _=>rfl)) ?_ r.fr,fun _=>.inl ?_⟩
  ·exact H.insert (w':=w) (p:=⟨true,0,0,cap,[],x0⟩) hq (fun _ _=>rfl) (Nat.le_refl _) (fun h=>by cases h) (fun cs c m hb=>by cases hb) ⟨fO,rfl,fun _=>⟨rfl,fun h=>by cases h⟩,(fun h=>by cases h),(fun h=>by cases h),gf _,fun h=>by cases h⟩
    (fun gr m sz xs _ _ n' bn m' aH ar _ _ b hb=>absurd hb (cg b)) (fun gr sz xs _ b hb=>absurd hb (cg b)) (fun gr m sz xs _ _ i pc b hi=>by simp at hi)
  ·simp[bO,PC.val]
 ·obtain⟨b,ob,rfl⟩:∃b ob,x0=some (ad b ob):=by
   cases L.ez with
   |nil _ _ _ _=>exact absurd rfl h0
   |cons _ b ob _ _ _ _ _ _ _ _=>exact⟨b,ob,rfl⟩
  have cW:aX b (.list sz (some (ad b ob)) cap lY):=.here _ _ _ _ h0;obtain⟨o1,o2,o3⟩:=L.own b cW;have eW:nD w b ob sz lY/\lY.length<=cap:=by
   have hg:=L.ez;generalize ib:PC.list sz (some (ad b ob)) cap lY=p at hg;cases hg with
   |int k n=>cases ib
   |bool b=>cases ib
   |nil _ _ _ _=>injection ib with _ _ _ e4;exact absurd e4 h0
   |cons _ b' SU _ _ q1 q2 q3 q4 q5 q6=>
    injection ib with f1 f2 f3 f4;injection f2 with f2;obtain⟨rfl,rfl⟩:=lf f2;subst f1 f3 f4;exact⟨⟨q4,q5,q6⟩,q2⟩
  refine⟨⟨G.Im,ax G.g q ⟨false,b,ob,cap,lY,none⟩⟩,r.step rfl (fun m hm=>oy q m hm) (bk.insert H hq (fun _ _=>rfl)) ?_ r.fr,fun _=>.inr ?_⟩
  ·exact H.insert (w':=w) (p:=⟨false,b,ob,cap,lY,none⟩) hq (fun _ _=>rfl) (Nat.le_refl _) (fun _=>⟨⟨o1,fun m hm hl he=>L.name b cW m hm hl he.symm,fun m gr mo aH ar hm=>L.row b cW m gr mo aH ar hm⟩,o3,o2.lt⟩) (fun cs c m hb=>by cases hb)
    ⟨fO,rfl,(fun h=>by cases h),fun _=>⟨o2,eW.1,eW.2⟩,(fun _ h=>by cases h),gf _,fun h=>by cases h⟩
    (fun gr m sz xs _ _ n' bn m' aH ar _ _ b hb=>absurd hb (cg b)) (fun gr sz xs _ b hb=>absurd hb (cg b)) (fun gr m sz xs _ _ i pc b hi=>by simp at hi)
  ·refine⟨by simp[bO],some (ad b ob),by simp[bO,PC.val],by simpa[bO] using eW.2,fun _=>by simp[bO]⟩
theorem aiG (r:R B E w0 N σ a w G) {n:Nat} {t e:TypeId} {x:Operand} {mx:MO} {i:TypeInfo} {z:Value} {sz:Nat} {ag:Bool} {cs:List ah} {es:List C} {σ1 σ2:St}
  (ho:o.op=.buildSlice t 1 #[(0,x)]) (hd:o.dst=some n) (hN:n<N) (ht:P.underlying t=some (.slice e)) (hi:P.info? e=some i) (hz:i.zero=some z) (bU:i.size=sz) (fO:0<sz) (C9:sz<=16777216)
  (hm:bT x mx=true) (fc:(σ.ev mx).cells?=some (ag,cs)) (hl:cs.length=sz) (mI:σ.sI cs=some (es,true,σ1)) (hx:σ1.ins n (.row true .live sz [es])=some σ2):
  o.wp P a w (Nx B E w0 N (σ2.put o.dst (.one (.sl n sz 0 1)))) Q:=by
 obtain⟨hn,rfl⟩:=ko hx;obtain⟨x1,x2⟩:=r.ev hm;have cv:=x1.cells fc;obtain⟨bx,a1,a2,a3,a4,a5,H1,K1,a7,a8,a9,_⟩:=HR.sI r.hr mI cv (fun c hc m hm=>x2 m (aj.xK fc hc hm));have e7:bx.length=sz:=by
  have:=congrArg List.length a2;simp only[List.length_map] at this;rw[this,cv.1,hl]
 have iW:(a.eval x).cells.size=sz:=by rw[<-Array.length_toList,cv.1,hl]
 have bR:=adR (P:=P) (w:=w) ho ht hi hz bU fO C9 iW;have hB:=r.fr.size;have hw:=OT w (.cells (a.eval x).cells e);have cD:∀k j c,At [bx] k j c->k=0/\bx[j]? =some c:=by
  rintro k j c ⟨e1,he,hj⟩;cases k with
  |zero=>simp at he;subst he;exact⟨rfl,hj⟩
  |succ k=>simp at he
 have hF:∀b,bf b [bx]->∃pc∈bx,aX b pc:=by
  rintro b ⟨k,j,c,hk,hb⟩;exact⟨c,List.mem_of_getElem? (cD k j c hk).2,hb⟩
 have aan:σ1.used n=false:=hn;have Hn:HR B E (w.alloc (.cells (a.eval x).cells e)) ⟨G.Im,ax G.g n ⟨false,w.heap.size,0,1,[bx],none⟩⟩ (ax σ1.h n (some (.row true .live sz [es]))) (ax σ1.used n true) []:=by
  refine H1.insert (p:=⟨false,w.heap.size,0,1,[bx],none⟩) aan hw (by simp) (fun _=>⟨H1.LB,.inl hB,by simp⟩) (fun cs c m hb=>by cases hb) ?_ ?_ ?_ (fun gr m sz xs _ _ i pc b hi=>by simp at hi)
  ·refine⟨fO,by simp[a1],(fun hl=>by cases hl),fun _=>⟨dZ.alloc _ _ _,⟨fun e he=>by simp at he;rw[he];exact e7,fun k j c hk=>?_,fun k j c hk=>?_⟩,by simp⟩,fun _ _=>⟨by simp only[maxLen];omega,(a.eval x).cells,e,heap_alloc_new w _,by simp[iW]⟩,⟨fun b hb=>?_,fun k j c hk=>?_,fun k j c k' j' c' b hk bJ aF hb=>?_⟩,fun _ _ k c hk=>?_⟩
   ·obtain⟨rfl,hj⟩:=cD k j c hk;simp only[Nat.zero_mul,Nat.zero_add];unfold ad;rw[World.cell?_alloc_new];have:(a.eval x).cells.toList[j]? =some c.val:=by rw[<-a2,List.getElem?_map,hj];rfl
    simpa using this
   ·have hg:=(a3 c (List.mem_of_getElem? (cD k j c hk).2)).ez;exact hg.congr fun b hb o=>gU (hw b (hg.lt hb)) o
   ·obtain⟨pc,bg,aJ⟩:=hF b hb;obtain⟨q1,q2,q3⟩:=(a3 pc bg).own b aJ;exact⟨q1,q2.congr (hw b q2.lt),q3⟩
   ·exact(a3 c (List.mem_of_getElem? (cD k j c hk).2)).sep
   ·obtain⟨rfl,hj⟩:=cD k j c hk;obtain⟨rfl,ng⟩:=cD k' j' c' bJ;exact a4 j j' c c' b (fun e=>aF (by rw[e])) hj ng hb
   ·obtain⟨rfl,hj⟩:=cD k _ c hk;have oN:=a5 rfl c (by rw[hl];exact hj);exact oN.cz fun b hb arr e' he=>⟨arr,(hw b ((a3 c (List.mem_of_getElem? hj)).own b hb).2.1.lt).trans he,rfl⟩
  ·intro gr m' aH ar hb iU n' bn jH jc gx h0 ic b cN;obtain⟨pc,bg,aJ⟩:=hF b cN;exact(a3 pc bg).row b aJ n' bn jH jc gx h0
  ·intro gr aH ar hb b cN;obtain⟨pc,bg,aJ⟩:=hF b cN;refine⟨fun _=>?_,fun n' h0 hl=>(a3 pc bg).name b aJ n' h0 hl⟩;have:=((a3 pc bg).own b aJ).2.1.lt;show b≠w.heap.size;omega
 have r':R B E w0 N {σ1 with h:=ax σ1.h n (some (.row true .live sz [es])),used:=ax σ1.used n true} a (w.alloc (.cells (a.eval x).cells e)) ⟨G.Im,ax G.g n ⟨false,w.heap.size,0,1,[bx],none⟩⟩:=
  r.step a7 (fun q hq=>oy n q (by rw[a8];exact hq)) (bk.trans (u2:=fun q=>σ1.used q=true) (fun q hq=>by rw[a8];exact hq) K1 (bk.insert H1 aan hw)) Hn (r.fr.grow hw (by simp) rfl rfl rfl)
 have pE:RC (w.alloc (.cells (a.eval x).cells e)) ⟨G.Im,ax G.g n ⟨false,w.heap.size,0,1,[bx],none⟩⟩ (ax σ1.h n (some (.row true .live sz [es]))) (.sl n sz 0 1) (.slice (some (ad w.heap.size 0)) 1 1):=
  fun _=>Or.inr ⟨by simp[bO],some (ad w.heap.size 0),by simp[bO],by simp[bO],by simp[bO]⟩
 exact pj bR ⟨_,r'.put (RA.fz rfl pE) (fun q hq=>by have eV:q=n:=hq;subst eV;exact bO _ _ _) (fun q hq=>by rw[hd] at hq;injection hq with hq;omega)⟩
theorem aiH (r:R B E w0 N σ a w G) {n s q sz len:Nat} {t e:TypeId} {x:Operand} {mx:MO} {i:TypeInfo} {z:Value} {y:C} {σ1 σ2:St}
  (ho:o.op=.buildSlice t 1 #[(0,x)]) (hd:o.dst=some n) (hN:n<N) (ht:P.underlying t=some (.slice e)) (hi:P.info? e=some i) (hz:i.zero=some z) (bU:i.size=1)
  (hm:bT x mx=true) (hx:σ.ev mx=.one (.sl q sz 0 len)) (hs:σ.env s=.one (.sl q sz 0 len)) (Ri:s≠n) (mI:σ.fR (.sl q sz 0 len)=some (y,true,σ1)) (Ah:σ1.ins n (.row true .aO 1 [[y]])=some σ2):
  o.wp P a w (Nx B E w0 N {(σ2.put o.dst (.one (.sl n 1 0 1))) with env:=ax (σ2.put o.dst (.one (.sl n 1 0 1))).env s (.one (.c y))}) Q:=by
 obtain⟨hn,rfl⟩:=ko Ah;obtain⟨x1,x2⟩:=r.ev hm;rw[hx] at x1;have x1:=x1.fE (by simp);have s1:=r.env s;rw[hs] at s1;have s1:=(s1.fE (by simp)).1;obtain⟨Im',pc,a1,a2,a3,a4,a5,K1,a7,a8,a9⟩:=r.hr.fR mI x1.1;simp only[if_true,List.nil_append] at a5;have mG:σ.h q≠none:=by
  intro hh;simp only[St.fR,hh] at mI;cases mI
 have Av:a.tmps.getD s undef=a.eval x:=gM.eq0 (s1 mG) (x1.1 mG);have qC:=x1.2;have oL:(a.eval x).cells=#[pc.val]:=by
  rw[a2]
  revert qC
  cases a.eval x<;>intro qC<;>first|rfl|(simp[Value.oneCell'] at qC)
 have bR:=adR (P:=P) (w:=w) ho ht hi hz bU (by omega) (by omega) (by rw[oL];rfl);have H0:HR B E w ⟨Im',G.g⟩ σ1.h σ.used []:=by
  have ub:HR B E w ⟨Im',G.g⟩ σ1.h σ.used ([]++[pc]):=by simpa using a5
  exact ub.xd
 have cD:∀k j c,At [[pc]] k j c->k=0/\j=0/\c=pc:=by
  rintro k j c ⟨e1,he,hj⟩;cases k with
  |zero=>
   simp at he;subst he;cases j with
   |zero=>simp at hj;exact⟨rfl,rfl,hj.symm⟩
   |succ j=>simp at hj
  |succ k=>simp at he
 obtain⟨G',r',hv,K3⟩:=r.newRow (m:=.aO) (sz:=1) (cap:=1) (pes:=[[pc]]) (arr:=(a.eval x).cells) (e:=e) H0 K1 a7 a8 (by rw[<-a8];exact hn) (by omega) (fun e he=>by simp at he;rw[he];rfl)
  (fun k j c hk=>by obtain⟨_,_,rfl⟩:=cD k j c hk;exact⟨a3,a4⟩) (fun k j c hk=>by obtain⟨rfl,rfl,rfl⟩:=cD k j c hk;rw[oL];rfl) (by simp) (by simp only[maxLen];omega) (by rw[oL];rfl)
  (.inr (HR.acX (sz:=1) (by omega) (fun e he=>by simp at he;rw[he];rfl) (by simpa using a5))) (fun h=>by cases h)
 simp only[List.map_cons,List.map_nil,a1,List.length_cons,List.length_nil] at r' hv K3;have r2:=r'.put hv (d:=o.dst) (fun k hk=>by have bJ:k=n:=hk;subst bJ;exact bO _ _ _) (fun k hk=>by rw[hd] at hk;injection hk with hk;omega)
 have hRC:RA w ⟨Im',G.g⟩ σ1.h (.one (.c y)) (a.eval x):=RA.fz qC ⟨pc,a1,a2,a3,a4⟩;have z9:=hRC.fP K3 (fun k hk=>absurd hk sk);refine pj bR ⟨G',r2.sD (s:=s) ?_ (fun k hk=>absurd hk sk)⟩;rw[hd,Ma (by intro h;injection h with h;exact Ri h.symm),Av]
 exact z9
theorem aja (r:R B E w0 N σ a w G) {n n0 s q sz s0 l0:Nat} {t e:TypeId} {i:TypeInfo} {x y:Operand} {mx my:MO} {xs ys:List (List C)} {σ1 σ2:St} (ho:o.op=.slice t x (some y) none none) (hd:o.dst=some n) (hN:n<N)
  (fM:bT x mx=true) (gR:bT y my=true) (ht:P.underlying t=some (.slice e)) (hi:P.info? e=some i) (bU:i.size=1)
  (hx:σ.ev mx=.one (.sl n0 1 0 xs.length)) (hl:(σ.ev my).dV=some 1) (hn:σ.h n0=some (.row true .live 1 xs)) (hs:σ.env s=.one (.bw n0 0 1 0 s0 l0)) (Ri:s≠n)
  (Aw:xs[0]? =some [.list sz ys]) (iV:eO ys=true) (x7:(σ.del n0).ins n (.row true .live 1 (xs.drop 1))=some σ1) (Ah:σ1.ins q (.row false .aO sz ys)=some σ2):
  o.wp P a w (Nx B E w0 N {(σ2.put o.dst (.one (.sl n 1 0 (xs.length - 1)))) with env:=ax (σ2.put o.dst (.one (.sl n 1 0 (xs.length - 1)))).env s (.one (.sl q sz 0 ys.length))}) Q:=by
 have H:=r.hr;have bK:σ.h n0≠none:=by rw[hn];simp
 have hr:=H.row n0 true .live 1 xs hn;have s1:=r.env s;rw[hs] at s1;obtain⟨pc,p1,p2,p3⟩:=(s1.fE (by simp)).1 true xs hn;obtain⟨aT,fW,gG⟩:=H.G0 hn p1;rw[Aw] at gG;have gG:some (C.list sz ys)=some pc.er:=gG;injection gG with gG;have iC:=H.acR hn (by omega) p1;have QV:0<xs.length:=(List.getElem?_eq_some_iff.1 Aw).1;refine Oper.wp_mono (fun a' w' ⟨e1,⟨v,e2⟩,p,r1,fC,oO⟩=>?_) (aje (P:=P) (Q:=Q) r ho hd hN fM gR ht hi bU (by omega) hx hl (by omega) (by omega) hn x7);subst e1;obtain⟨yi,rfl⟩:=ko x7;obtain⟨hqu,rfl⟩:=ko Ah;cases pc with
 |int kk nn=>simp[PC.er] at gG
 |bool bb=>simp[PC.er] at gG
 |list aH x0 cap lY=>
 rw[PC.d9] at gG;injection gG with g1 g2;subst g1;have fO:0<sz:=by cases fW with|nil _ _ _ h=>exact h|cons _ _ _ _ _ _ _ h _ _ _=>exact h
 have nU:∀m,ax (σ.del n0).h n (some (.row true .live 1 (xs.drop 1))) m≠none->m=n\/(m≠n/\m≠n0/\σ.h m≠none):=by
  intro m hm;by_cases bF:m=n
  ·exact .inl bF
  ·rw[cJ _ _ _ _ bF] at hm;obtain⟨d1,d2⟩:=vK (h:=σ.h) hm;exact .inr ⟨bF,d2,d1⟩
 have L:vp B E w' ⟨G.Im,ax G.g n p⟩ (ax (σ.del n0).h n (some (.row true .live 1 (xs.drop 1)))) (.list sz x0 cap lY):=by
  refine⟨fW,iC.sep,iC.own,fun b hb m hm eG=>?_,fun b hb m gr mo jc gx hm hF=>?_⟩
  ·rcases nU m hm with rfl|⟨d1,d2,d3⟩
   ·simp only[bO] at eG⊢;obtain⟨e3,e4⟩:=oO eG;rw[e3];exact iC.name b hb n0 bK e4
   ·simp only[cJ _ _ _ _ d1] at eG⊢;exact iC.name b hb m d3 eG
  ·have hm0:ax (σ.del n0).h n (some (.row true .live 1 (xs.drop 1))) m≠none:=by rw[hm];simp
   rcases nU m hm0 with rfl|⟨d1,d2,d3⟩
   ·simp only[bO] at hF;rw[fC] at hF;obtain⟨k,j,c,hk,hc⟩:=hF;have bJ:=xG hk;refine iC.rest b hb _ _ c bJ (fun e=>?_) hc;have:(1:Int).toNat+k=0:=congrArg Prod.fst e;have h1:(1:Int).toNat=1:=rfl;omega
   ·simp only[cJ _ _ _ _ d1] at hF;rw[cJ _ _ _ _ d1] at hm;exact iC.row b hb m gr mo jc gx d2 (nI (h:=σ.h) hm).1 hF
 have Ar:eO (lY.map fun e=>e.map PC.er)=true:=by rw[<-g2];exact iV
 have h1:(1:Int).toNat=1:=rfl;rw[h1] at r1;rw[hd] at r1 e2⊢;obtain⟨G',r3,pE⟩:=r1.alO (q:=q) hqu L Ar fO;rw[<-g2] at r3 pE;have Ds:ys.length=lY.length:=by rw[g2];simp
 refine⟨G',?_⟩;have r4:=r3.sD (s:=s) (x:=.one (.sl q sz 0 ys.length)) (by
  rw[e2,Ma (by intro h;injection h with h;exact Ri h.symm),<-p2]
  rw[Ds];exact RA.fz rfl pE) (fun k hk=>by have bJ:k=q:=hk;subst bJ;exact bO _ _ _)
 exact r4
end
section
variable {B:Nat} {E:Ex} {w0 w w':World} {G G':Gh} {N:Nat} {h h':Nat->Option aq} {used used':Nat->Bool}
variable {P:Program} {T:aN} {o:Oper} {a:Act} {σ σ':St} {Q:Exit->Act->World->Prop} {ops:Array Oper}
theorem HR.alL (H:HR B E w G h used []) {n sz cap:Nat} {x:Option Addr} {xs:List (List PC)} (hg:Good w (.list sz x cap xs)) (hs:Sep (.list sz x cap xs)) (ht:Cf w (.list sz x cap xs)) (oN:pn w sz xs)
  (hl:∀b,jM b (.list sz x cap xs)->oB G h b/\dZ w b/\B<=b) (hn:used n=false):
  ∃G',HR B E w G' (ax h n (some (.row true .live sz (xs.map fun e=>e.map PC.er)))) (ax used n true) []/\
   bk w G h (fun n=>used n=true) w G' (ax h n (some (.row true .live sz (xs.map fun e=>e.map PC.er))))/\
   RC w G' (ax h n (some (.row true .live sz (xs.map fun e=>e.map PC.er)))) (.sl n sz 0 xs.length) (PC.val (.list sz x cap xs)):=by
 obtain⟨eR,gF,tn⟩:=ht;have hF:∀b,bf b xs->aX b (.list sz x cap xs):=fun b ⟨k,j,c,h1,h2⟩=>.there _ _ _ _ k j c h1 h2;have jV:iM xs:=by cases hs with|list _ _ _ _ h1 h2 h3=>exact⟨h1,h3⟩
 obtain⟨p,K4,fC,oO,Aq,Rb⟩:∃p:PB,(p.nl=true->xs=[]/\(true=true->p.cap=0))/\p.px=xs/\
   (p.nl=false->oB G h p.b/\dZ w p.b/\B<=p.b/\∀b,bf b xs->b≠p.b)/\
   (p.nl=false->nD w p.b p.o sz xs/\xs.length<=p.cap/\E7 w p sz)/\gM p sz 0 xs.length (PC.val (.list sz x cap xs)):=by
  by_cases vY:cap=0
  ·subst vY;have hx:xs=[]:=List.eq_nil_of_length_eq_zero (by omega);subst hx;exact⟨⟨true,0,0,0,[],x⟩,fun _=>⟨rfl,fun _=>rfl⟩,rfl,(fun hf=>by cases hf),(fun hf=>by cases hf),.inl ⟨rfl,rfl,rfl,rfl⟩⟩
  ·obtain⟨b,o,cur,e,rfl,hh,bU,wj,cg⟩:=tn.resolve_left vY;have hT:jM b (.list sz (some (ad b o)) cap xs):=.inr ⟨_,_,_,_,rfl,vY⟩;obtain⟨l1,l2,l3⟩:=hl b hT;have aF:∀b',bf b' xs->b'≠b:=fun b' ⟨k,j,c,h1,h2⟩ he=>cg k j c h1 (he▸h2);refine⟨⟨false,b,o,cap,xs,none⟩,(fun hf=>by cases hf),rfl,fun _=>⟨l1,l2,l3,aF⟩,fun _=>⟨?_,gF,wj,cur,e,hh,bU⟩,.inr ⟨rfl,some (ad b o),by simp[PC.val],by simpa using gF,fun _=>by simp⟩⟩;cases hg with
   |nil _ _ _ _=>exact⟨by simp,by rintro k j c ⟨e,he,_⟩;simp at he,by rintro k j c ⟨e,he,_⟩;simp at he⟩
   |cons _ _ _ _ _ h1 h2 h3 h4 h5 h6=>exact⟨h4,h5,h6⟩
 subst fC;have eW:ua B E w G true .live sz (p.px.map fun e=>e.map PC.er) p:=by
  refine⟨eR,rfl,K4,fun hf=>⟨(oO hf).2.1,(Aq hf).1,(Aq hf).2.1⟩,fun hf _=>(Aq hf).2.2,?_,fun _ _=>oN⟩;exact⟨fun b hb=>⟨(hl b (.inl (hF b hb))).1.1,(hl b (.inl (hF b hb))).2.1,.inl (hl b (.inl (hF b hb))).2.2⟩,jV⟩
 have Hn:=H.insert (w':=w) (n:=n) (blk:=.row true .live sz (p.px.map fun e=>e.map PC.er)) (p:=p) hn (fun _ _=>rfl) (Nat.le_refl _)
  (fun hf=>⟨(oO hf).1,.inl (oO hf).2.2.1,(oO hf).2.1.lt⟩) (fun cs c q hb=>by cases hb) (by exact eW)
  (fun gr m' aH ar hb hm n' bn jH jc gx h0 ic b cN=>(hl b (.inl (hF b cN))).1.2.2 n' bn jH jc gx h0)
  (fun gr aH ar hb b cN=>⟨fun hf=>(oO hf).2.2.2 b cN,fun n' h0 gY he=>(hl b (.inl (hF b cN))).1.2.1 n' h0 gY he.symm⟩)
  (fun gr m' aH ar hb hm i pc b hi=>by simp at hi)
 exact⟨_,Hn,bk.insert H hn (fun _ _=>rfl),fun _=>by simpa[bO] using Rb⟩
theorem aiU (r:R B E w0 N σ a w G) (hT:Ik P T) {d:Nat} {f:FuncId} {as:List aj} {vals:List Value} {σ1:St} (hd:o.dst=some d) (hN:d<N)
  (bR:(execOp a.eval o).run P w=.ok (.enter f vals.toArray) w) (hl:vals.length=as.length)
  (nQ:∀(j:Nat) (x:aj) (v:Value),as[j]? =some x->vals[j]? =some v->RA w G σ.h x v)
  (hx:FA T d f as σ=some σ1):o.wp P a w (Nx B E w0 N σ1) Q:=by
 unfold FA at hx;split at hx
 ·rename_i ds M jS hM;split at hx
  ·rename_i sz xs qE;split at hx
   ·rename_i σ2 KN;injection hx with hx;subst hx;generalize jI (some d)=nm at KN⊢;obtain⟨yi,rfl⟩:=ko KN;have C5:=r.hr.kU jS hl nQ;unfold Oper.wp;rw[bR];refine(hT f M hM ds _ qE w vals C5).mono fun e w' ⟨aH,cap,x0,px,p1,p2,p4,p5,p6⟩=>?_;subst p2;rw[PC.d9] at p1;injection p1 with p1 _;injection p1 with _ p1;injection p1 with p1 _;injection p1 with q1 q2;subst q1;have jw:∀b,b<w.heap.size->w'.heap[b]? =w.heap[b]? :=fun b hb=>p5.block b hb id;have H':=r.hr.grow jw p5.size;obtain⟨g1,g2,g3⟩:=p4.ez _ (List.mem_singleton.2 rfl);obtain⟨G',b1,b2,b3⟩:=H'.alL (n:=nm) g1 g2 g3 p6 (fun b hb=>by
     obtain⟨n1,n2⟩:=p4.new _ (List.mem_singleton.2 rfl) b hb;refine⟨⟨fun hi=>?_,fun q hq km he=>?_,fun q gr mo sz xs hq cN=>?_⟩,n2,Nat.le_trans r.fr.size n1⟩
     ·have:=r.hr.gC b hi;omega
     ·have:=(r.hr.own q hq km).2.2;omega
     ·have:=r.hr.oZ hq cN;omega) yi
    rw[<-q2] at b1 b2 b3;have qH:xs.length=px.length:=by rw[q2];simp
    have K:bk w G σ.h (fun n=>σ.used n=true) w' G' (ax σ.h (nm) (some (.row true .live sz xs))):=bk.trans (fun _ h=>h) (bk.world (fun b hb=>jw b (r.hr.gC b hb)) _) b2;have r2:R B E w0 N {σ with h:=ax σ.h (nm) (some (.row true .live sz xs)),used:=ax σ.used (nm) true} a w' G':=r.step rfl (fun q hq=>oy _ q hq) K b1 (r.fr.call p5)
    refine⟨G',?_⟩;rw[hd];exact r2.put (RA.fz rfl (by rw[qH];exact b3)) (fun q hq=>by have eV:q=nm:=hq;subst eV;exact bO _ _ _) (fun q hq=>by injection hq with hq;omega)
   ·cases hx
  ·cases hx
 ·cases hx
def JV (P:Program) (t:TypeId) (len:Nat) (parts:Array (Nat×Operand)) (sz:Nat) (p:MO):Bool:=
 (len==1)&&decide (sz<=16777216)&&sZ P t sz (fun _ _=>true)&&(match parts.toList with
  |[(0,x)]=>bT x p
  |_=>false)
def Pl (P:Program) (N:Nat) (o:Oper) (d:Nat) (c:ET):Bool:=
 decide (o.dst=some d)&&decide (d<N)&&(match o.guard with|none=>true|some _=>false)&&
 (match c,o.op with
  |.vC sz p,.buildSlice t len parts=>JV P t len parts sz p
  |.vD p _,.buildSlice t len parts=>JV P t len parts 1 p
  |.pop x lo _,.slice t x' (some y) none none=>bT x' x&&bT y lo&&sZ P t 1 (fun _ _=>true)
  |.vE f ms,.call c=>match c.callee with
   |.value (.func g)=>(f==g)&&bP P f&&iA c.args.toList ms
   |_=>false
  |_,_=>false)
def xN (P:Program) (N:Nat) (ops:Array Oper):List Oper->List ES->Bool
 |[],[]=>true
 |o::os,.op m::l=>oH P N ops o m&&xN P N ops os l
 |o::os,.pu d c::l=>Pl P N o d c&&xN P N ops os l
 |_,_=>false
theorem Xa {t:TypeId} {len:Nat} {parts:Array (Nat×Operand)} {sz:Nat} {p:MO} (h:JV P t len parts sz p=true):
  ∃x,len=1/\parts=#[(0,x)]/\bT x p=true/\sz<=16777216/\∃e i z,P.underlying t=some (.slice e)/\P.info? e=some i/\i.zero=some z/\i.size=sz/\0<sz:=by
 simp only[JV,Bool.and_eq_true,beq_iff_eq,decide_eq_true_eq] at h;obtain⟨⟨⟨h1,h2⟩,h3⟩,h4⟩:=h;split at h4
 ·rename_i x hp;obtain⟨e,i,z,g1,g2,g3,g4,g5,_⟩:=ul h3;exact⟨x,h1,by apply Array.ext';simpa using hp,h4,h2,e,i,z,g1,g2,g3,g4,g5⟩
 ·cases h4
theorem aiQ (r:R B E w0 N σ a w G) (C2:Ik P T) {d:Nat} {c:ET} (hc:Pl P N o d c=true) (hx:sY T d c σ=some σ'):o.guard=none/\o.wp P a w (Nx B E w0 N σ') Q:=by
 simp only[Pl,Bool.and_eq_true,decide_eq_true_eq] at hc;obtain⟨⟨⟨c1,c2⟩,c3⟩,c4⟩:=hc;have hg:o.guard=none:=by cases hg:o.guard with|none=>rfl|some g=>rw[hg] at c3;cases c3
 refine⟨hg,?_⟩;have Q5:∀v,Nx B E w0 N (σ'.put none v)=Nx B E w0 N σ':=fun _=>rfl;obtain⟨dst,op,ty,pos,after,guard⟩:=o;simp only at c1 hg;subst c1 hg;cases c with
 |vC sz p=>
  cases op<;>simp only at c4<;>first|cases c4|skip
  rename_i t len parts;obtain⟨x,rfl,rfl,k3,k4,e,i,z,g1,g2,g3,g4,g5⟩:=Xa c4;simp only[sY] at hx;split at hx
  ·rename_i ag cs fc;split at hx
   ·rename_i hl;split at hx
    ·rename_i es σ1 mI;split at hx
     ·rename_i σ2 hi;injection hx with hx;subst hx;exact aiG r rfl rfl c2 g1 g2 g3 g4 g5 k4 k3 fc hl mI hi
     ·cases hx
    ·cases hx
   ·cases hx
  ·cases hx
 |vD p s=>
  cases op<;>simp only at c4<;>first|cases c4|skip
  rename_i t len parts;obtain⟨x,rfl,rfl,k3,k4,e,i,z,g1,g2,g3,g4,g5⟩:=Xa c4;simp only[sY] at hx;split at hx
  ·rename_i q sz lo len q' aH yH uV e1 e2;split at hx
   ·rename_i cR;obtain⟨rfl,rfl,rfl,hs,rfl,rfl⟩:=cR;split at hx
    ·rename_i y σ1 mI;split at hx
     ·rename_i σ2 hi;injection hx with hx;subst hx;exact aiH r rfl rfl c2 g1 g2 g3 g4 k3 e1 e2 hs mI hi
     ·cases hx
    ·cases hx
   ·cases hx
  ·cases hx
 |pop x lo s=>
  cases op<;>simp only at c4<;>first|cases c4|skip
  rename_i t x' yH hi' pt;cases yH with
  |none=>cases c4
  |some y=>
  cases hi' with
  |some _=>cases c4
  |none=>
  cases pt with
  |some _=>cases c4
  |none=>
  simp only[Bool.and_eq_true] at c4;obtain⟨⟨k1,k2⟩,k3⟩:=c4;obtain⟨e,i,z,g1,g2,g3,g4,g5,_⟩:=ul k3;simp only[sY] at hx;split at hx
  ·rename_i n s1 l1 len l n' k rs off s0 l0 e1 e2 e3;split at hx
   ·rename_i cR;obtain⟨rfl,rfl,rfl,rfl,rfl,rfl,rfl,hs⟩:=cR;split at hx
    ·rename_i Hl xs hn;split at hx
     ·rename_i nd;obtain⟨rfl,rfl⟩:=nd;split at hx
      ·rename_i sz ys Aw;split at hx
       ·rename_i iV;split at hx
        ·rename_i σ1 x7;split at hx
         ·rename_i σ2 Ah;injection hx with hx;subst hx;exact aja r rfl rfl c2 k1 k2 g1 g2 g4 e1 e2 hn e3 hs Aw iV x7 Ah
         ·cases hx
        ·cases hx
       ·cases hx
      ·cases hx
     ·cases hx
    ·cases hx
   ·cases hx
  ·cases hx
 |vE f ms=>
  cases op<;>simp only at c4<;>first|cases c4|skip
  rename_i c;split at c4
  ·rename_i g hg;simp only[Bool.and_eq_true,beq_iff_eq] at c4;obtain⟨⟨rfl,k2⟩,k3⟩:=c4;simp only[sY] at hx;obtain⟨m1,m2⟩:=Po k3;refine aiU (vals:=c.args.toList.map a.eval) r C2 rfl c2 ?_ ?_ ?_ hx
   ·obtain⟨callee,args,argTypes⟩:=c;simp only at hg;subst hg;simp[execOp,resolve,Deferred.ofValue,invoke,Act.eval,Bf k2];apply Array.ext';simp
   ·simp only[List.length_map,m1]
   ·intro j x v hj hv;rw[List.getElem?_map] at hj hv;cases hm:ms[j]? with
    |none=>rw[hm] at hj;cases hj
    |some mm=>
     cases ha:c.args.toList[j]? with
     |none=>rw[ha] at hv;cases hv
     |some xx=>
      rw[hm] at hj;rw[ha] at hv;simp at hj hv;subst hj;subst hv;exact(r.ev (m2 j xx mm ha hm)).1
  ·cases c4
theorem Nn (hT:kg P T) (C2:Ik P T):∀{l:List Oper} {its:List ES} {σ σ':St} {a:Act} {w:World} {G:Gh},xN P N ops l its=true->uj T its σ=some σ'->R B E w0 N σ a w G->
  (∀a w G,R B E w0 N σ' a w G->Q .normal a w)->wpList P ops Q l a w
 |[],[],σ,σ',a,w,G,hc,hx,r,hQ=>by
  simp only[uj] at hx;injection hx with hx;subst hx;exact hQ _ _ _ r
 |o::l,.op m::its,σ,σ',a,w,G,hc,hx,r,hQ=>by
  simp only[xN,Bool.and_eq_true] at hc;simp only[uj] at hx;split at hx
  ·rename_i σ1 e1;unfold wpList;rcases zZ (Q:=Q) r hT hc.1 e1 with⟨hw,h⟩|⟨hw,G',h⟩
   ·rw[if_pos hw];exact .inl (Oper.wp_mono (fun a' w' ⟨G',r'⟩=>Nn hT C2 hc.2 hx r' hQ) h)
   ·rw[if_neg (by simp[hw])];exact Nn hT C2 hc.2 hx h hQ
  ·cases hx
 |o::l,.pu d c::its,σ,σ',a,w,G,hc,hx,r,hQ=>by
  simp only[xN,Bool.and_eq_true] at hc;simp only[uj] at hx;split at hx
  ·rename_i σ1 e1;obtain⟨g1,g2⟩:=aiQ (Q:=Q) r C2 hc.1 e1;unfold wpList;rw[if_pos (by simp[Region.wanted,g1])];exact .inl (Oper.wp_mono (fun a' w' ⟨G',r'⟩=>Nn hT C2 hc.2 hx r' hQ) g2)
  ·cases hx
 |[],_::_,_,_,_,_,_,hc,_,_,_=>by simp[xN] at hc
 |_::_,[],_,_,_,_,_,hc,_,_,_=>by simp[xN] at hc
end
section
variable {B:Nat} {E:Ex} {w0 w w':World} {G G':Gh} {N:Nat} {h h':Nat->Option aq}
variable {P:Program} {T:aN} {a:Act} {σ σ':St} {Q:Exit->Act->World->Prop}
theorem R.asa (r:R B E w0 N σ a w G) {n j:Nat} {cs:List ah} {y:ah} (hn:σ.h n=some (.box cs)) (hy:∀v,w.cell? (ad (G.g n).b ((G.g n).o+j))=some v->RC w G σ.h y v) (hyr:∀m,y.ref m->σ.used m=true):
  R B E w0 N (σ.eD n (.box (cs.set j y))) a w G:=by
 have H:=r.hr;have bK:σ.h n≠none:=by rw[hn];simp
 obtain⟨b1,b2,b3⟩:=H.box n cs hn;have hg:ax G.g n (G.g n)=G.g:=HZ _ _;have K:bk w G σ.h (fun n=>σ.used n=true) w ⟨G.Im,ax G.g n (G.g n)⟩ (ax σ.h n (some (.box (cs.set j y)))):=by
  rw[hg];refine⟨fun _ h=>h,fun _ _ _=>rfl,fun m _ hm=>⟨?_,rfl,rfl,rfl,rfl,rfl⟩,fun m gr sz xs _ hm=>?_⟩
  ·by_cases bF:m=n
   ·subst bF;exact bK
   ·rwa[cJ _ _ _ _ bF] at hm
  ·by_cases bF:m=n
   ·subst bF;rw[bO] at hm;cases hm
   ·rw[cJ _ _ _ _ bF] at hm;exact⟨⟨gr,xs,hm⟩,fun k j pc h1 h2=>⟨pc,h1,rfl,h2⟩⟩
 have Hn:=H.put (w':=w) (used':=σ.used) (n:=n) (blk:=.box (cs.set j y)) (p:=G.g n) (fun _ _ _=>rfl) (Nat.le_refl _) (fun _ _ h=>h) (fun _ h=>h) (H.ji n bK) (fun hl=>H.own n bK hl)
  (fun hl m bF hm KW=>H.inj m n hm bK bF KW hl) (fun hl m gr sz xs bF hm b hb=>H.live m gr sz xs hm b hb n bK hl)
  (fun cs' c m hb hc hr=>by
   injection hb with hb;subst hb;rcases List.mem_or_eq_of_mem_set hc with hc|rfl
   ·exact H.iq n cs c m hn hc hr
   ·exact hyr m hr) K
  (by
   refine⟨b1,b2,fun i c hi=>?_⟩;rw[List.getElem?_set] at hi;split at hi
   ·rename_i iv;subst iv;split at hi
    ·rename_i cj;injection hi with hi;subst hi;obtain⟨v,v1,v2,v3⟩:=b3 j cs[j] (List.getElem?_eq_getElem cj);exact⟨v,v1,v2,(hy v v1).fP K hyr⟩
    ·cases hi
   ·obtain⟨v,v1,v2,v3⟩:=b3 i c hi;exact⟨v,v1,v2,v3.fP K fun m hm=>H.iq n cs c m hn (List.mem_of_getElem? hi) hm⟩)
  (fun gr m sz xs hb=>by cases hb) (fun gr sz xs hb=>by cases hb) (fun gr m sz xs hb=>by cases hb)
  (fun hl _ b ⟨m,gr,mo,sz,xs,_,hm,hb⟩=>H.qp bK hl hm hb)
 rw[hg] at K Hn;exact r.step rfl (fun _ h=>h) K Hn r.fr
theorem R.kV (r:R B E w0 N σ a w G) (c:Nat) (m:Mode):R B E w0 N (σ.kV c m) a w G:=by
 unfold St.kV;cases m with
 |live=>exact r
 |aO=>exact r
 |aI=>
  simp only
  split
  ·rename_i gr rs xs hn;have hg:(⟨G.Im,ax G.g c (G.g c)⟩:Gh)=G:=by
    have:ax G.g c (G.g c)=G.g:=by funext q;rw[j8];split<;>simp[*]
    rw[this]
   have hr:=r.hr.row c gr .aO rs xs hn;have e0:∀q b,ax σ.h c (some (.row gr .aI rs xs)) q=some b->q≠c->σ.h q=some b:=fun q b hq aF=>by rwa[cJ _ _ _ _ aF] at hq
   have ne:∀q,ax σ.h c (some (.row gr .aI rs xs)) q≠none->σ.h q≠none:=fun q hq=>by
    by_cases nY:q=c
    ·subst nY;rw[hn];simp
    ·rwa[cJ _ _ _ _ nY] at hq
   have oh:∀q bn m' aH ar,ax σ.h c (some (.row gr .aI rs xs)) q=some (.row bn m' aH ar)->m'≠ .aI->q≠c/\σ.h q=some (.row bn m' aH ar):=fun q bn m' aH ar hq hm=>by
    by_cases nY:q=c
    ·subst nY;rw[bO] at hq;injection hq with hq;injection hq with _ hq _ _;exact absurd hq.symm hm
    ·exact⟨nY,e0 q _ hq nY⟩
   have K:bk w G σ.h (fun q=>σ.used q=true) w G (ax σ.h c (some (.row gr .aI rs xs))):=
    ⟨fun _ h=>h,fun _ _ _=>rfl,fun q _ hq=>⟨ne q hq,rfl,rfl,rfl,rfl,rfl⟩,fun q bn aH ar _ hq=>by
     obtain⟨h1,h2⟩:=oh q bn .live aH ar hq (by simp);exact⟨⟨bn,ar,h2⟩,fun k j pc a b=>⟨pc,a,rfl,b⟩⟩⟩
   have H:=r.hr;have Hn:HR B E w G (ax σ.h c (some (.row gr .aI rs xs))) σ.used []:=by
    refine⟨fun q hq=>H.ji q (ne q hq),fun q cs y p hq=>?_,fun q cs hq=>?_,fun q bn m' aH ar hq=>?_,fun q hq=>H.own q (ne q hq),fun q q' hq eV=>H.inj q q' (ne q hq) (ne q' eV),H.gC,H.pH,
     fun q q' bn m' aH ar C0 m2 jc gx hq eV hm gR=>H.gn q q' bn m' aH ar C0 m2 jc gx (oh _ _ _ _ _ hq hm).2 (oh _ _ _ _ _ eV gR).2 hm gR,
     fun q bn aH ar hq b hb q' eV=>H.live q bn aH ar (oh _ _ _ _ _ hq (by simp)).2 b hb q' (ne q' eV),(by intro i pc hi;simp at hi),(by intro i j pc dv b _ hi;simp at hi),(by intro i pc q bn m' aH ar b hi;simp at hi)⟩
    ·have nY:q≠c:=fun e=>by subst e;rw[bO] at hq;cases hq
     exact H.iq q cs y p (e0 q _ hq nY)
    ·have nY:q≠c:=fun e=>by subst e;rw[bO] at hq;cases hq
     obtain⟨a1,a2,a3⟩:=H.box q cs (e0 q _ hq nY);refine⟨a1,a2,fun j y hj=>?_⟩;obtain⟨v,v1,v2,v3⟩:=a3 j y hj;exact⟨v,v1,v2,v3.fP K fun p hp=>H.iq q cs y p (e0 q _ hq nY) (List.mem_of_getElem? hj) hp⟩
    ·by_cases nY:q=c
     ·subst nY;rw[bO] at hq;injection hq with hq;injection hq with h1 h2 h3 h4;subst h1 h2 h3 h4;exact⟨hr.pos,hr.er,hr.nl,hr.eI,hr.room,fun b hb=>(hr.mode.1 b hb).1,fun _ h=>by cases h⟩
     ·exact H.row q bn m' aH ar (e0 q _ hq nY)
   exact r.step rfl (fun _ h=>h) K Hn r.fr
  ·exact r
theorem R.Hk (r:R B E w0 N σ a w G) {x c:Nat} {m:Mode} (hx:(σ.br x c).map (fun σ1=>σ1.kV c m)=some σ'):∃G',R B E w0 N σ' a w G':=by
 rw[Option.map_eq_some_iff] at hx;obtain⟨σ1,e,rfl⟩:=hx;obtain⟨G',r'⟩:=r.br e;exact⟨G',r'.kV c m⟩
theorem R.canon (r:R B E w0 N σ a w G) {x:Bool×Nat×Nat×Nat×Mode} (hx:σ.canon x=some σ'):∃G',R B E w0 N σ' a w G':=by
 obtain⟨b,n,j,c,m⟩:=x;have hJ:some σ=some σ'->∃G',R B E w0 N σ' a w G':=fun h=>by injection h with h;subst h;exact⟨G,r⟩
 cases b with
 |true=>
  simp only[St.canon] at hx;split at hx
  ·rename_i cs hn;split at hx
   ·exact r.Hk hx
   ·rename_i sz hj;split at hx
    ·rename_i bU;split at hx
     ·rename_i σ1 e;injection hx with hx;subst hx;obtain⟨G1,r1,pE⟩:=r.aaI bU e;obtain⟨hu,rfl⟩:=ko e;have yi:σ.used n=true:=r.hr.ji n (by rw[hn];simp);have th:n≠c:=fun he=>by subst he;rw[hu] at yi;cases yi
      have mF:(ax σ.h c (some (.row true m sz []))) n=some (.box cs):=by rw[cJ _ _ _ _ th];exact hn
      refine⟨G1,r1.asa mF (fun v hv=>?_) (fun q hq=>?_)⟩
      ·obtain⟨v',v1,v2,v3⟩:=(r1.hr.box n cs mF).2.2 j _ hj;rw[v1] at hv;injection hv with hv;subst hv;have v3':v'=.slice none 0 0:=v3;subst v3';exact pE
      ·have eV:q=c:=hq;subst eV;exact bO _ _ _
     ·cases hx
    ·exact hJ hx
   ·exact hJ hx
  ·exact hJ hx
 |false=>
  simp only[St.canon] at hx;split at hx
  ·exact r.Hk hx
  ·rename_i sz hj;split at hx
   ·rename_i bU;split at hx
    ·rename_i σ1 e;injection hx with hx;subst hx;obtain⟨G1,r1,pE⟩:=r.aaI bU e;obtain⟨hu,rfl⟩:=ko e;have hv:=r1.env n;rw[show({σ with h:=ax σ.h c (some (.row true m sz [])),used:=ax σ.used c true}:St).env n=σ.env n from rfl,hj] at hv
     have gh:a.tmps.getD n undef=.slice none 0 0:=(hv.fE (by simp)).1;refine⟨G1,r1.defers,r1.size,fun s=>?_,fun s q hq=>?_,r1.hr,r1.fr,r1.oV,r1.u7⟩
     ·show RA w G1 _ (ax σ.env n _ s) _;by_cases hs:s=n
      ·subst hs;rw[bO,gh];exact RA.fz rfl pE
      ·rw[cJ _ _ _ _ hs];exact r1.env s
     ·have km:(ax σ.env n (.one (.sl c sz 0 0)) s).ref q:=hq;by_cases hs:s=n
      ·subst hs;rw[bO] at km;have eV:q=c:=km;subst eV;exact bO _ _ _
      ·rw[cJ _ _ _ _ hs] at km;exact r1.pg s q km
    ·cases hx
   ·exact hJ hx
  ·exact hJ hx
theorem R.uh:∀{l:List (Bool×Nat×Nat×Nat×Mode)} {σ:St} {G:Gh},R B E w0 N σ a w G->σ.uh l=some σ'->∃G',R B E w0 N σ' a w G'
 |[],σ,G,r,hx=>by
  simp only[St.uh] at hx;injection hx with hx;subst hx;exact⟨G,r⟩
 |x::l,σ,G,r,hx=>by
  simp only[St.uh] at hx;split at hx
  ·rename_i σ1 e;obtain⟨G1,r1⟩:=r.canon e;exact R.uh r1 hx
  ·cases hx
theorem R.head (r:R B E w0 N σ a w G) {ke kh:List Nat} {cn:List (Bool×Nat×Nat×Nat×Mode)} (hx:σ.head ke kh cn=some σ'):∃G',R B E w0 N σ' a w G':=by
 unfold St.head at hx;split at hx
 ·rename_i σ1 e;injection hx with hx;subst hx;obtain⟨G1,r1⟩:=((r.jo ke kh).jo ke kh).uh e;exact⟨G1,r1.jo ke kh⟩
 ·cases hx
def jg (P:Program) (N:Nat):Code->lG->Bool
 |c,.join _ _ _ mc=>jg P N c mc
 |.skip,.skip=>true
 |.region _ ops lK,.ij FB ms=>(lK==FB)&&jQ P N ops ops.toList ms&&(!lK||JX ops.toList ms)
 |.region _ ops lK,.wT ps ms=>lK&&jQ P N ops ops.toList ms&&Fi ps ops.toList ms
 |.region _ ops lK,.tE its=> !lK&&xN P N ops ops.toList its
 |.region _ ops lK,.qZ FB ps ms sp=>(lK==FB)&&(if FB=true then Pp P N ops ps ms sp else Pq P N ops ms sp)
 |.seq x y,.seq mx my=>jg P N x mx&&jg P N y my
 |.cond c x y,.cond mc mx my=>bT c mc&&jg P N x mx&&jg P N y my
 |.block id c,.block RL mc=>(id==RL)&&jg P N c mc
 |.loop c,.loop _ _ _ _ mc=>jg P N c mc
 |.exit id,.exit RL=>id==RL
 |.ret,.ret=>true
 |_,_=>false
def ag3 (B:Nat) (E:Ex) (w0:World) (N:Nat) (Q:Exit->Act->World->Prop):t6->Prop
 |.fD σ=>∀a w G,R B E w0 N σ a w G->Q .normal a w
 |.ext id σ=>∀a w G,R B E w0 N σ a w G->Q (.exit id) a w
 |.ret σ=>∀a w G,R B E w0 N σ a w G->Q .ret a w
theorem lJ (hT:kg P T) (hm:P.follows .mixedOrders=true):∀(mc:lG) {c:Code} {σ:St} {o:t6} {a:Act} {w:World} {G:Gh} {Q:Exit->Act->World->Prop},
  jg P N c mc=true->eM T mc σ=some o->R B E w0 N σ a w G->ag3 B E w0 N Q o->c.wp P Q a w
 |.skip,c,σ,o,a,w,G,Q,hc,hx,r,hQ=>by
  cases c<;>simp only[jg] at hc<;>first|cases hc|skip
  simp only[eM] at hx;injection hx with hx;subst hx;exact wp_skip (hQ _ _ _ r)
 |.ij lK ms,c,σ,o,a,w,G,Q,hc,hx,r,hQ=>by
  cases c<;>simp only[jg] at hc<;>first|cases hc|skip
  simp only[Bool.and_eq_true,Bool.or_eq_true,beq_iff_eq] at hc;simp only[eM] at hx;split at hx
  ·rename_i σ1 e;injection hx with hx;subst hx;exact ash hT hm hc.1.2 (fun hd=>hc.2.resolve_left (by simp[hd])) e r hQ
  ·cases hx
 |.wT ps ms,c,σ,o,a,w,G,Q,hc,hx,r,hQ=>by
  cases c<;>simp only[jg] at hc<;>first|cases hc|skip
  simp only[Bool.and_eq_true] at hc;obtain⟨⟨hd,nc⟩,nd⟩:=hc;subst hd;simp only[eM] at hx;split at hx
  ·rename_i fs σ1 e;cases hp:tC ps fs with
   |true=>
    rw[hp] at hx;injection hx with hx;subst hx;exact ase hT hm nc nd e hp r hQ
   |false=>rw[hp] at hx;cases hx
  ·cases hx
 |.tE its,c,σ,o,a,w,G,Q,hc,hx,r,hQ=>by
  cases c<;>simp only[jg] at hc<;>first|cases hc|skip
  simp only[Bool.and_eq_true,Bool.not_eq_true'] at hc;obtain⟨hd,nc⟩:=hc;subst hd;simp only[eM] at hx;split at hx
  ·rename_i σ1 e;injection hx with hx;subst hx;exact wp_region_list (Nn hT hT.atl nc e r hQ)
  ·cases hx
 |.qZ FB ps ms sp,c,σ,o,a,w,G,Q,hc,hx,r,hQ=>by
  cases c<;>simp only[jg] at hc<;>first|cases hc|skip
  simp only[Bool.and_eq_true,beq_iff_eq] at hc;obtain⟨hd,nc⟩:=hc;subst hd;rename_i lK;cases lK with
  |false=>
   simp only[Bool.false_eq_true,if_false] at nc;simp only[eM] at hx;split at hx
   ·rename_i σ1 e;split at hx
    ·rename_i σ2 e2;injection hx with hx;subst hx;exact asg hT nc e e2 r hQ
    ·cases hx
   ·cases hx
  |true=>
   simp only[if_true] at nc;simp only[eM] at hx;split at hx
   ·rename_i fs σ1 e;split at hx
    ·rename_i σ2 e2;cases hp:tC ps fs with
     |true=>
      rw[hp] at hx;injection hx with hx;subst hx;exact asf hT hm nc e hp e2 r hQ
     |false=>rw[hp] at hx;cases hx
    ·cases hx
   ·cases hx
 |.seq mx my,c,σ,o,a,w,G,Q,hc,hx,r,hQ=>by
  cases c<;>simp only[jg] at hc<;>first|cases hc|skip
  simp only[Bool.and_eq_true] at hc;simp only[eM] at hx;refine wp_seq ?_;cases e:eM T mx σ with
  |none=>rw[e] at hx;cases hx
  |some o1=>
   rw[e] at hx;cases o1 with
   |fD σ1=>exact lJ hT hm mx hc.1 e r fun a w G r1=>lJ hT hm my hc.2 hx r1 hQ
   |ext i σ1=>
    injection hx with hx;subst hx;exact lJ hT hm mx hc.1 e r hQ
   |ret σ1=>
    injection hx with hx;subst hx;exact lJ hT hm mx hc.1 e r hQ
 |.cond mc mx my,c,σ,o,a,w,G,Q,hc,hx,r,hQ=>by
  cases c<;>simp only[jg] at hc<;>first|cases hc|skip
  simp only[Bool.and_eq_true] at hc;simp only[eM] at hx;split at hx
  ·rename_i t ht;have h1:=(r.ev hc.1.1).1;rw[ht] at h1;refine wp_cond h1.Cs ?_;cases t with
   |true=>simp only[if_true] at hx⊢;exact lJ hT hm mx hc.1.2 hx r hQ
   |false=>simp only[Bool.false_eq_true,if_false] at hx⊢;exact lJ hT hm my hc.2 hx r hQ
  ·cases hx
 |.block id mc,c,σ,o,a,w,G,Q,hc,hx,r,hQ=>by
  cases c<;>simp only[jg] at hc<;>first|cases hc|skip
  simp only[Bool.and_eq_true,beq_iff_eq] at hc;obtain⟨rfl,hc⟩:=hc;simp only[eM] at hx;refine wp_block ?_;cases e:eM T mc σ with
  |none=>rw[e] at hx;cases hx
  |some o1=>
   rw[e] at hx;refine lJ hT hm mc hc e r ?_;cases o1 with
   |fD σ1=>injection hx with hx;subst hx;exact hQ
   |ret σ1=>injection hx with hx;subst hx;exact hQ
   |ext i σ1=>
    simp only at hx;intro a w G r1;simp only[Exit.inBlock];split at hx
    ·rename_i hi;injection hx with hx;subst hx;rw[if_pos hi];exact hQ a w G r1
    ·rename_i hi;injection hx with hx;subst hx;rw[if_neg hi];exact hQ a w G r1
 |.join ke kh cn mc,c,σ,o,a,w,G,Q,hc,hx,r,hQ=>by
  have hc:jg P N c mc=true:=by cases c<;>exact hc
  simp only[eM] at hx;cases e:eM T mc σ with
  |none=>rw[e] at hx;cases hx
  |some o1=>
   rw[e] at hx;cases o1 with
   |fD σ1=>
    simp only at hx;split at hx
    ·rename_i σh e0;injection hx with hx;subst hx;exact lJ hT hm mc hc e r fun a w G r1=>by
      obtain⟨G',r'⟩:=r1.head e0;exact hQ a w G' r'
    ·cases hx
   |ext i σ1=>
    injection hx with hx;subst hx;exact lJ hT hm mc hc e r hQ
   |ret σ1=>
    injection hx with hx;subst hx;exact lJ hT hm mc hc e r hQ
 |.loop id ke kh cn mc,c,σ,o,a,w,G,Q,hc,hx,r,hQ=>by
  cases c<;>simp only[jg] at hc<;>first|cases hc|skip
  rename_i c;simp only[eM] at hx;refine wp_loop_rounds aL ?_
  revert hx r
  generalize aL=n
  revert σ a w G
  induction n with
  |zero=>intro σ a w G hx r;simp[DM] at hx
  |succ n ih=>
   intro σ a w G hx r;simp only[DM] at hx;rw[rounds_succ];cases e0:σ.head ke kh cn with
   |none=>rw[e0] at hx;cases hx
   |some σh=>
    rw[e0] at hx;obtain⟨G',r'⟩:=r.head e0;cases e:eM T mc σh with
    |none=>simp only[e] at hx;cases hx
    |some o1=>
     simp only[e] at hx;refine lJ hT hm mc hc e r' ?_;cases o1 with
     |fD σ1=>intro a w G r1;exact ih _ _ _ _ hx r1
     |ext i σ1=>injection hx with hx;subst hx;exact hQ
     |ret σ1=>injection hx with hx;subst hx;exact hQ
 |.exit id,c,σ,o,a,w,G,Q,hc,hx,r,hQ=>by
  cases c<;>simp only[jg] at hc<;>first|cases hc|skip
  have hid:=eq_of_beq hc;subst hid;simp only[eM] at hx;injection hx with hx;subst hx;exact wp_exit (hQ _ _ _ r)
 |.ret,c,σ,o,a,w,G,Q,hc,hx,r,hQ=>by
  cases c<;>simp only[jg] at hc<;>first|cases hc|skip
  simp only[eM] at hx;injection hx with hx;subst hx;exact wp_ret (hQ _ _ _ r)
end
inductive bz where
 |tmp (t:Nat)
 |cell (t sz:Nat) (ag:Bool)
def m4 (P:Program):List ResultVar->List bz->Bool
 |[],[]=>true
 |.tmp t::rs,.tmp t'::ms=>(t==t')&&m4 P rs ms
 |.cell a ty::rs,.cell a' sz ag::ms=>(a==a')&&CC P ty ag sz&&m4 P rs ms
 |_,_=>false
def St.q9 (σ:St):List bz->Option (List aj)
 |[]=>some []
 |.tmp t::ms=>match σ.q9 ms with
  |some vs=>some (σ.env t::vs)
  |none=>none
 |.cell t sz ag::ms=>match σ.env t with
  |.one p=>match loadAt σ.h p sz,σ.q9 ms with
   |some cs,some vs=>some (ov ag cs::vs)
   |_,_=>none
  |_=>none
def jJ (h:Nat->Option aq):ah->Option (C×List Nat)
 |.c x=>if x.fh=true then some (x,[]) else none
 |.nil sz=>if 0<sz then some (.list sz [],[]) else none
 |.sl n sz 0 len=>match h n with
  |some (.row true m rs xs)=>if rs=sz/\m≠ .aI/\len<=xs.length then some (.list sz (xs.take len),[n]) else none
  |_=>none
 |_=>none
def vb (h:Nat->Option aq):List ah->Option (List C×List Nat)
 |[]=>some ([],[])
 |c::cs=>match jJ h c,vb h cs with
  |some (x,ns),some (xs,lD)=>some (x::xs,ns++lD)
  |_,_=>none
def sA (h:Nat->Option aq):List aj->Option (List Dv×List Nat)
 |[]=>some ([],[])
 |v::vs=>match v.cells? with
  |some (ag,cs)=>match vb h cs,sA h vs with
   |some (xs,ns),some (ds,lD)=>some ((if ag=true then(K.agg,xs) else(K.one,xs))::ds,ns++lD)
   |_,_=>none
  |none=>none
def St.u9 (σ:St) (ms:List bz):Option (List Dv):=
 match σ.q9 ms with
 |some vs=>match sA σ.h vs with
  |some (ds,ns)=>if ns.Nodup then some ds else none
  |none=>none
 |none=>none
section
variable {B:Nat} {E:Ex} {w0 w w':World} {G G':Gh} {N:Nat} {h h':Nat->Option aq} {used:Nat->Bool}
variable {P:Program} {T:aN} {a:Act} {σ σ':St}
def oK (G:Gh) (n b:Nat):Prop:=((G.g n).nl=false/\b=(G.g n).b)\/bf b (G.g n).px
theorem HR.Zv (H:HR B E w G h used []) {n n':Nat} (aF:n≠n') {gr bn:Bool} {m m':Mode} {sz aH:Nat} {xs ar:List (List C)} (h1:h n=some (.row gr m sz xs)) (h2:h n'=some (.row bn m' aH ar))
  (hm:m≠ .aI) (bL:m'≠ .aI) {b:Nat} (hb:oK G n b):¬oK G n' b:=by
 have e1:h n≠none:=by rw[h1];simp
 have e2:h n'≠none:=by rw[h2];simp
 have own:∀{p q:Nat} {gr:Bool} {m:Mode} {sz:Nat} {xs:List (List C)},h p≠none->h q=some (.row gr m sz xs)->m≠ .aI->(G.g p).nl=false->¬bf (G.g p).b (G.g q).px:=by
  intro p q gr m sz xs hp hq hm hl hF;have gf:=(H.row q gr m sz xs hq).mode;cases m with
  |aI=>exact hm rfl
  |aO=>exact(H.own p hp hl).1 (gf.1 _ hF).1
  |live=>exact H.live q gr sz xs hq _ hF p hp hl rfl
 rintro(⟨l2,rfl⟩|b2)
 ·rcases hb with⟨l1,b1⟩|b1
  ·exact H.inj n n' e1 e2 aF l1 l2 b1.symm
  ·exact own e2 h1 hm l2 b1
 ·rcases hb with⟨l1,rfl⟩|b1
  ·exact own e1 h2 bL l1 b2
  ·exact H.gn n n' gr m sz xs bn m' aH ar h1 h2 hm bL aF b b1 b2
structure Wl (B:Nat) (w:World) (G:Gh) (h:Nat->Option aq) (ns:List Nat) (pc:PC):Prop where
 ez:Good w pc/\Sep pc/\Cf w pc
 new:∀b,jM b pc->(B<=b/\dZ w b)/\∃n∈ns,oK G n b
def vq (h:Nat->Option aq) (ns:List Nat):Prop:=∀n∈ns,∃gr m sz xs,h n=some (.row gr m sz xs)/\m≠ .aI
theorem HR.jJ (H:HR B Ex.no w G h used []) {c:ah} {x:C} {ns:List Nat} {v:Value} (hx:jJ h c=some (x,ns)) (hc:RC w G h c v):
  ∃pc:PC,pc.er=x/\pc.val=v/\Wl B w G h ns pc/\vq h ns/\∀n sz len gr m rs xs,c=.sl n sz 0 len->h n=some (.row gr m rs xs)->∃x0 cap,pc=.list rs x0 cap ((G.g n).px.take len):=by
 have noT:∀pc:PC,(∀sz a cap xs,pc≠ .list sz a cap xs)->∀b,¬jM b pc:=by
  intro pc hp b hb;rcases hb with hb|⟨sz,o,cap,xs,rfl,_⟩
  ·cases hb with
   |here sz o cap xs h=>exact hp _ _ _ _ rfl
   |there sz a cap xs k j c h1 h2=>exact hp _ _ _ _ rfl
  ·exact hp _ _ _ _ rfl
 cases c with
 |c y=>
  simp only[Am.jJ] at hx;split at hx
  ·rename_i hs;injection hx with hx;injection hx with h1 h2;subst h1 h2;obtain⟨pc,p1,p2,p3,p4⟩:=hc;have cg:∀b,¬jM b pc:=noT pc (by rintro sz a cap xs rfl;rw[<-p1] at hs;simp[PC.d9,C.fh] at hs);have tn:Cf w pc:=by
    cases pc with
    |list sz a cap xs=>rw[<-p1] at hs;simp[PC.d9,C.fh] at hs
    |_=>trivial
   exact⟨pc,p1,p2,⟨⟨p3,(Sep.g9 (by rw[p1];exact hs)).1,tn⟩,fun b hb=>absurd hb (cg b)⟩,(fun n hn=>by simp at hn),fun n sz len gr m rs xs e=>by cases e⟩
  ·cases hx
 |nil sz=>
  simp only[Am.jJ] at hx;split at hx
  ·rename_i eR;injection hx with hx;injection hx with h1 h2;subst h1 h2;have dm:v=.slice none 0 0:=hc;subst dm;have jV:Sep (.list sz none 0 []):=by
    refine .list _ _ _ _ ?_ ?_ ?_
    ·rintro k j c ⟨e,he,_⟩;simp at he
    ·rintro b o k j c _ ⟨e,he,_⟩;simp at he
    ·rintro k j c k' j' c' b ⟨e,he,_⟩;simp at he
   refine⟨.list sz none 0 [],by simp[PC.d9],rfl,⟨⟨.nil _ _ _ eR,jV,eR,by simp,.inl rfl⟩,fun b hb=>?_⟩,(fun n hn=>by simp at hn),fun n sz len gr m rs xs e=>by cases e⟩;rcases hb with hb|⟨_,_,_,_,hb,qu⟩
   ·rw[aX.kN] at hb;rcases hb with⟨hb,_⟩|⟨k,j,c,⟨e,he,_⟩,_⟩
    ·exact absurd rfl hb
    ·simp at he
   ·cases hb
  ·cases hx
 |sl n sz lo len=>
  cases lo with
  |succ lo=>simp[Am.jJ] at hx
  |zero=>
   simp only[Am.jJ] at hx;split at hx
   ·rename_i m rs xs hn;split at hx
    ·rename_i cR;obtain⟨rfl,hm,hl⟩:=cR;injection hx with hx;injection hx with h1 h2;subst h1 h2;have bK:h n≠none:=by rw[hn];simp
     have hr:=H.row n true m rs xs hn;have hs:gM (G.g n) rs 0 len v:=hc bK;obtain⟨a1,a2,a3,a4⟩:=Em hr hs (by omega);have qD:(∀b,bf b (G.g n).px->dZ w b/\B<=b)/\iM (G.g n).px/\(∀b,bf b (G.g n).px->(G.g n).nl=false->b≠(G.g n).b):=by
      have dU:=hr.mode;cases m with
      |aI=>exact absurd rfl hm
      |aO=>exact⟨fun b hb=>⟨(dU.1 b hb).2.1,(dU.1 b hb).2.2.resolve_right id⟩,dU.2,fun b hb hl fw=>(H.own n bK hl).1 (fw▸(dU.1 b hb).1)⟩
      |live=>exact⟨fun b hb=>⟨(dU.1 b hb).2.1,(dU.1 b hb).2.2.resolve_right id⟩,dU.2,fun b hb hl=>H.live n true rs xs hn b hb n bK hl⟩
     obtain⟨o1,o2,o3⟩:=qD;refine⟨jK (G.g n) rs 0 len v,by simpa using a1,a2,?_,fun q hq=>?_,fun n' aH uV bn m' mP ar e1 e2=>?_⟩
     ·rcases hs with⟨aT,rfl,_,rfl⟩|⟨aT,ad',rfl,gF,had⟩
      ·simp only[jK] at a3⊢;have hz:(List.take 0 (List.drop 0 (G.g n).px))=[]:=by simp
       have xI:=(hr.nl aT).2 rfl;rw[hz,xI] at a3⊢;have jV:Sep (.list rs (G.g n).na 0 []):=by
        refine .list _ _ _ _ ?_ ?_ ?_
        ·rintro k j c ⟨e,he,_⟩;simp at he
        ·rintro b o k j c _ ⟨e,he,_⟩;simp at he
        ·rintro k j c k' j' c' b ⟨e,he,_⟩;simp at he
       refine⟨⟨a3,jV,hr.pos,by simp,.inl rfl⟩,fun b hb=>?_⟩;rcases hb with hb|⟨_,_,_,_,hb,qu⟩
       ·rw[aX.kN] at hb;rcases hb with⟨hb,_⟩|⟨k,j,c,⟨e,he,_⟩,_⟩
        ·exact absurd rfl hb
        ·simp at he
       ·injection hb with _ _ hb _;exact absurd hb.symm qu
      ·obtain⟨r2,cur,e,r3,r4⟩:=hr.room aT rfl;have e0:=had (.inr rfl);have e0':ad'=some (ad (G.g n).b (G.g n).o):=by rw[e0];simp
       subst e0';simp only[jK,Nat.sub_zero] at a3 a4⊢;have Gn:=o2.sub 0 len;have fL:∀k j c,At ((List.drop 0 (G.g n).px).take len) k j c->At (G.g n).px k j c:=fun k j c hk=>by have:=(qj hk).1;simpa using this
       refine⟨⟨a3,.list _ _ _ _ Gn.1 (fun b o k j c gd hk hb=>?_) Gn.2,hr.pos,by simp;omega,.inr ⟨_,_,cur,e,rfl,r3,r4,r2,fun k j c hk hb=>?_⟩⟩,fun b hb=>?_⟩
       ·injection gd with gd;exact o3 b ⟨_,_,_,fL _ _ _ hk,hb⟩ aT (lf gd).1.symm
       ·exact o3 _ ⟨_,_,_,fL _ _ _ hk,hb⟩ aT rfl
       ·have hf:oK G n b:=by
         rcases hb with hb|⟨_,_,_,_,hb,qu⟩
         ·exact a4 b hb
         ·injection hb with _ hb _ _;injection hb with hb;exact .inl ⟨aT,(lf hb).1.symm⟩
        refine⟨?_,n,by simp,hf⟩;rcases hf with⟨_,rfl⟩|hF
        ·exact⟨((H.own n bK aT).2.1).resolve_right id,(hr.eI aT).1⟩
        ·exact⟨(o1 b hF).2,(o1 b hF).1⟩
     ·simp at hq;subst hq;exact⟨_,_,_,_,hn,hm⟩
     ·injection e1 with e1 _ _ e3;subst e1 e3;rw[hn] at e2;injection e2 with e2;injection e2 with _ _ e2 _;subst e2;rcases hs with⟨_,rfl,_,_⟩|⟨_,a',rfl,_,_⟩
      ·exact⟨_,_,by simp only[jK,List.drop_zero];rfl⟩
      ·exact⟨_,_,by simp only[jK,List.drop_zero];rfl⟩
    ·cases hx
   ·cases hx
 |ptr _ _ _ _=>simp[Am.jJ] at hx
 |de _ _=>simp[Am.jJ] at hx
 |cE _ _ _ _ _ _=>simp[Am.jJ] at hx
 |bw _ _ _ _ _ _=>simp[Am.jJ] at hx
 |fn _ _=>simp[Am.jJ] at hx
 |cY _ _ _ _ _ _=>simp[Am.jJ] at hx
 |bm=>simp[Am.jJ] at hx
structure t7 (B:Nat) (w:World) (G:Gh) (h:Nat->Option aq) (ns:List Nat) (ps:List PC):Prop where
 each:∀pc∈ps,Wl B w G h ns pc
 oI:ns.Nodup->ps.Pairwise fun p q=>∀b,jM b p->¬jM b q
theorem t7.append (H:HR B Ex.no w G h used []) {ns lD:List Nat} {ps ps':List PC} (h1:t7 B w G h ns ps) (h2:t7 B w G h lD ps') (n1:vq h ns) (n2:vq h lD):t7 B w G h (ns++lD) (ps++ps'):=by
 refine⟨fun pc bg=>?_,fun hd=>?_⟩
 ·rcases List.mem_append.1 bg with hp|hp
  ·obtain⟨g,n⟩:=h1.each pc hp;exact⟨g,fun b hb=>⟨(n b hb).1,by obtain⟨k,hk,hf⟩:=(n b hb).2;exact⟨k,by simp[hk],hf⟩⟩⟩
  ·obtain⟨g,n⟩:=h2.each pc hp;exact⟨g,fun b hb=>⟨(n b hb).1,by obtain⟨k,hk,hf⟩:=(n b hb).2;exact⟨k,by simp[hk],hf⟩⟩⟩
 ·rw[List.nodup_append] at hd;rw[List.pairwise_append];refine⟨h1.oI hd.1,h2.oI hd.2.1,fun p hp q hq b hb aJ=>?_⟩;obtain⟨k,hk,hf⟩:=((h1.each p hp).new b hb).2;obtain⟨k',bJ,lN⟩:=((h2.each q hq).new b aJ).2;obtain⟨_,_,_,_,e1,m1⟩:=n1 k hk;obtain⟨_,_,_,_,e2,m2⟩:=n2 k' bJ;exact H.Zv (hd.2.2 k hk k' bJ) e1 e2 m1 m2 hf lN
theorem vq.append {ns lD:List Nat} (h1:vq h ns) (h2:vq h lD):vq h (ns++lD):=fun n hn=>(List.mem_append.1 hn).elim (h1 n) (h2 n)
theorem HR.vb (H:HR B Ex.no w G h used []):∀{cs:List ah} {xs:List C} {ns:List Nat} {vs:List Value},vb h cs=some (xs,ns)->dh w G h cs vs->
  ∃bx:List PC,bx.map PC.er=xs/\bx.map PC.val=vs/\t7 B w G h ns bx/\vq h ns
 |[],xs,ns,vs,hx,hc=>by
  simp only[Am.vb] at hx;injection hx with hx;injection hx with h1 h2;subst h1 h2;have:vs=[]:=List.eq_nil_of_length_eq_zero (by simpa using hc.1);subst this;exact⟨[],rfl,rfl,⟨by simp,fun _=>List.Pairwise.nil⟩,fun n hn=>by simp at hn⟩
 |c::cs,xs,ns,vs,hx,hc=>by
  simp only[Am.vb] at hx;split at hx
  ·rename_i x ns1 ar ns2 e1 e2;injection hx with hx;injection hx with h1 h2;subst h1 h2;obtain⟨hlen,cD⟩:=hc;match vs,hlen with
   |v::vs,hlen=>
    obtain⟨pc,a1,a2,a3,a4,_⟩:=H.jJ e1 (cD 0 c v rfl rfl).2;obtain⟨bx,b1,b2,b3,b4⟩:=H.vb e2 (cs:=cs) (vs:=vs) ⟨by simpa using hlen,fun j c u h1 h2=>cD (j+1) c u h1 h2⟩;have qC:t7 B w G h ns1 [pc]:=⟨fun q hq=>by simp at hq;subst hq;exact a3,fun _=>by simp⟩;exact⟨pc::bx,by simp[a1,b1],by simp[a2,b2],t7.append H qC b3 a4 b4,a4.append b4⟩
  ·cases hx
theorem HR.sA (H:HR B Ex.no w G h used []):∀{xs:List aj} {ds:List Dv} {ns:List Nat} {vs:List Value},sA h xs=some (ds,ns)->vs.length=xs.length->
  (∀(j:Nat) (x:aj) (v:Value),xs[j]? =some x->vs[j]? =some v->RA w G h x v)->
  ∃bq:List (K×List PC),bq.map (fun p=>(p.1,p.2.map PC.er))=ds/\bq.map sB=vs/\(∀p∈bq,p.1≠ .ptr/\(p.1=.one->p.2.length=1))/\t7 B w G h ns (bq.flatMap (·.2))/\vq h ns
 |[],ds,ns,vs,hx,hl,hc=>by
  simp only[Am.sA] at hx;injection hx with hx;injection hx with h1 h2;subst h1 h2;have:vs=[]:=List.eq_nil_of_length_eq_zero (by simpa using hl);subst this;exact⟨[],rfl,rfl,by simp,⟨by simp,fun _=>List.Pairwise.nil⟩,fun n hn=>by simp at hn⟩
 |x::xs,ds,ns,vs,hx,hl,hc=>by
  simp only[Am.sA] at hx;split at hx
  ·rename_i ag cs lL;split at hx
   ·rename_i ys ns1 ur ns2 e1 e2;injection hx with hx;injection hx with h1 h2;subst h1 h2;match vs,hl with
    |v::vs,hl=>
     obtain⟨bx,a1,a2,a3,a4⟩:=H.vb e1 ((hc 0 x v rfl rfl).cells lL);obtain⟨bq,b1,b2,b3,b4,b5⟩:=H.sA e2 (xs:=xs) (vs:=vs) (by simpa using hl) (fun j x v h1 h2=>hc (j+1) x v h1 h2);have z9:=hc 0 x v rfl rfl;cases ag with
     |true=>
      have hv:sB (K.agg,bx)=v:=by
       cases x with
       |one c=>cases c<;>simp[aj.cells?] at lL
       |agg cs'=>
        obtain⟨us,e,_⟩:∃us:List Value,v=.agg us.toArray/\dh w G h cs' us:=z9;subst e;simp only[sB,a2];simp[Value.cells]
       |bH l=>simp[aj.cells?] at lL
      refine⟨(K.agg,bx)::bq,by simp[a1,b1],by simp[hv,b2],fun p hp=>?_,?_,a4.append b5⟩
      ·cases hp with
       |head=>exact⟨by simp,fun e=>by cases e⟩
       |tail _ hp=>exact b3 p hp
      ·simpa using t7.append H a3 b4 a4 b5
     |false=>
      have nc:∃c,x=.one c/\cs=[c]:=by
       cases x with
       |one c=>cases c<;>simp[aj.cells?] at lL<;>exact⟨_,rfl,lL.symm⟩
       |agg cs'=>simp[aj.cells?] at lL
       |bH l=>simp[aj.cells?] at lL
      obtain⟨c,rfl,rfl⟩:=nc;have fV:c≠ .bm:=by rintro rfl;simp[aj.cells?] at lL
      have h1c:=(z9.fE fV).2;have oL:v.cells.toList=[v]:=by cases v<;>first|rfl|(simp[Value.oneCell'] at h1c)
      rw[oL] at a2;match bx,a2 with
      |[pc],a2=>
       have hv:sB (K.one,[pc])=v:=by simpa[sB] using a2
       refine⟨(K.one,[pc])::bq,by simp[<-a1,b1],by simp[hv,b2],fun p hp=>?_,?_,a4.append b5⟩
       ·cases hp with
        |head=>exact⟨by simp,fun _=>rfl⟩
        |tail _ hp=>exact b3 p hp
       ·simpa using t7.append H a3 b4 a4 b5
   ·cases hx
  ·cases hx
end
def zE:Dv->aj
 |(.one,[x])=>.one (.c x)
 |(.one,_)=>.one .bm
 |(.agg,xs)=>.agg (xs.map .c)
 |(.ptr,xs)=>.one (.de xs 0)
def uN:Nat->List Dv->(Nat->aj)
 |_,[]=>xQ
 |k,d::ds=>ax (uN (k+1) ds) k (zE d)
def DC (ds:List Dv):St:={env:=uN 0 ds,h:=CO,used:=fun n=>Nat.ble aW n}
def Mf (T:aN) (mc:lG) (aw:List bz) (ds:List Dv):Option (List Dv):=
 match eM T mc (DC ds) with
 |some (.fD σ)=>σ.u9 aw
 |some (.ret σ)=>σ.u9 aw
 |_=>none
section
variable {B:Nat} {E:Ex} {w0 w w':World} {G G':Gh} {N:Nat} {h h':Nat->Option aq} {used:Nat->Bool}
variable {P:Program} {T:aN} {a:Act} {σ σ':St} {Q:Exit->Act->World->Prop}
theorem RR:∀(ds:List Dv) (k n:Nat),uN k ds n=if k<=n then(match ds[n - k]? with|some d=>zE d|none=>.one .bm) else .one .bm
 |[],k,n=>by simp[uN,xQ]
 |d::ds,k,n=>by
  simp only[uN,j8,RR ds];by_cases h:n=k
  ·subst h;simp
  ·by_cases h2:k<=n
   ·have h3:k+1<=n:=by omega
    have h4:n - k=(n - (k+1))+1:=by omega
    simp[h,h2,h3,h4]
   ·have h3:¬k+1<=n:=by omega
    simp[h,h2,h3]
def Qq (w:World):Gh:=⟨fun b=>b<w.heap.size,fun _=>default⟩
theorem ahe {d:Dv} {v:Value} (hd:BC w d v):RA w (Qq w) CO (zE d) v:=by
 have cells:∀{bx:List PC},(∀pc∈bx,Good w pc)->dh w (Qq w) CO ((bx.map PC.er).map .c) (bx.map PC.val):=by
  intro bx hg;refine⟨by simp,fun j c u hj hu=>?_⟩;simp only[List.getElem?_map,List.map_map] at hj hu;cases hp:bx[j]? with
  |none=>rw[hp] at hj;cases hj
  |some pc=>
   rw[hp] at hj hu;simp at hj hu;subst hj;subst hu;have Z9:=hg pc (List.mem_of_getElem? hp);exact⟨PC.kc pc,pc,rfl,rfl,Z9,fun b hb=>Z9.lt hb⟩
 obtain⟨k,xs⟩:=d;cases k with
 |one=>
  obtain⟨bx,p1,p2,p3⟩:=hd;have p1:bx.map PC.er=xs:=p1;subst p1;match bx,p3 with
  |[pc],p3=>
   simp at p3;subst p3;exact RA.fz (PC.kc pc) ⟨pc,rfl,rfl,p2 pc (by simp),fun b hb=>(p2 pc (by simp)).lt hb⟩
 |agg=>
  obtain⟨bx,p1,p2,p3⟩:=hd;have p1:bx.map PC.er=xs:=p1;subst p1;exact⟨_,p3,cells p2⟩
 |ptr=>
  obtain⟨bx,b,o,p1,p2,p3,p4⟩:=hd;have p1:bx.map PC.er=xs:=p1;subst p1 p2;exact RA.fz rfl ⟨b,o,bx,by simp,rfl,p3,fun j c hj=>⟨(p4 j c hj).1,(p4 j c hj).2,fun b' aJ=>(p4 j c hj).2.lt aJ⟩⟩
theorem ahf {d:Dv} {m:Nat}:¬(zE d).ref m:=by
 obtain⟨k,xs⟩:=d;cases k with
 |one=>match xs with
  |[]=>exact id
  |[x]=>exact id
  |_::_::_=>exact id
 |agg=>
  rintro⟨c,hc,h⟩;obtain⟨y,_,rfl⟩:=List.mem_map.1 hc;exact h
 |ptr=>exact id
theorem R.init {ds:List Dv} {vals:List Value} (ha:EQ w ds vals) (hN:ds.length<=N):
  R w.heap.size Ex.no w N (DC ds) {tmps:=vals.toArray++Array.replicate (N - vals.toArray.size) undef,defers:=[]} w (Qq w):=by
 obtain⟨hl,cD⟩:=ha;refine⟨rfl,by simp;omega,fun s=>?_,fun s n hn=>?_,?_,Fr.refl _ _ _ (Nat.le_refl _),fun n p b hp=>(by cases hp),fun n hn=>Nat.ble_eq_true_of_le hn⟩
 ·show RA w _ CO (uN 0 ds s) _;rw[RR];simp only[Nat.zero_le,if_true,Nat.sub_zero];cases hs:ds[s]? with
  |none=>exact Or.inl rfl
  |some d=>
   have iF:s<vals.length:=by rw[hl];exact(List.getElem?_eq_some_iff.1 hs).1
   have hv:vals[s]? =some vals[s]:=List.getElem?_eq_getElem iF;have:(vals.toArray++Array.replicate (N - vals.toArray.size) undef).getD s undef=vals[s]:=by
    simp[Array.getD_eq_getD_getElem?,Array.getElem?_append,iF]
   rw[this];exact ahe (cD s d _ hs hv)
 ·have bu:(uN 0 ds s).ref n:=hn;rw[RR] at bu;simp only[Nat.zero_le,if_true,Nat.sub_zero] at bu;cases hs:ds[s]? with
  |none=>rw[hs] at bu;exact absurd bu id
  |some d=>rw[hs] at bu;exact absurd bu ahf
 ·have h0:∀n,(DC ds).h n=none:=fun n=>rfl;refine⟨fun n hn=>absurd (h0 n) hn,fun m cs c n hm=>?_,fun n cs hn=>?_,fun n gr m sz xs hn=>?_,fun n hn=>absurd (h0 n) hn,fun n n' hn=>absurd (h0 n) hn,fun b hb=>hb,fun b _=>.inr (.inr trivial),
   fun n n' gr m sz xs bn m' aH ar hn=>?_,fun n gr sz xs hn=>?_,?_,?_,?_⟩
  ·rw[h0] at hm;cases hm
  ·rw[h0] at hn;cases hn
  ·rw[h0] at hn;cases hn
  ·rw[h0] at hn;cases hn
  ·rw[h0] at hn;cases hn
  ·intro i pc hi;simp at hi
  ·intro i j pc dv b _ hi;simp at hi
  ·intro i pc n gr m sz xs b hi;simp at hi
theorem asH (r:R B E w0 N σ a w G) {t sz:Nat} {ag:Bool} {ty:TypeId} {p:ah} {cs:List ah} (gX:CC P ty ag sz=true) (hp:σ.env t=.one p) (hx:loadAt σ.h p sz=some cs):
  ∃v,(wU a.tmps (.cell t ty)).run P w=.ok v w/\RA w G σ.h (ov ag cs) v:=by
 have hv:=r.env t;have lQ:=r.pg t;rw[hp] at hv lQ;have kG:p≠ .bm:=by rintro rfl;simp[Am.loadAt] at hx
 obtain⟨b,of,vs,h1,h2,h3,h4,h5⟩:=r.hr.loadAt hx (hv.fE kG).1 (fun m hm=>lQ m hm);have QZ:∀n:Nat,n=vs.length->(loadCells (ad b of) n).run P w=.ok vs.toArray w:=fun n hn=>by
  subst hn;exact run_loadCells_list w (ad b of) vs (fun j u hj=>by rw[ru];exact h3 j u hj)
 unfold CC at gX;cases hu:P.underlying ty with
 |none=>rw[hu] at gX;simp at gX
 |some d=>
  cases hi:P.info? ty with
  |none=>rw[hu,hi] at gX;cases d<;>simp at gX
  |some i=>
   rw[hu,hi] at gX;have cb:(ag=true/\i.size=sz/\(isAgg ty).run P w=.ok true w)\/(ag=false/\sz=1/\(isAgg ty).run P w=.ok false w):=by
    cases d<;>simp at gX<;>simp[isAgg,run_underlying hu,gX]
   rcases cb with⟨rfl,e1,e2⟩|⟨rfl,e1,e2⟩
   ·refine⟨.agg vs.toArray,?_,vs,rfl,h4⟩;simp[wU,h1,loadVar,asAddr,e2,sizeOf,typeInfo,hi,QZ i.size (by omega)]
   ·subst e1;match vs,h2 with
    |[u],_=>
     have fc:∃c,cs=[c]:=by
      have:=h4.1;match cs,this with
      |[c],_=>exact⟨c,rfl⟩
     obtain⟨c,rfl⟩:=fc;have gW:=h3 0 u rfl;simp only[Nat.add_zero] at gW;exact⟨u,by simp[wU,h1,loadVar,asAddr,e2,gW],.inr h4⟩
theorem Hm (r:R B E w0 N σ a w G):∀{rs:List ResultVar} {ms:List bz} {vs:List aj},m4 P rs ms=true->σ.q9 ms=some vs->
  ∃us:List Value,(rs.mapM (wU a.tmps)).run P w=.ok us w/\us.length=vs.length/\us.length=rs.length/\∀(j:Nat) (x:aj) (v:Value),vs[j]? =some x->us[j]? =some v->RA w G σ.h x v
 |[],[],vs,hc,hx=>by
  simp only[St.q9] at hx;injection hx with hx;subst hx;exact⟨[],by simp,rfl,rfl,by simp⟩
 |.tmp t::rs,.tmp t'::ms,vs,hc,hx=>by
  simp only[m4,Bool.and_eq_true,beq_iff_eq] at hc;obtain⟨rfl,hc⟩:=hc;simp only[St.q9] at hx;split at hx
  ·rename_i vs' e;injection hx with hx;subst hx;obtain⟨us,u1,u2,VV,u3⟩:=Hm r hc e;refine⟨a.tmps.getD t undef::us,by simp[wU,u1],by simp[u2],by simp[VV],fun j x v hj hv=>?_⟩;cases j with
   |zero=>simp only[List.getElem?_cons_zero,Option.some.injEq] at hj hv;subst hj;subst hv;exact r.env t
   |succ j=>exact u3 j x v (by simpa using hj) (by simpa using hv)
  ·cases hx
 |.cell t ty::rs,.cell t' sz ag::ms,vs,hc,hx=>by
  simp only[m4,Bool.and_eq_true,beq_iff_eq] at hc;obtain⟨⟨rfl,gX⟩,hc⟩:=hc;simp only[St.q9] at hx;split at hx
  ·rename_i p hp;split at hx
   ·rename_i cs vs' e1 e2;injection hx with hx;subst hx;obtain⟨us,u1,u2,VV,u3⟩:=Hm r hc e2;obtain⟨v0,v1,v2⟩:=asH r gX hp e1;refine⟨v0::us,by simp[v1,u1],by simp[u2],by simp[VV],fun j x v hj hv=>?_⟩;cases j with
    |zero=>simp only[List.getElem?_cons_zero,Option.some.injEq] at hj hv;subst hj;subst hv;exact v2
    |succ j=>exact u3 j x v (by simpa using hj) (by simpa using hv)
   ·cases hx
  ·cases hx
 |[],_::_,_,hc,_=>by simp[m4] at hc
 |.tmp _::_,[],_,hc,_=>by simp[m4] at hc
 |.cell _ _::_,[],_,hc,_=>by simp[m4] at hc
 |.tmp _::_,.cell _ _ _::_,_,hc,_=>by simp[m4] at hc
 |.cell _ _::_,.tmp _::_,_,hc,_=>by simp[m4] at hc
theorem arL {bq:List (K×List PC)}:DZ (bq.map sB)=wX bq:=by
 match bq with
 |[]=>rfl
 |[p]=>rfl
 |p::q::bq=>rfl
theorem adK (r:R B Ex.no w0 N σ a w G) {fn:Func} {ms:List bz} {ds:List Dv} (hc:m4 P fn.results.toList ms=true) (hx:σ.u9 ms=some ds):
  ∃bq:List (K×List PC),bq.map (fun p=>(p.1,p.2.map PC.er))=ds/\(results fn a.tmps).run P w=.ok (wX bq) w/\(∀p∈bq,p.1≠ .ptr/\(p.1=.one->p.2.length=1))/\
   vr w B (bq.flatMap (·.2)):=by
 unfold St.u9 at hx;split at hx
 ·rename_i vs e1;split at hx
  ·rename_i ur ns e2;split at hx
   ·rename_i fx;injection hx with hx;subst hx;obtain⟨us,u1,u2,_,u3⟩:=Hm r hc e1;obtain⟨bq,p1,p2,p3,p4,p5⟩:=r.hr.sA e2 u2 u3;refine⟨bq,p1,?_,p3,⟨fun pc bg=>(p4.each pc bg).ez,fun pc bg b hb=>((p4.each pc bg).new b hb).1,fun i j pc dv b iv hi hj hb=>?_⟩⟩
    ·rw[Mj fn a.tmps u1,<-p2,arL]
    ·have hp:=p4.oI fx;rw[List.pairwise_iff_getElem] at hp;obtain⟨li,ei⟩:=List.getElem?_eq_some_iff.1 hi;obtain⟨lj,ej⟩:=List.getElem?_eq_some_iff.1 hj;subst ei;subst ej;rcases Nat.lt_or_gt_of_ne iv with cj|cj
     ·exact hp i j li lj cj b hb
     ·exact fun aJ=>hp j i lj li cj b aJ hb
   ·cases hx
  ·cases hx
 ·cases hx
def DV (h:Nat->Option aq):ah->Bool
 |.sl n _ 0 _=>match h n with
  |some (.row true .live _ _)=>true
  |_=>false
 |_=>false
def St.Bb (σ:St) (ms:List bz):Option (List Dv):=
 match σ.q9 ms with
 |some [.one c]=>match jJ σ.h c with
  |some (x,_)=>if DV σ.h c=true then some [(.one,[x])] else none
  |none=>none
 |_=>none
def runN (T:aN) (mc:lG) (aw:List bz) (ds:List Dv):Option (List Dv):=
 match eM T mc (DC ds) with
 |some (.fD σ)=>σ.Bb aw
 |some (.ret σ)=>σ.Bb aw
 |_=>none
theorem aso (r:R B Ex.no w0 N σ a w G) {fn:Func} {ms:List bz} {ds:List Dv} (hc:m4 P fn.results.toList ms=true) (hx:σ.Bb ms=some ds):
  ∃(sz cap:Nat) (x0:Option Addr) (xs:List (List PC)),ds=[(.one,[(PC.list sz x0 cap xs).er])]/\(results fn a.tmps).run P w=.ok (PC.list sz x0 cap xs).val w/\vr w B [PC.list sz x0 cap xs]/\pn w sz xs:=by
 unfold St.Bb at hx;split at hx
 ·rename_i c e1;split at hx
  ·rename_i x ns e2;split at hx
   ·rename_i oN;injection hx with hx;subst hx;obtain⟨us,u1,u2,_,u3⟩:=Hm r hc e1;match us,u2 with
    |[u],_=>
    have hv:=u3 0 _ u rfl rfl;have fV:c≠ .bm:=by rintro rfl;simp[Am.jJ] at e2
    obtain⟨pc,a1,a2,a3,_,a5⟩:=r.hr.jJ e2 (hv.fE fV).1;cases c with
    |sl n sz lo len=>
     cases lo with
     |succ lo=>simp[DV] at oN
     |zero=>
      simp only[DV] at oN;split at oN
      ·rename_i rs xs hn;obtain⟨x0,cap,bg⟩:=a5 n sz len true .live rs xs rfl hn;subst bg;refine⟨rs,cap,x0,_,by rw[a1],?_,⟨fun pc bg=>?_,fun pc bg b hb=>?_,fun i j p q b iv hi hj=>?_⟩,fun k p hk=>?_⟩
       ·rw[Mj fn a.tmps u1,a2];rfl
       ·simp at bg;subst bg;exact a3.ez
       ·simp at bg;subst bg;exact(a3.new b hb).1
       ·exfalso;cases i with
        |zero=>cases j with
         |zero=>exact iv rfl
         |succ j=>simp at hj
        |succ i=>simp at hi
       ·refine(r.hr.row n true .live rs xs hn).nr rfl rfl k p ?_;obtain⟨e,he,hj⟩:=hk;rw[List.getElem?_take] at he;split at he
        ·exact⟨e,he,hj⟩
        ·cases he
      ·cases oN
    |_=>simp[DV] at oN
   ·cases hx
  ·cases hx
 ·cases hx
theorem apT (hT:kg P T) (hm:P.follows .mixedOrders=true) {f:FuncId} {fn:Func} {c:Code} {mc:lG} {ms:List bz} {M:List Dv->Option (List Dv)} (hf:P.funcs[f]? =some fn) (hb:fn.body=some c)
  (hc:jg P fn.ntmps c mc=true) (hr:m4 P fn.results.toList ms=true) (hM:∀ds rs,M ds=some rs->ds.length<=fn.ntmps/\runN T mc ms ds=some rs):xB P f M:=by
 intro ds rs jS w vals ha;obtain⟨hN,bR⟩:=hM ds rs jS;refine calls_of_wp hf hb ?_;have r0:=R.init (N:=fn.ntmps) ha hN;unfold runN at bR;have gV:∀{σ:St} {a:Act} {w':World} {G:Gh},σ.Bb ms=some rs->R w.heap.size Ex.no w fn.ntmps σ a w' G->a.defers=[]/\∃v,(results fn a.tmps).run P w'=.ok v w'/\
   ∃(sz cap:Nat) (x0:Option Addr) (xs:List (List PC)),rs=[(.one,[(PC.list sz x0 cap xs).er])]/\(Ending.returned v)=.returned (PC.list sz x0 cap xs).val/\vr w' w.heap.size [PC.list sz x0 cap xs]/\Fr w.heap.size Ex.no w w'/\pn w' sz xs:=by
  intro σ a w' G hx r;obtain⟨sz,cap,x0,xs,p1,p2,p3,p4⟩:=aso r hr hx;exact⟨r.defers,_,p2,sz,cap,x0,xs,p1,rfl,p3,r.fr,p4⟩
 split at bR
 ·rename_i σ e;exact lJ hT hm mc hc e r0 fun a w' G r=>gV bR r
 ·rename_i σ e;exact lJ hT hm mc hc e r0 fun a w' G r=>gV bR r
 ·cases bR
theorem ar1 (hT:kg P T) (hm:P.follows .mixedOrders=true) {f:FuncId} {fn:Func} {c:Code} {mc:lG} {ms:List bz} {M:List Dv->Option (List Dv)} (hf:P.funcs[f]? =some fn) (hb:fn.body=some c)
  (hc:jg P fn.ntmps c mc=true) (hr:m4 P fn.results.toList ms=true) (hM:∀ds rs,M ds=some rs->ds.length<=fn.ntmps/\Mf T mc ms ds=some rs):dd P f M:=by
 intro ds rs jS w vals ha;obtain⟨hN,bR⟩:=hM ds rs jS;refine calls_of_wp hf hb ?_;have r0:=R.init (N:=fn.ntmps) ha hN;unfold Mf at bR;have gV:∀{σ:St} {a:Act} {w':World} {G:Gh},σ.u9 ms=some rs->R w.heap.size Ex.no w fn.ntmps σ a w' G->a.defers=[]/\∃v,(results fn a.tmps).run P w'=.ok v w'/\
   ∃bq:List (K×List PC),bq.map (fun p=>(p.1,p.2.map PC.er))=rs/\(Ending.returned v)=.returned (wX bq)/\(∀p∈bq,p.1≠ .ptr/\(p.1=.one->p.2.length=1))/\
   vr w' w.heap.size (bq.flatMap (·.2))/\Fr w.heap.size Ex.no w w':=by
  intro σ a w' G hx r;obtain⟨bq,p1,p2,p3,p4⟩:=adK r hr hx;exact⟨r.defers,_,p2,bq,p1,rfl,p3,p4,r.fr⟩
 split at bR
 ·rename_i σ e;exact lJ hT hm mc hc e r0 fun a w' G r=>gV bR r
 ·rename_i σ e;exact lJ hT hm mc hc e r0 fun a w' G r=>gV bR r
 ·cases bR
end

def iz:Nat->List (Option Mode)->List C->List ah
 |c,some _::fs,.list sz xs::cs=>.sl (aW+c) sz 0 xs.length::iz (c+1) fs cs
 |c,some _::fs,x::cs=>.bm::iz (c+1) fs cs
 |c,none::fs,x::cs=>.c x::iz c fs cs
 |c,[],cs=>cs.map .c
 |c,_::_,[]=>[]
def Fa (c:Nat) (s:List (Option Mode)) (xs:List C):ah:=
 match s with
 |[]=>.de xs 0
 |_::_=>match xs.getLast? with
  |some (.list sz l)=>.cE xs 0 (xs.length - 1) (aW+c) sz l.length
  |_=>.bm
def qi (c:Nat) (s:List (Option Mode)):Dv->aj
 |(.one,xs)=>match iz c s xs with
  |[x]=>.one x
  |_=>.one .bm
 |(.agg,xs)=>.agg (iz c s xs)
 |(.ptr,xs)=>.one (Fa c s xs)
def nk:Nat->Nat->aM->List Dv->(Nat->aj)
 |_,_,_,[]=>xQ
 |k,c,[],d::ds=>ax (nk (k+1) c [] ds) k (qi c [] d)
 |k,c,s::sig,d::ds=>ax (nk (k+1) (c+(fi s d.2).length) sig ds) k (qi c s d)
def oh:Mode×C->Option aq
 |(m,.list sz xs)=>some (.row false m sz xs)
 |_=>none
def DD (sig:aM) (ds:List Dv):St:=
 {env:=nk 0 0 sig ds
  h:=fun n=>if aW<=n then((eZ sig (ds.map (·.2)))[n - aW]?).bind oh else none
  used:=fun n=>Nat.ble aW n}
def St.kP (σ:St):St:={σ with h:=fun n=>if aW<=n then none else σ.h n}
def DX (σ:St) (q:Nat) (x:Mode×C):Option C:=
 match x.2,σ.h (aW+q) with
 |.list sz xs,some (.row _ m' aH ar)=>if m'=x.1/\aH=sz/\ar.length=xs.length/\uu x.1 ar=true/\ar.map (fun e=>e.map C.sa)=xs.map (fun e=>e.map C.sa) then some (.list sz ar) else none
 |_,_=>none
def yP (σ:St):Nat->List (Mode×C)->Option (List C)
 |_,[]=>some []
 |q,x::l=>match DX σ q x,yP σ (q+1) l with
  |some y,some ys=>some (y::ys)
  |_,_=>none
def St.Eb (σ:St) (ms:List bz) (fl:List (Mode×C)):Option (List Dv×List C):=
 match σ.kP.u9 ms,yP σ 0 fl with
 |some rs,some dW=>some (rs,dW)
 |_,_=>none
def Mg (T:aN) (mc:lG) (aw:List bz) (sig:aM) (ds:List Dv):Option (List Dv×List C):=
 match eM T mc (DD sig ds) with
 |some (.fD σ)=>σ.Eb aw (eZ sig (ds.map (·.2)))
 |some (.ret σ)=>σ.Eb aw (eZ sig (ds.map (·.2)))
 |_=>none
section
variable {B:Nat} {E:Ex} {w0 w w':World} {G G':Gh} {N:Nat} {h h':Nat->Option aq} {used:Nat->Bool}
variable {P:Program} {T:aN} {a:Act} {σ σ':St} {Q:Exit->Act->World->Prop}
def pU:PC->PB
 |.list _ a cap []=>⟨true,0,0,cap,[],a⟩
 |.list _ (some a) cap (e::xs)=>⟨false,a.block,a.off,cap,e::xs,none⟩
 |_=>default
theorem D3 (sz:Nat) (a:Option Addr) (cap:Nat):pU (.list sz a cap [])=⟨true,0,0,cap,[],a⟩:=by
 cases a<;>rfl
theorem yS {sz b o cap:Nat} {xs:List (List PC)} (h:xs≠[]):pU (.list sz (some (ad b o)) cap xs)=⟨false,b,o,cap,xs,none⟩:=by
 cases xs with
 |nil=>exact absurd rfl h
 |cons e xs=>rfl
theorem Good.cases {w:World} {sz cap:Nat} {a:Option Addr} {xs:List (List PC)} (h:Good w (.list sz a cap xs)):xs=[]\/(xs≠[]/\xs.length<=cap/\∃b o,a=some (ad b o)):=by
 cases h with
 |nil _ _ _ h=>exact .inl rfl
 |cons _ b o _ _ h1 h2=>exact .inr ⟨h1,h2,b,o,rfl⟩
def zY (fl:List (Mode×PC)):Ex:=
 ⟨fun b=>∃x∈fl,aX b x.2,fun n=>if aW<=n then(fl[n - aW]?).map fun x=>pU x.2 else none,fun n p h=>(by
  by_cases hn:aW<=n
  ·exact hn
  ·rw[if_neg hn] at h;cases h),fun _=>True⟩
def nP (w:World) (fl:List (Mode×PC)):Gh:=
 ⟨fun b=>b<w.heap.size/\¬∃x∈fl,aX b x.2,fun n=>match fl[n - aW]? with|some x=>pU x.2|none=>default⟩
def oM (fl:List (Mode×PC)):Nat->Option aq:=fun n=>if aW<=n then((fl.map fun x=>(x.1,x.2.er))[n - aW]?).bind oh else none
theorem rS {fl:List (Mode×PC)} {n:Nat} {blk:aq} (hn:oM fl n=some blk):aW<=n/\∃m sz a cap xs,fl[n - aW]? =some (m,.list sz a cap xs)/\blk=.row false m sz (xs.map fun e=>e.map PC.er):=by
 unfold oM at hn;split at hn
 ·rename_i hp;refine⟨hp,?_⟩;rw[List.getElem?_map] at hn;cases hf:fl[n - aW]? with
  |none=>rw[hf] at hn;cases hn
  |some x=>
   rw[hf] at hn;obtain⟨m,pc⟩:=x;cases pc with
   |int k i=>simp[PC.er,oh] at hn
   |bool b=>simp[PC.er,oh] at hn
   |list sz a cap xs=>
    simp[PC.d9,oh] at hn;exact⟨m,sz,a,cap,xs,rfl,hn.symm⟩
 ·cases hn
theorem jM.HX (b o sz cap:Nat) (xs:List (List PC)) (hc:cap≠0):jM b (.list sz (some (ad b o)) cap xs):=.inr ⟨_,_,_,_,rfl,hc⟩
theorem jM.row {b sz:Nat} {a:Option Addr} {cap:Nat} {xs:List (List PC)} (h:bf b xs):jM b (.list sz a cap xs):=by
 obtain⟨k,j,c,hk,hc⟩:=h;exact .inl (.there _ _ _ _ k j c hk hc)
theorem Sep.row {sz:Nat} {a:Option Addr} {cap:Nat} {xs:List (List PC)} (h:Sep (.list sz a cap xs)):iM xs:=by
 cases h with
 |list _ _ _ _ h1 h2 h3=>exact⟨h1,h3⟩
theorem Good.rowAt {sz b o cap:Nat} {xs:List (List PC)} (h:Good w (.list sz (some (ad b o)) cap xs)):nD w b o sz xs:=by
 generalize hq:PC.list sz (some (ad b o)) cap xs=q at h;cases h with
 |int k n=>cases hq
 |bool b=>cases hq
 |nil aH a pt h0=>
  injection hq with h1 h2 h3 h4;subst h4;exact⟨by simp,by rintro k j c ⟨e,he,_⟩;simp at he,by rintro k j c ⟨e,he,_⟩;simp at he⟩
 |cons aH b' o' pt ar h1 h2 h3 h4 h5 h6=>
  injection hq with e1 e2 e3 e4;injection e2 with e2;obtain⟨rfl,rfl⟩:=lf e2;subst e1 e3 e4;exact⟨h4,h5,h6⟩
theorem HR.RS {fl:List (Mode×PC)} (hg:∀x∈fl,Good w x.2) (fN:∀x∈fl,zA w x.1 x.2) (nT:fl.Pairwise fun x y=>∀b,aX b x.2->¬aX b y.2):
  HR w.heap.size (zY fl) w (nP w fl) (oM fl) (fun n=>Nat.ble aW n) []:=by
 have oI:∀{i j:Nat} {x y:Mode×PC},fl[i]? =some x->fl[j]? =some y->i≠j->∀b,aX b x.2->¬aX b y.2:=by
  intro i j x y hi hj iv b hb aJ;obtain⟨li,ei⟩:=List.getElem?_eq_some_iff.1 hi;obtain⟨lj,ej⟩:=List.getElem?_eq_some_iff.1 hj;rw[List.pairwise_iff_getElem] at nT;subst ei;subst ej;rcases Nat.lt_or_gt_of_ne iv with h|h
  ·exact nT i j li lj h b hb aJ
  ·exact nT j i lj li h b aJ hb
 have gg:∀{n:Nat} {x:Mode×PC},fl[n - aW]? =some x->(nP w fl).g n=pU x.2:=by intro n x h;simp only[nP,h]
 have HX:∀{x:Mode×PC},x∈fl->(pU x.2).nl=false->aX (pU x.2).b x.2:=by
  intro x hx hl;obtain⟨sz,a,cap,xs,e,_,_,_⟩:=(fN x hx).eI;have Ag:=hg x hx;rw[e] at hl Ag⊢;rcases Ag.cases with rfl|⟨aF,_,b,o,rfl⟩
  ·rw[D3] at hl;cases hl
  ·rw[yS aF];exact .here _ _ _ _ aF
 have Tt:∀{x:Mode×PC},x∈fl->∀b,bf b (pU x.2).px->aX b x.2:=by
  intro x hx b hb;obtain⟨sz,a,cap,xs,e,_,_,_⟩:=(fN x hx).eI;have Ag:=hg x hx;rw[e] at hb Ag⊢;rcases Ag.cases with rfl|⟨aF,_,b,o,rfl⟩
  ·rw[D3] at hb;obtain⟨k,j,c,⟨e,he,_⟩,_⟩:=hb;simp at he
  ·rw[yS aF] at hb;obtain⟨k,j,c,hk,hc⟩:=hb;exact .there _ _ _ _ k j c hk hc
 have sub:∀{n n':Nat},aW<=n->aW<=n'->n≠n'->n - aW≠n' - aW:=by intro n n' h1 h2 h3;omega
 refine⟨fun n hn=>?_,fun m cs c n hm=>?_,fun n cs hn=>?_,fun n gr m sz xs hn=>?_,fun n hn hl=>?_,fun n n' hn bu aF hl eG=>?_,fun b hb=>hb.1,fun b _=>.inr (.inr trivial),fun n n' gr m sz xs bn m' aH ar hn bu _ _ aF b hb=>?_,
  fun n gr sz xs hn b hb n' bu eG=>?_,(by intro i pc hi;simp at hi),(by intro i j pc dv b _ hi;simp at hi),(by intro i pc n gr m sz xs b hi;simp at hi)⟩
 ·cases hh:oM fl n with
  |none=>exact absurd hh hn
  |some b=>exact Nat.ble_eq_true_of_le (rS hh).1
 ·obtain⟨_,m',sz,a,cap,xs,_,e⟩:=rS hm;cases e
 ·obtain⟨_,m',sz,a,cap,xs,_,e⟩:=rS hn;cases e
 ·obtain⟨hp,m',aH,a,cap,ar,hf,e⟩:=rS hn;injection e with e1 e2 e3 e4;subst e1 e2 e3 e4;have hx:(m,PC.list sz a cap ar)∈fl:=List.mem_of_getElem? hf;have ok:=fN _ hx;have ez:=hg _ hx;obtain⟨jc,a2,ui,gx,e,eR,ni,v8⟩:=ok.eI;injection e with e1 e2 e3 e4;subst e1 e2 e3 e4;rw[gg hf];have Tu:∀b,bf b ar->aX b (PC.list sz a cap ar):=fun b ⟨k,j,c,hk,hc⟩=>.there _ _ _ _ k j c hk hc;have gf:Ca w.heap.size (zY fl) w (nP w fl) ar m:=by
   have jV:=Sep.row ok.sep;cases m with
   |aI=>cases v8
   |aO=>exact⟨fun b hb=>absurd hb (vd v8 b),jV⟩
   |live=>exact⟨fun b hb=>⟨fun hi=>hi.2 ⟨_,hx,Tu b hb⟩,ok.un b (Tu b hb),.inr ⟨_,hx,Tu b hb⟩⟩,jV⟩
  rcases ez.cases with rfl|⟨aF,gF,b,o,rfl⟩
  ·rw[D3];exact⟨eR,rfl,fun _=>⟨rfl,fun h=>by cases h⟩,(fun h=>by cases h),(fun h=>by cases h),gf,fun h=>by cases h⟩
  ·rw[yS aF];exact⟨eR,rfl,(fun h=>by cases h),fun _=>⟨ok.un b (.here _ _ _ _ aF),Good.rowAt ez,gF⟩,(fun _ h=>by cases h),gf,fun h=>by cases h⟩
 ·cases hh:oM fl n with
  |none=>exact absurd hh hn
  |some blk=>
   obtain⟨hp,m',aH,a,cap,ar,hf,e⟩:=rS hh;have hx:(m',PC.list aH a cap ar)∈fl:=List.mem_of_getElem? hf;rw[gg hf] at hl⊢;have ht:=HX hx hl;exact⟨fun hi=>hi.2 ⟨_,hx,ht⟩,.inr ⟨_,hx,ht⟩,((fN _ hx).un _ ht).lt⟩
 ·cases hh:oM fl n with
  |none=>exact absurd hh hn
  |some blk=>
   cases Ga:oM fl n' with
   |none=>exact absurd Ga bu
   |some ahv=>
    obtain⟨hp,m1,tJ,a1,Cw,sL,hf,_⟩:=rS hh;obtain⟨bC,m2,jc,a2,ui,gx,lN,_⟩:=rS Ga;rw[gg hf] at hl⊢;rw[gg lN] at eG⊢;intro he;exact oI hf lN (sub hp bC aF) _ (HX (List.mem_of_getElem? hf) hl) (he▸HX (List.mem_of_getElem? lN) eG)
 ·obtain⟨hp,m1,tJ,a1,Cw,sL,hf,_⟩:=rS hn;obtain⟨bC,m2,jc,a2,ui,gx,lN,_⟩:=rS bu;rw[gg hf] at hb;rw[gg lN];exact fun aJ=>oI hf lN (sub hp bC aF) b (Tt (List.mem_of_getElem? hf) b hb) (Tt (List.mem_of_getElem? lN) b aJ)
 ·obtain⟨hp,m1,tJ,a1,Cw,sL,hf,_⟩:=rS hn;rw[gg hf] at hb;cases Ga:oM fl n' with
  |none=>exact absurd Ga bu
  |some ahv=>
   obtain⟨bC,m2,jc,a2,ui,gx,lN,_⟩:=rS Ga;rw[gg lN] at eG⊢;rintro rfl;by_cases aF:n=n'
   ·subst aF;rw[hf] at lN;injection lN with lN;injection lN with _ lN;injection lN with q1 q2 q3 q4;subst q1 q2 q3 q4;have hm:=List.mem_of_getElem? hf;obtain⟨sz,a,cap,xs,e,_,ni,_⟩:=(fN _ hm).eI;have Ag:=hg _ hm;injection e with e1 e2 e3 e4;subst e1 e2 e3 e4;rcases Ag.cases with rfl|⟨aF,_,b,o,rfl⟩
    ·rw[D3] at eG;cases eG
    ·rw[yS aF] at hb;exact ni b o rfl hb
   ·exact oI hf lN (sub hp bC aF) _ (Tt (List.mem_of_getElem? hf) _ hb) (HX (List.mem_of_getElem? lN) eG)
end
section
variable {B:Nat} {E:Ex} {w0 w w':World} {G G':Gh} {N:Nat} {h h':Nat->Option aq} {used:Nat->Bool}
variable {P:Program} {T:aN} {a:Act} {σ σ':St} {Q:Exit->Act->World->Prop}
theorem PZ {α:Type}:∀{s:List (Option Mode)} {xs:List α} {x:Mode×α},x∈fi s xs->x.2∈xs
 |some m::fs,y::xs,x,h=>by
  simp only[fi,List.mem_cons] at h;rcases h with rfl|h
  ·simp
  ·exact List.mem_cons_of_mem _ (PZ h)
 |none::fs,y::xs,x,h=>by
  simp only[fi] at h;exact List.mem_cons_of_mem _ (PZ h)
 |[],_,x,h=>by simp[fi] at h
 |some m::fs,[],x,h=>by simp[fi] at h
 |none::fs,[],x,h=>by simp[fi] at h
theorem PX {α:Type}:∀{sig:aM} {tM:List (List α)} {x:Mode×α},x∈eZ sig tM->∃xs∈tM,x.2∈xs
 |s::sig,xs::tM,x,h=>by
  simp only[eZ,List.mem_append] at h;rcases h with h|h
  ·exact⟨xs,by simp,PZ h⟩
  ·obtain⟨ys,h1,h2⟩:=PX h;exact⟨ys,by simp[h1],h2⟩
 |[],_,x,h=>by simp[eZ] at h
 |s::sig,[],x,h=>by simp[eZ] at h
theorem JI {fl:List (Mode×PC)} (fN:∀x∈fl,zA w x.1 x.2) (hg:∀x∈fl,Good w x.2):∀(c:Nat) (fs:List (Option Mode)) (ps:List PC),(∀(q:Nat) (x:Mode×PC),(fi fs ps)[q]? =some x->fl[c+q]? =some x)->(∀pc∈ps,Good w pc)->
  (∀pc∈ox fs ps,∀x∈fl,∀b,aX b pc->¬aX b x.2)->dh w (nP w fl) (oM fl) (iz c fs (ps.map PC.er)) (ps.map PC.val)
 |c,[],ps,hq,gp,hu=>by
  simp only[iz];refine⟨by simp,fun j x u hj n4=>?_⟩;simp only[List.getElem?_map,List.map_map] at hj n4;cases hp:ps[j]? with
  |none=>rw[hp] at hj;cases hj
  |some pc=>
   rw[hp] at hj n4;simp at hj n4;subst hj;subst n4;have hm:=List.mem_of_getElem? hp;exact⟨PC.kc pc,pc,rfl,rfl,gp pc hm,fun b hb=>⟨(gp pc hm).lt hb,fun⟨x,hx,eH⟩=>hu pc (by simpa[ox] using hm) x hx b hb eH⟩⟩
 |c,f::fs,[],hq,gp,hu=>by
  cases f<;>exact⟨rfl,by intro j c u hj;simp[iz] at hj⟩
 |c,none::fs,p::ps,hq,gp,hu=>by
  have ih:=JI fN hg c fs ps (fun q x h=>hq q x (by simpa[fi] using h)) (fun pc h=>gp pc (by simp[h])) (fun pc h=>hu pc (by simp[ox,h]));simp only[List.map_cons,iz];refine⟨by simp[ih.1],fun j x u hj n4=>?_⟩;cases j with
  |zero=>
   simp at hj n4;subst hj;subst n4;exact⟨PC.kc p,p,rfl,rfl,gp p (by simp),fun b hb=>⟨(gp p (by simp)).lt hb,fun⟨x,hx,eH⟩=>hu p (by simp[ox]) x hx b hb eH⟩⟩
  |succ j=>exact ih.2 j x u (by simpa using hj) (by simpa using n4)
 |c,some m::fs,p::ps,hq,gp,hu=>by
  have h0:=hq 0 (m,p) (by simp[fi]);simp only[Nat.add_zero] at h0;have rW:=List.mem_of_getElem? h0;obtain⟨sz,a,cap,xs,e,eR,ni,v8⟩:=(fN _ rW).eI;simp only at e;subst e;have ih:=JI fN hg (c+1) fs ps (fun q x h=>by have:=hq (q+1) x (by simpa[fi] using h);rwa[show c+(q+1)=c+1+q by omega] at this) (fun pc h=>gp pc (by simp[h])) (fun pc h=>hu pc (by simpa[ox] using h));simp only[List.map_cons,PC.d9,iz];refine⟨by simp[ih.1],fun j x u hj n4=>?_⟩;cases j with
  |zero=>
   simp at hj n4;subst hj;subst n4;refine⟨PC.kc _,fun _=>?_⟩;have F8:(nP w fl).g (aW+c)=pU (.list sz a cap xs):=by simp only[nP,Nat.add_sub_cancel_left,h0]
   rw[F8];rcases(hg _ rW).cases with rfl|⟨aF,gF,b,o,rfl⟩
   ·rw[D3];exact .inl ⟨rfl,rfl,rfl,rfl⟩
   ·rw[yS aF];exact .inr ⟨rfl,some (ad b o),by simp[PC.val],by simpa using gF,fun _=>by simp⟩
  |succ j=>exact ih.2 j x u (by simpa using hj) (by simpa using n4)
theorem WC {fl:List (Mode×PC)} (fN:∀x∈fl,zA w x.1 x.2) (hg:∀x∈fl,Good w x.2) {c:Nat} {s:List (Option Mode)} {d:Dv} {v:Value} {p:PA} (hA:vj w d v p)
  (hq:∀(q:Nat) (x:Mode×PC),(fi s p.ps)[q]? =some x->fl[c+q]? =some x) (hu:∀pc∈ox s p.ps,∀x∈fl,∀b,aX b pc->¬aX b x.2) (hp:p.k=.ptr->yW s p.ps.length/\∀x∈fl,¬aX p.b x.2):
  RA w (nP w fl) (oM fl) (qi c s d) v:=by
 obtain⟨k,ps,b,o⟩:=p;obtain⟨rfl,gp,hv⟩:=hA;cases k with
 |one=>
  have hv:ps.map PC.val=[v]:=hv;have hl:=JI fN hg c s ps hq gp hu;rw[hv] at hl;simp only[qi];obtain⟨x,hx⟩:∃x,iz c s (ps.map PC.er)=[x]:=by
   have:=hl.1;match hh:iz c s (ps.map PC.er),this with
   |[x],_=>exact⟨x,rfl⟩
  rw[hx] at hl⊢;exact .inr hl
 |agg=>
  have hv:v=.agg (ps.map PC.val).toArray:=hv;exact⟨_,hv,JI fN hg c s ps hq gp hu⟩
 |ptr=>
  obtain⟨h1,h2,h3⟩:v=.pointer (some (ad b o))/\b<w.heap.size/\∀j c,ps[j]? =some c->w.cell? (ad b (o+j))=some c.val:=hv;obtain⟨hs,wv⟩:=hp rfl;subst h1;rcases hs with rfl|⟨j,hj,rfl⟩
  rotate_left
  ·obtain⟨qs,q,rfl⟩:∃qs q,ps=qs++[q]:=⟨ps.dropLast,ps.getLast (by intro e;rw[e] at hj;simp at hj),(List.dropLast_concat_getLast _).symm⟩;have jT:qs.length=j:=by
    have:(qs++[q]).length=j+1:=hj;rw[List.length_append] at this;simpa using this
   subst jT;rw[X9] at hq;rw[agC] at hu;have h0:=hq 0 (.aO,q) rfl;rw[Nat.add_zero] at h0;have rW:=List.mem_of_getElem? h0;obtain⟨sz,a,cap,xs,e,eR,ni,v8⟩:=(fN _ rW).eI;simp only at e;subst e;have e1:qi c (List.replicate qs.length none++[some .aO]) (K.ptr,(qs++[PC.list sz a cap xs]).map PC.er)=.one (.cE ((qs++[PC.list sz a cap xs]).map PC.er) 0 qs.length (aW+c) sz xs.length):=by
    have aF:List.replicate qs.length (none:Option Mode)++[some .aO]≠[]:=by simp
    simp only[qi,Fa];split
    ·rename_i hh;exact absurd hh aF
    ·simp[PC.d9]
   rw[e1];have rU:=h3 qs.length (PC.list sz a cap xs) (by simp);refine RA.fz rfl ⟨b,o,qs++[PC.list sz a cap xs],by simp,rfl,⟨h2,fun⟨x,hx,eH⟩=>wv x hx eH⟩,fun i c' iv hi=>?_,_,rU,PC.kc _,fun _=>?_⟩
   ·have hi':qs[i]? =some c':=by
     by_cases cj:i<qs.length
     ·rwa[List.getElem?_append_left cj] at hi
     ·have:=(List.getElem?_eq_some_iff.1 hi).1;rw[List.length_append] at this;simp at this;omega
    have hm:=List.mem_of_getElem? hi';have bL:c'∈qs++[PC.list sz a cap xs]:=List.mem_append_left _ hm;exact⟨h3 i c' hi,gp c' bL,fun b' aJ=>⟨(gp c' bL).lt aJ,fun⟨x,hx,eH⟩=>hu c' hm x hx b' aJ eH⟩⟩
   ·have F8:(nP w fl).g (aW+c)=pU (.list sz a cap xs):=by simp only[nP,Nat.add_sub_cancel_left,h0]
    rw[F8];rcases(hg _ rW).cases with rfl|⟨aF,gF,b,o,rfl⟩
    ·rw[D3];exact .inl ⟨rfl,rfl,rfl,rfl⟩
    ·rw[yS aF];exact .inr ⟨rfl,some (ad b o),by simp[PC.val],by simpa using gF,fun _=>by simp⟩
  refine RA.fz rfl ⟨b,o,ps,by simp,rfl,⟨h2,fun⟨x,hx,eH⟩=>wv x hx eH⟩,fun j c hj=>?_⟩;have hm:=List.mem_of_getElem? hj;exact⟨h3 j c hj,gp c hm,fun b' aJ=>⟨(gp c hm).lt aJ,fun⟨x,hx,eH⟩=>hu c (by simpa[ox] using hm) x hx b' aJ eH⟩⟩
theorem RO {fl:List (Mode×PC)} (fN:∀x∈fl,zA w x.1 x.2) (hg:∀x∈fl,Good w x.2):∀(ds:List Dv) (k c:Nat) (sig:aM) (vals:List Value) (pas:List PA),vals.length=ds.length->pas.length=ds.length->
  (∀(i:Nat) (d:Dv) (v:Value) (p:PA),ds[i]? =some d->vals[i]? =some v->pas[i]? =some p->vj w d v p)->(∀(q:Nat) (x:Mode×PC),(eZ sig (pas.map (·.ps)))[q]? =some x->fl[c+q]? =some x)->
  (∀pc∈me sig (pas.map (·.ps)),∀x∈fl,∀b,aX b pc->¬aX b x.2)->(∀p∈pas,p.k=.ptr->∀x∈fl,¬aX p.b x.2)->(∀(i:Nat) (p:PA) (s:List (Option Mode)),pas[i]? =some p->sig[i]? =some s->p.k=.ptr->yW s p.ps.length)->
  ∀s,RA w (nP w fl) (oM fl) (nk k c sig ds s) (if k<=s then vals.getD (s - k) undef else undef)
 |[],k,c,sig,vals,pas,l1,l2,hA,hq,hu,hp,hs,s=>by simp only[nk];exact Or.inl rfl
 |d::ds,k,c,sig,v::vals,p::pas,l1,l2,hA,hq,hu,hp,hs,s=>by
  have l1':vals.length=ds.length:=by simpa using l1
  have l2':pas.length=ds.length:=by simpa using l2
  have A0:=hA 0 d v p rfl rfl rfl;have A1:=fun i d' v' p' (h1:ds[i]? =some d') (h2:vals[i]? =some v') (h3:pas[i]? =some p')=>hA (i+1) d' v' p' (by simpa using h1) (by simpa using h2) (by simpa using h3);have gp:=A0.2.1;have hd2:d.2=p.ps.map PC.er:=by rw[A0.1]
  have shift:∀x:aj,(s≠k->RA w (nP w fl) (oM fl) x (if k+1<=s then vals.getD (s - (k+1)) undef else undef))->s≠k->RA w (nP w fl) (oM fl) x (if k<=s then(v::vals).getD (s - k) undef else undef):=by
   intro x hx wA;have:=hx wA;by_cases hk:k+1<=s
   ·rw[if_pos hk] at this;rw[if_pos (by omega),show s - k=(s - (k+1))+1 by omega];simpa using this
   ·rw[if_neg hk] at this;rw[if_neg (by omega)];exact this
  cases sig with
  |nil=>
   simp only[nk];by_cases wA:s=k
   ·subst wA;rw[bO,if_pos (Nat.le_refl _)];simp only[Nat.sub_self,List.getD_cons_zero];refine WC fN hg A0 (fun q x h=>by simp[fi] at h) (fun pc bg=>hu pc ?_) (fun e=>⟨.inl rfl,hp p (by simp) e⟩);simp only[ox] at bg;simp[me,bg]
   ·rw[cJ _ _ _ _ wA];refine shift _ (fun _=>RO fN hg ds (k+1) c [] vals pas l1' l2' A1 (fun q x h=>by simp[eZ] at h) (fun pc bg=>hu pc ?_) (fun p bC=>hp p (by simp[bC])) (fun i p s _ h=>by simp at h) s) wA;simp only[me] at bg;simp only[List.map_cons,me,List.flatten_cons,List.mem_append];exact .inr bg
  |cons sg sig=>
   simp only[nk];have hlen:(fi sg d.2).length=(fi sg p.ps).length:=by rw[hd2,Kq,List.length_map]
   by_cases wA:s=k
   ·subst wA;rw[bO,if_pos (Nat.le_refl _)];simp only[Nat.sub_self,List.getD_cons_zero];refine WC fN hg A0 (fun q x h=>hq q x ?_) (fun pc bg=>hu pc ?_) (fun e=>⟨hs 0 p sg rfl rfl e,hp p (by simp) e⟩)
    ·simp only[List.map_cons,eZ];rw[List.getElem?_append_left (List.getElem?_eq_some_iff.1 h).1];exact h
    ·simp only[List.map_cons,me,List.mem_append];exact .inl bg
   ·rw[cJ _ _ _ _ wA];refine shift _ (fun _=>RO fN hg ds (k+1) (c+(fi sg d.2).length) sig vals pas l1' l2' A1 (fun q x h=>?_) (fun pc bg=>hu pc ?_) (fun p bC=>hp p (by simp[bC])) (fun i p s h1 h2=>hs (i+1) p s (by simpa using h1) (by simpa using h2)) s) wA
    ·have:=hq ((fi sg p.ps).length+q) x (by
      simp only[List.map_cons,eZ];rw[List.getElem?_append_right (Nat.le_add_right _ _),Nat.add_sub_cancel_left];exact h)
     rw[hlen,Nat.add_assoc];exact this
    ·simp only[List.map_cons,me,List.mem_append];exact .inr bg
 |_::_,k,c,sig,[],pas,l1,l2,hA,hq,hu,hp,hs,s=>by simp at l1
 |_::_,k,c,sig,_::_,[],l1,l2,hA,hq,hu,hp,hs,s=>by simp at l2
theorem WD {c:Nat} {s:List (Option Mode)} {d:Dv} {m:Nat} (h:(qi c s d).ref m):aW<=m:=by
 have db:∀(cs:List C) (c:Nat) (s:List (Option Mode)),∀x∈iz c s cs,x.ref m->aW<=m:=by
  intro cs;induction cs with
  |nil=>
   intro c s x hx;cases s with
   |nil=>simp[iz] at hx
   |cons f fs=>cases f<;>simp[iz] at hx
  |cons y cs ih=>
   intro c s x hx hr;cases s with
   |nil=>
    simp only[iz,List.mem_map] at hx;obtain⟨z,_,rfl⟩:=hx;exact absurd hr id
   |cons f fs=>
    cases f with
    |none=>
     simp only[iz,List.mem_cons] at hx;rcases hx with rfl|hx
     ·exact absurd hr id
     ·exact ih _ _ _ hx hr
    |some md=>
     cases y with
     |list sz xs=>
      simp only[iz,List.mem_cons] at hx;rcases hx with rfl|hx
      ·have hr:m=aW+c:=hr;omega
      ·exact ih _ _ _ hx hr
     |int k n=>
      simp only[iz,List.mem_cons] at hx;rcases hx with rfl|hx
      ·exact absurd hr id
      ·exact ih _ _ _ hx hr
     |bool b=>
      simp only[iz,List.mem_cons] at hx;rcases hx with rfl|hx
      ·exact absurd hr id
      ·exact ih _ _ _ hx hr
 obtain⟨k,xs⟩:=d;cases k with
 |one=>
  simp only[qi] at h;match hh:iz c s xs,h with
  |[],h=>exact absurd h id
  |[x],h=>exact db xs c s x (by rw[hh];simp) h
  |_::_::_,h=>exact absurd h id
 |agg=>
  obtain⟨x,hx,hr⟩:=h;exact db xs c s x hx hr
 |ptr=>
  simp only[qi,Fa] at h;split at h
  ·exact absurd h id
  ·split at h
   ·have h':m=aW+c:=h;omega
   ·exact absurd h id
theorem RP:∀{ds:List Dv} {k c:Nat} {sig:aM} {s m:Nat},(nk k c sig ds s).ref m->aW<=m
 |[],k,c,sig,s,m,h=>by simp only[nk] at h;exact absurd h id
 |d::ds,k,c,[],s,m,h=>by
  simp only[nk,j8] at h;split at h
  ·exact WD h
  ·exact RP h
 |d::ds,k,c,sg::sig,s,m,h=>by
  simp only[nk,j8] at h;split at h
  ·exact WD h
  ·exact RP h
theorem R.RS {sig:aM} {ds:List Dv} {vals:List Value} {pas:List PA} (M:xA w sig ds vals pas) (hN:ds.length<=N):
  R w.heap.size (zY (eZ sig (pas.map (·.ps)))) w N (DD sig ds) {tmps:=vals.toArray++Array.replicate (N - vals.toArray.size) undef,defers:=[]} w (nP w (eZ sig (pas.map (·.ps)))):=by
 have jS:ds.map (·.2)=(pas.map (·.ps)).map fun l=>l.map PC.er:=by
  apply List.ext_getElem?;intro i;simp only[List.getElem?_map];cases hd:ds[i]? with
  |none=>
   have:ds.length<=i:=List.getElem?_eq_none_iff.1 hd;rw[List.getElem?_eq_none (by rw[M.l2];exact this)];rfl
  |some d=>
   have hi:=(List.getElem?_eq_some_iff.1 hd).1;have hv:vals[i]? =some (vals[i]'(by rw[M.l1];exact hi)):=List.getElem?_eq_getElem _;have hp:pas[i]? =some (pas[i]'(by rw[M.l2];exact hi)):=List.getElem?_eq_getElem _;have:=(M.at_ i d _ _ hd hv hp).1;rw[hp];simp only[Option.map_some];rw[this]
 have gp:∀p∈pas,∀pc∈p.ps,Good w pc:=by
  intro p hp pc bg;obtain⟨i,hi,rfl⟩:=List.getElem_of_mem hp;have hd:ds[i]? =some (ds[i]'(by rw[<-M.l2];exact hi)):=List.getElem?_eq_getElem _;have hv:vals[i]? =some (vals[i]'(by rw[M.l1,<-M.l2];exact hi)):=List.getElem?_eq_getElem _;exact(M.at_ i _ _ _ hd hv (List.getElem?_eq_getElem hi)).2.1 pc bg
 have hg:∀x∈eZ sig (pas.map (·.ps)),Good w x.2:=by
  intro x hx;obtain⟨l,hl,qH⟩:=PX hx;obtain⟨p,hp,rfl⟩:=List.mem_map.1 hl;exact gp p hp _ qH
 have De:(DD sig ds).h=oM (eZ sig (pas.map (·.ps))):=by
  funext n;simp only[DD,oM,jS,Kp]
 refine⟨rfl,by simp[M.l1];omega,fun s=>?_,fun s n hn=>Nat.ble_eq_true_of_le (RP hn),?_,Fr.refl _ _ _ (Nat.le_refl _),fun n p b hp hb=>?_,fun n hn=>Nat.ble_eq_true_of_le hn⟩
 ·rw[De];have:=RO M.ok hg ds 0 0 sig vals pas M.l1 M.l2 M.at_ (fun q x h=>by rw[Nat.zero_add];exact h) M.free M.ptr M.aqx s;simp only[Nat.zero_le,if_true,Nat.sub_zero] at this;have e:(vals.toArray++Array.replicate (N - vals.toArray.size) undef).getD s undef=vals.getD s undef:=by
   simp only[Array.getD_eq_getD_getElem?,List.getD_eq_getElem?_getD];by_cases cj:s<vals.length
   ·simp[Array.getElem?_append,cj]
   ·rw[List.getElem?_eq_none (by omega)];simp only[Array.getElem?_append,List.size_toArray,cj,if_false,Array.getElem?_replicate];split<;>rfl
  rw[e];exact this
 ·rw[De];exact HR.RS hg M.ok M.oI
 ·rw[De] at hb;obtain⟨yj,m,sz,a,cap,xs,hf,e⟩:=rS hb;have bC:(if aW<=n then((eZ sig (pas.map (·.ps)))[n - aW]?).map (fun x=>pU x.2) else none)=some p:=hp
  rw[if_pos yj,hf] at bC;simp at bC;subst bC;have F8:(nP w (eZ sig (pas.map (·.ps)))).g n=pU (.list sz a cap xs):=by simp only[nP,hf]
  rw[F8];exact⟨rfl,rfl,rfl,rfl,rfl,fun gr aH ar _ k j pc hk hL=>⟨pc,hk,rfl,hL⟩⟩
theorem SY:∀{fl:List (Mode×C)} {q:Nat} {dW:List C},yP σ q fl=some dW->dW.length=fl.length/\∀i x,fl[i]? =some x->∃o,dW[i]? =some o/\DX σ (q+i) x=some o
 |[],q,dW,h=>by simp only[yP] at h;injection h with h;subst h;exact⟨rfl,by simp⟩
 |y::l,q,dW,h=>by
  simp only[yP] at h;split at h
  ·rename_i o os h1 h2;injection h with h;subst h;obtain⟨i1,i2⟩:=SY h2;refine⟨by simp[i1],fun i x hx=>?_⟩;cases i with
   |zero=>simp at hx;subst hx;exact⟨o,rfl,h1⟩
   |succ i=>
    obtain⟨o',e1,e2⟩:=i2 i x (by simpa using hx);exact⟨o',by simpa using e1,by rw[show q+(i+1)=q+1+i by omega];exact e2⟩
  ·cases h
theorem aqH {q:Nat} {x:Mode×C} {o:C} (h:DX σ q x=some o):∃sz xs gr ar,x.2=.list sz xs/\σ.h (aW+q)=some (.row gr x.1 sz ar)/\ar.length=xs.length/\uu x.1 ar=true/\ar.map (fun e=>e.map C.sa)=xs.map (fun e=>e.map C.sa)/\o=.list sz ar:=by
 unfold DX at h;split at h
 ·rename_i sz xs gr m' aH ar h1 h2;split at h
  ·rename_i hc;obtain⟨rfl,rfl,h3,h4,h5⟩:=hc;injection h with h;exact⟨_,xs,gr,ar,h1,h2,h3,h4,h5,h.symm⟩
  ·cases h
 ·cases h
theorem ah6 {px:List (List PC)} (hd:(px.map fun e=>e.map PC.er).all (fun e=>e.all C.uq)=true) {k j:Nat} {c:PC} (hk:At px k j c):∀sz a cap ys,c=.list sz a cap ys->∀b,¬bf b ys:=by
 rintro sz a cap ys rfl b;obtain⟨e,he,hj⟩:=hk;simp only[List.all_eq_true,List.mem_map] at hd;have h1:=hd (e.map PC.er) ⟨e,List.mem_of_getElem? he,rfl⟩ (PC.er (.list sz a cap ys)) (List.mem_map.2 ⟨_,List.mem_of_getElem? hj,rfl⟩);rw[PC.d9] at h1;exact vd h1 b
theorem PC.alW (c:PC):c.er.sa=c.ie:=by
 cases c with
 |int k n=>rfl
 |bool b=>rfl
 |list sz a cap xs=>rw[PC.d9];rfl
theorem as6 {px px':List (List PC)} (hs:(px'.map fun e=>e.map PC.er).map (fun e=>e.map C.sa)=(px.map fun e=>e.map PC.er).map (fun e=>e.map C.sa)) {k j:Nat} {c:PC} (hk:At px' k j c):
  ∃c0,At px k j c0/\c0.ie=c.ie:=by
 obtain⟨e,he,hj⟩:=hk;have h1:=congrArg (fun l=>l[k]?) hs;simp only[List.getElem?_map,he,Option.map_some] at h1;cases h0:px[k]? with
 |none=>rw[h0] at h1;cases h1
 |some e0=>
  rw[h0] at h1;simp only[Option.map_some,Option.some.injEq] at h1;have h2:=congrArg (fun l=>l[j]?) h1;simp only[List.getElem?_map,hj,Option.map_some] at h2;cases h3:e0[j]? with
  |none=>rw[h3] at h2;cases h2
  |some c0=>
   rw[h3] at h2;simp only[Option.map_some,Option.some.injEq,PC.alW] at h2;exact⟨c0,⟨e0,h0,h3⟩,h2.symm⟩
theorem At.inj {α:Type} {px:List (List α)} {k j:Nat} {c c':α} (h:At px k j c) (h':At px k j c'):c=c':=by
 obtain⟨e,h1,h2⟩:=h;obtain⟨e',h3,h4⟩:=h';rw[h1] at h3;injection h3 with h3;subst h3;rw[h2] at h4;injection h4
theorem abg {px px':List (List PC)} (hd:(px.map fun e=>e.map PC.er).all (fun e=>e.all C.uq)=true)
  (hl:∀k j pc,At px k j pc->pc.ie=true->∃dv,At px' k j dv/\dv.val=pc.val/\dv.ie=true) {b:Nat} (hb:bf b px):bf b px':=by
 obtain⟨k,j,c,hk,hc⟩:=hb;cases c with
 |int k n=>exact absurd hc aX.aqz
 |bool x=>exact absurd hc aX.aqy
 |list sz a cap ys=>
  have v8:=ah6 hd hk sz a cap ys rfl;rw[aX.kN] at hc;rcases hc with⟨aF,o,rfl⟩|⟨k',j',c',bJ,dm⟩
  ·obtain⟨c',h1,h2,h3⟩:=hl k j _ hk rfl;cases c' with
   |int k n=>cases h3
   |bool x=>cases h3
   |list aH a' pt ys'=>
    simp only[PC.val] at h2;injection h2 with e1 e2 e3;subst e1;refine⟨k,j,_,h1,?_⟩;rw[aX.kN];refine .inl ⟨fun Q3=>?_,o,rfl⟩;subst Q3;exact aF (List.eq_nil_of_length_eq_zero e2.symm)
  ·exact absurd ⟨k',j',c',bJ,dm⟩ (v8 b)
end
section
variable {B:Nat} {E:Ex} {w0 w w':World} {G G':Gh} {N:Nat} {h h':Nat->Option aq} {used:Nat->Bool}
variable {P:Program} {T:aN} {a:Act} {σ σ':St} {Q:Exit->Act->World->Prop}
theorem wO {n:Nat} {b:aq} (hn:σ.kP.h n=some b):¬aW<=n/\σ.h n=some b:=by
 unfold St.kP at hn;simp only at hn;split at hn
 ·cases hn
 ·rename_i h;exact⟨h,hn⟩
theorem DT {n:Nat} (hn:σ.kP.h n≠none):¬aW<=n/\σ.h n≠none:=by
 cases h:σ.kP.h n with
 |none=>exact absurd h hn
 |some b=>obtain⟨a,e⟩:=wO h;exact⟨a,by rw[e];simp⟩
theorem bk.kP (u:Nat->Prop):bk w G σ.h u w G σ.kP.h:=
 ⟨fun _ h=>h,fun _ _ _=>rfl,fun n _ hn=>⟨(DT hn).2,rfl,rfl,rfl,rfl,rfl⟩,fun n gr sz xs _ hn=>⟨⟨gr,xs,(wO hn).2⟩,fun k j pc h1 h2=>⟨pc,h1,rfl,h2⟩⟩⟩
theorem R.kP (r:R B E w0 N σ a w G) (hE:∀b,E b->∃n gr m sz xs,aW<=n/\σ.h n=some (.row gr m sz xs)/\m≠ .aI/\oK G n b/\(m=.aO->¬bf b (G.g n).px)):
  R B Ex.no w N σ.kP a w G:=by
 have H:=r.hr;have K:bk w G σ.h (fun n=>σ.used n=true) w G σ.kP.h:=bk.kP _;have big:∀n,¬aW<=n->σ.h n≠none->(G.g n).nl=false->¬E (G.g n).b:=by
  intro n hn h0 hl hb;obtain⟨q,gr,m,sz,xs,hq,h1,h2,h3,h4⟩:=hE _ hb;have aF:n≠q:=fun e=>hn (e▸hq);have mG:σ.h q≠none:=by rw[h1];simp
  rcases h3 with⟨l,e⟩|h3
  ·exact H.inj n q h0 mG aF hl l e
  ·cases m with
   |aI=>exact h2 rfl
   |aO=>exact h4 rfl h3
   |live=>exact H.live q gr sz xs h1 _ h3 n h0 hl rfl
 have WM:∀n gr m sz xs,¬aW<=n->σ.h n=some (.row gr m sz xs)->m≠ .aI->∀b,bf b (G.g n).px->¬E b:=by
  intro n gr m sz xs hn h0 hm b hb he;obtain⟨q,bn,m',aH,ar,hq,h1,h2,h3,h4⟩:=hE _ he;have aF:n≠q:=fun e=>hn (e▸hq);exact H.Zv aF h0 h1 hm h2 (.inr hb) h3
 refine⟨r.defers,r.size,fun s=>(r.env s).fP K fun m hm=>r.pg s m hm,r.pg,?_,Fr.refl _ _ _ r.fr.size,fun n p b hp=>(by cases hp),r.u7⟩;refine⟨fun n hn=>H.ji n (DT hn).2,fun m cs c n hm hc hr=>H.iq m cs c n (wO hm).2 hc hr,fun n cs hn=>?_,fun n gr m sz xs hn=>?_,fun n hn hl=>?_,fun n n' hn bu=>H.inj n n' (DT hn).2 (DT bu).2,
  H.gC,fun b _=>.inr (.inr trivial),fun n n' gr m sz xs bn m' aH ar hn bu=>H.gn n n' gr m sz xs bn m' aH ar (wO hn).2 (wO bu).2,fun n gr sz xs hn b hb n' bu=>H.live n gr sz xs (wO hn).2 b hb n' (DT bu).2,?_,?_,?_⟩
 ·obtain⟨a1,a2,a3⟩:=H.box n cs (wO hn).2;refine⟨a1,a2,fun j c hj=>?_⟩;obtain⟨v,b1,b2,b3⟩:=a3 j c hj;exact⟨v,b1,b2,b3.fP K fun q hq=>H.iq n cs c q (wO hn).2 (List.mem_of_getElem? hj) hq⟩
 ·obtain⟨hp,h0⟩:=wO hn;have hr:=H.row n gr m sz xs h0;refine⟨hr.pos,hr.er,hr.nl,hr.eI,hr.room,?_,hr.nr⟩;have hm:=hr.mode;cases m with
  |aI=>exact hm
  |aO=>exact⟨fun b hb=>⟨(hm.1 b hb).1,(hm.1 b hb).2.1,(hm.1 b hb).2.2.imp id fun he=>absurd he (WM n gr .aO sz xs hp h0 (by simp) b hb)⟩,hm.2⟩
  |live=>exact⟨fun b hb=>⟨(hm.1 b hb).1,(hm.1 b hb).2.1,(hm.1 b hb).2.2.imp id fun he=>absurd he (WM n gr .live sz xs hp h0 (by simp) b hb)⟩,hm.2⟩
 ·obtain⟨hp,h0⟩:=DT hn;obtain⟨o1,o2,o3⟩:=H.own n h0 hl;exact⟨o1,o2.imp id fun he=>absurd he (big n hp h0 hl),o3⟩
 ·intro i pc hi;simp at hi
 ·intro i j pc dv b _ hi;simp at hi
 ·intro i pc n gr m sz xs b hi;simp at hi
theorem aku {m:Mode} {px:List (List PC)} (hf:uu m (px.map fun e=>e.map PC.er)=true):(m=.aO->∀b,¬bf b px)/\m≠ .aI/\(m=.live->(px.map fun e=>e.map PC.er).all (fun e=>e.all C.uq)=true):=by
 cases m with
 |aI=>cases hf
 |aO=>exact⟨fun _ b=>vd hf b,(by simp),fun h=>(by cases h)⟩
 |live=>exact⟨fun h=>(by cases h),(by simp),fun _=>hf⟩
theorem Wt {fl:List (Mode×PC)} (fN:∀x∈fl,zA w0 x.1 x.2) (hg:∀x∈fl,Good w0 x.2) (r:R B (zY fl) w0 N σ a w G) {dW:List C} (ho:yP σ 0 (fl.map fun x=>(x.1,x.2.er))=some dW)
  {i:Nat} {x:Mode×PC} (hx:fl[i]? =some x):∃q o,dW[i]? =some o/\q.er=o/\tZ w x.1 x.2 q/\
   ∃gr sz xs,σ.h (aW+i)=some (.row gr x.1 sz xs)/\(∀b,aX b x.2->oK G (aW+i) b)/\(x.1=.aO->∀b,¬bf b (G.g (aW+i)).px)/\x.1≠ .aI:=by
 obtain⟨m,pc⟩:=x;have rW:=List.mem_of_getElem? hx;obtain⟨o1,o2⟩:=SY ho;obtain⟨o,e1,e2⟩:=o2 i (m,pc.er) (by rw[List.getElem?_map,hx];rfl);rw[Nat.zero_add] at e2;obtain⟨sz,xs,gr,ar,f1,f2,f3,f4,f5,rfl⟩:=aqH e2;have ok:=fN _ rW;have akV:=hg _ rW;obtain⟨sH,a0,cap,A9,rfl,eR,ni,v8⟩:=ok.eI;simp only[PC.d9] at f1;injection f1 with f1a f1b;subst f1a;subst f1b;have hr:=r.hr.row _ gr m sH ar f2;have oP:(zY fl).oV (aW+i)=some (pU (.list sH a0 cap A9)):=by
  show(if aW<=aW+i then(fl[aW+i - aW]?).map (fun x=>pU x.2) else none)=_
  rw[if_pos (Nat.le_add_right _ _),Nat.add_sub_cancel_left,hx];rfl
 obtain⟨p1,p2,p3,p4,p6,p5⟩:=r.oV _ _ _ oP f2;have Dd:ar=(G.g (aW+i)).px.map fun e=>e.map PC.er:=hr.er;have Ko:=f4;simp only at Ko;rw[Dd] at Ko;obtain⟨q1,q2,q3⟩:=aku Ko;have hlen:(G.g (aW+i)).px.length=A9.length:=by
  have:=f3;rw[Dd] at this;simpa using this
 have aak:iM (G.g (aW+i)).px:=by
  have hm:=hr.mode;cases m with
  |aI=>exact absurd rfl q2
  |aO=>exact hm.2
  |live=>exact hm.2
 have aF:σ.h (aW+i)≠none:=by rw[f2];simp
 rcases akV.cases with rfl|⟨fC,gF,b,o,rfl⟩
 ·have aai:(G.g (aW+i)).px=[]:=List.eq_nil_of_length_eq_zero (by rw[hlen];rfl);refine⟨.list sH a0 cap [],_,e1,(by rw[PC.d9,Dd,aai]),⟨rfl,.nil _ _ _ eR,ok.sep,fun _ h=>h,?_,?_⟩,gr,sH,ar,f2,fun b' aJ=>?_,fun hm b' aJ=>q1 hm b' aJ,q2⟩
  ·simp only[PC.d9];rw[Dd,aai] at f4;exact f4
  ·intro sz a cap xs aH a' pt gx x5 v5;have v5:=x5.symm.trans v5;injection v5 with h1 h2 h3 h4;refine⟨h1.symm,h2.symm,h3.symm,by rw[h4],fun _ k j c hk hL=>?_⟩;injection x5 with _ _ _ h5;subst h5;obtain⟨e,he,_⟩:=hk;simp at he
  ·rw[aX.kN] at aJ;rcases aJ with⟨aJ,_⟩|⟨k,j,c,⟨e,he,_⟩,_⟩
   ·exact absurd rfl aJ
   ·simp at he
 ·have wi:m=.live->∀k j c,At A9 k j c->c.ie=true->∃c',At (G.g (aW+i)).px k j c'/\c'.val=c.val/\c'.ie=true:=by
   rintro rfl k j c hk hL;rw[yS fC] at p5;exact p5 gr sH ar rfl k j c hk hL
  rw[yS fC] at p1 p2 p3 p4;simp only at p1 p2 p3 p4;obtain⟨l1,l2,l3⟩:=hr.eI p1;rw[p2] at l1 l2;rw[p3] at l2;rw[p4] at l3;have alq:(G.g (aW+i)).px≠[]:=by
   intro h0;rw[h0] at hlen;exact fC (List.eq_nil_of_length_eq_zero hlen.symm)
  have fW:Good w (.list sH (some (ad b o)) cap (G.g (aW+i)).px):=.cons _ _ _ _ _ alq l3 eR l2.1 l2.2.1 l2.2.2;have alw:¬bf b (G.g (aW+i)).px:=by
   intro hb;cases m with
   |aI=>exact q2 rfl
   |aO=>exact q1 rfl b hb
   |live=>exact r.hr.live _ gr sH ar f2 b hb _ aF p1 p2.symm
  have akF:m=.live->∀b',bf b' (G.g (aW+i)).px->bf b' A9:=by
   rintro rfl b' aJ;refine abg (px':=A9) (q3 rfl) (fun k j c hk hL=>?_) aJ;rw[Dd] at f5;obtain⟨c0,hk0,qt⟩:=as6 f5 hk;rw[hL] at qt;obtain⟨c1,wh,lA,hL1⟩:=wi rfl k j c0 hk0 qt;rw[At.inj wh hk] at lA;exact⟨c0,hk0,lA.symm,qt⟩
  refine⟨.list sH (some (ad b o)) cap (G.g (aW+i)).px,_,e1,by rw[PC.d9,Dd],⟨by simp only[PC.val,hlen],fW,.list _ _ _ _ aak.1 (fun b1 o1 k j c he hk FV=>?_) aak.2,fun b' aJ=>?_,?_,?_⟩,gr,sH,ar,f2,fun b' aJ=>?_,q1,q2⟩
  ·injection he with he;obtain⟨rfl,_⟩:=lf he;exact alw ⟨k,j,c,hk,FV⟩
  ·rw[aX.kN] at aJ;rcases aJ with⟨_,o',fB⟩|hF
   ·injection fB with fB;rw[<-(lf fB).1];exact .here _ _ _ _ fC
   ·cases m with
    |aI=>exact absurd rfl q2
    |aO=>exact absurd hF (q1 rfl b')
    |live=>
     obtain⟨k,j,c,hk,hc⟩:=akF rfl b' hF;exact .there _ _ _ _ k j c hk hc
  ·simp only[PC.d9];exact Ko
  ·intro sz a pt xs aH a' auq gx x5 v5;injection x5 with h1 h2 h3 h4;injection v5 with g1 g2 g3 g4;subst h1 h2 h3 h4 g1 g2 g3 g4;exact⟨rfl,rfl,rfl,hlen,wi⟩
  ·rw[aX.kN] at aJ;rcases aJ with⟨_,o',fB⟩|hF
   ·injection fB with fB;exact .inl ⟨p1,by rw[p2];exact(lf fB).1.symm⟩
   ·cases m with
    |aI=>exact absurd rfl q2
    |aO=>exact absurd hF (vd v8 b')
    |live=>exact .inr (abg v8 (wi rfl) hF)
theorem ao5 (hT:kg P T) (hm:P.follows .mixedOrders=true) {f:FuncId} {fn:Func} {c:Code} {mc:lG} {ms:List bz} {sig:aM} {M:List Dv->Option (List Dv×List C)} (hf:P.funcs[f]? =some fn) (hb:fn.body=some c)
  (hc:jg P fn.ntmps c mc=true) (hr:m4 P fn.results.toList ms=true) (hM:∀ds rs dW,M ds=some (rs,dW)->ds.length<=fn.ntmps/\Mg T mc ms sig ds=some (rs,dW)):rr P f sig M:=by
 intro ds rs dW jS w vals pas ha;obtain⟨hN,bR⟩:=hM ds rs dW jS;refine calls_of_wp hf hb ?_;have r0:=R.RS (N:=fn.ntmps) ha hN;have gp:∀p∈pas,∀pc∈p.ps,Good w pc:=by
  intro p hp pc bg;obtain⟨i,hi,rfl⟩:=List.getElem_of_mem hp;have hd:ds[i]? =some (ds[i]'(by rw[<-ha.l2];exact hi)):=List.getElem?_eq_getElem _;have hv:vals[i]? =some (vals[i]'(by rw[ha.l1,<-ha.l2];exact hi)):=List.getElem?_eq_getElem _;exact(ha.at_ i _ _ _ hd hv (List.getElem?_eq_getElem hi)).2.1 pc bg
 have hg:∀x∈eZ sig (pas.map (·.ps)),Good w x.2:=by
  intro x hx;obtain⟨l,hl,qH⟩:=PX hx;obtain⟨p,hp,rfl⟩:=List.mem_map.1 hl;exact gp p hp _ qH
 have akP:ds.map (·.2)=(pas.map (·.ps)).map fun l=>l.map PC.er:=by
  apply List.ext_getElem?;intro i;simp only[List.getElem?_map];cases hd:ds[i]? with
  |none=>
   have:ds.length<=i:=List.getElem?_eq_none_iff.1 hd;rw[List.getElem?_eq_none (by rw[ha.l2];exact this)];rfl
  |some d=>
   have hi:=(List.getElem?_eq_some_iff.1 hd).1;have hv:vals[i]? =some (vals[i]'(by rw[ha.l1];exact hi)):=List.getElem?_eq_getElem _;have hp:pas[i]? =some (pas[i]'(by rw[ha.l2];exact hi)):=List.getElem?_eq_getElem _;have:=(ha.at_ i d _ _ hd hv hp).1;rw[hp];simp only[Option.map_some];rw[this]
 unfold Mg at bR;rw[akP,Kp] at bR;generalize lO:eZ sig (pas.map (·.ps))=fl at bR r0 hg;have fN:=ha.ok;rw[lO] at fN;have gV:∀{σ:St} {a:Act} {w':World} {G:Gh},σ.Eb ms (fl.map fun x=>(x.1,x.2.er))=some (rs,dW)->R w.heap.size (zY fl) w fn.ntmps σ a w' G->a.defers=[]/\∃v,(results fn a.tmps).run P w'=.ok v w'/\
   ∃bq:List (K×List PC),bq.map (fun p=>(p.1,p.2.map PC.er))=rs/\(Ending.returned v)=.returned (wX bq)/\(∀p∈bq,p.1≠ .ptr/\(p.1=.one->p.2.length=1))/\
   vr w' w.heap.size (bq.flatMap (·.2))/\Fr w.heap.size (CT fl) w w'/\
   ∃qs:List PC,qs.map PC.er=dW/\qs.length=fl.length/\∀(i:Nat) (x:Mode×PC) (q:PC),fl[i]? =some x->qs[i]? =some q->tZ w' x.1 x.2 q:=by
  intro σ a w' G hx r;unfold St.Eb at hx;split at hx
  ·rename_i mP aqI e1 e2;injection hx with hx;injection hx with kI eH;subst kI eH;have hE:∀b,(zY fl) b->∃n gr m sz xs,aW<=n/\σ.h n=some (.row gr m sz xs)/\m≠ .aI/\oK G n b/\(m=.aO->¬bf b (G.g n).px):=by
    rintro b ⟨x,wD,Dp⟩;obtain⟨i,hi⟩:=List.getElem?_of_mem wD;obtain⟨q,o,_,_,_,gr,sz,xs,k1,k2,k3,k4⟩:=Wt fN hg r e2 hi;exact⟨aW+i,gr,x.1,sz,xs,Nat.le_add_right _ _,k1,k4,k2 b Dp,fun hm=>k3 hm b⟩
   obtain⟨bq,p1,p2,p3,p4⟩:=adK (r.kP hE) hr e1;obtain⟨ol,_⟩:=SY e2;have hq:∀i:Fin fl.length,∃q,aqI[i.1]? =some (PC.er q)/\tZ w' (fl[i.1]).1 (fl[i.1]).2 q:=by
    intro i;obtain⟨q,o,k1,k2,k3,_⟩:=Wt fN hg r e2 (List.getElem?_eq_getElem i.2);exact⟨q,by rw[k1,k2],k3⟩
   refine⟨r.defers,_,p2,bq,p1,rfl,p3,p4,⟨r.fr.os,r.fr.tape,r.fr.output,r.fr.size,r.fr.block,r.fr.j7⟩,List.ofFn fun i=>Classical.choose (hq i),?_,by simp,fun i x q hi nZ=>?_⟩
   ·apply List.ext_getElem?;intro i;simp only[List.getElem?_map];by_cases hi:i<fl.length
    ·rw[List.getElem?_ofFn,dif_pos hi];exact(Classical.choose_spec (hq ⟨i,hi⟩)).1.symm
    ·rw[List.getElem?_eq_none (by simp;omega),List.getElem?_eq_none (by rw[ol];simp;omega)];rfl
   ·obtain⟨hl,e⟩:=List.getElem?_eq_some_iff.1 hi;rw[List.getElem?_ofFn,dif_pos hl] at nZ;injection nZ with nZ;subst nZ;subst e;exact(Classical.choose_spec (hq ⟨i,hl⟩)).2
  ·cases hx
 split at bR
 ·rename_i σ e;exact lJ hT hm mc hc e r0 fun a w' G r=>gV bR r
 ·rename_i σ e;exact lJ hT hm mc hc e r0 fun a w' G r=>gV bR r
 ·cases bR
end
def E9:Dv->aj
 |(.one,[x])=>.one (.c x)
 |(.one,_)=>.one .bm
 |(.agg,xs)=>.agg (xs.map .c)
 |(.ptr,_)=>.one (.ptr aW 0 0 0)
def uO:Nat->List Dv->(Nat->aj)
 |_,[]=>xQ
 |k,d::ds=>ax (uO (k+1) ds) k (E9 d)
def pW:List Dv->Option (List C)
 |[]=>none
 |(.ptr,xs)::_=>some xs
 |_::ds=>pW ds
def pJ (ds:List Dv):Nat->Option aq:=fun n=>match Nat.beq n aW with
 |true=>(pW ds).map fun xs=>.box (xs.map .c)
 |false=>none
def Gy (ds:List Dv):St:={env:=uO 0 ds,h:=pJ ds,used:=fun n=>Nat.ble aW n}
theorem agF (ds:List Dv) (n:Nat) (hn:aW<=n):(Gy ds).used n=true:=Nat.ble_eq_true_of_le hn
def sx (h:Nat->Option aq):List aj->Option (List Dv)
 |[]=>some []
 |v::vs=>match v.cells? with
  |some (ag,cs)=>match iL h cs,sx h vs with
   |some xs,some ds=>some ((if ag=true then .agg else .one,xs)::ds)
   |_,_=>none
  |none=>none
def Ed (h:Nat->Option aq):List aj->Option (List Dv)
 |[v]=>match mY h v with
  |some (n,xs)=>if aW<=n then none else some [(.ptr,xs)]
  |none=>sx h [v]
 |vs=>sx h vs
def DY (h:Nat->Option aq):Option (List C)->Option (List C)
 |none=>some []
 |some xs=>match h aW with
  |some (.box cs)=>if cs.length=xs.length then kJ cs else none
  |_=>none
def St.Ec (σ:St) (ms:List bz) (ds:List Dv):Option (List Dv×List C):=
 match σ.q9 ms with
 |some vs=>match Ed σ.h vs,DY σ.h (pW ds) with
  |some rs,some out=>some (rs,out)
  |_,_=>none
 |none=>none
def Mh (T:aN) (mc:lG) (aw:List bz) (ds:List Dv):Option (List Dv×List C):=
 match eM T mc (Gy ds) with
 |some (.fD σ)=>σ.Ec aw ds
 |some (.ret σ)=>σ.Ec aw ds
 |_=>none
section
variable {B:Nat} {E:Ex} {w0 w w':World} {G G':Gh} {N:Nat} {h h':Nat->Option aq} {used:Nat->Bool}
variable {P:Program} {T:aN} {a:Act} {σ σ':St} {Q:Exit->Act->World->Prop}
theorem RQ:∀(ds:List Dv) (k n:Nat),uO k ds n=if k<=n then(match ds[n - k]? with|some d=>E9 d|none=>.one .bm) else .one .bm
 |[],k,n=>by simp[uO,xQ]
 |d::ds,k,n=>by
  simp only[uO,j8,RQ ds];by_cases h:n=k
  ·subst h;simp
  ·by_cases h2:k<=n
   ·have h3:k+1<=n:=by omega
    have h4:n - k=(n - (k+1))+1:=by omega
    simp[h,h2,h3,h4]
   ·have h3:¬k+1<=n:=by omega
    simp[h,h2,h3]
theorem Lh {ds:List Dv} {n:Nat} {b:aq} (hn:pJ ds n=some b):n=aW/\∃xs,pW ds=some xs/\b=.box (xs.map .c):=by
 unfold pJ at hn;split at hn
 ·rename_i e;have:=Nat.eq_of_beq_eq_true e;subst this;refine⟨rfl,?_⟩;cases hp:pW ds with
  |none=>rw[hp] at hn;cases hn
  |some xs=>rw[hp] at hn;injection hn with hn;exact⟨xs,rfl,hn.symm⟩
 ·cases hn
def iR:List PA->Option PA
 |[]=>none
 |p::ps=>if p.k=.ptr then some p else iR ps
theorem Fu:∀{pas:List PA} {p:PA},iR pas=some p->p∈pas/\p.k=.ptr
 |[],p,h=>by cases h
 |q::pas,p,h=>by
  unfold iR at h;split at h
  ·injection h with h;subst h;rename_i hk;exact⟨by simp,hk⟩
  ·obtain⟨h1,h2⟩:=Fu h;exact⟨by simp[h1],h2⟩
theorem J7:∀{pas:List PA},iR pas=none->∀p∈pas,p.k≠ .ptr
 |[],_,p,hp=>by cases hp
 |q::pas,h,p,hp=>by
  unfold iR at h;split at h
  ·cases h
  ·rename_i hk;cases hp with
   |head=>exact hk
   |tail _ hp=>exact J7 h p hp
theorem Tb:∀{ds:List Dv} {pas:List PA},pas.length=ds.length->(∀(i:Nat) (d:Dv) (p:PA),ds[i]? =some d->pas[i]? =some p->d=(p.k,p.ps.map PC.er))->pW ds=(iR pas).map fun p=>p.ps.map PC.er
 |[],[],_,_=>rfl
 |[],_::_,hl,_=>by simp at hl
 |_::_,[],hl,_=>by simp at hl
 |d::ds,p::pas,hl,hd=>by
  have h0:=hd 0 d p rfl rfl;have ih:=Tb (ds:=ds) (pas:=pas) (by simpa using hl) (fun i d p h1 h2=>hd (i+1) d p h1 h2);subst h0;obtain⟨k,ps,b,o⟩:=p;cases k with
  |ptr=>rfl
  |one=>simpa[pW,iR] using ih
  |agg=>simpa[pW,iR] using ih
def yU (p:PA):PB:=⟨false,p.b,p.o,0,[],none⟩
def FI (pas:List PA):Ex:=
 ⟨fun b=>∃p∈pas,p.k=.ptr/\b=p.b,fun n=>if n=aW then(iR pas).map yU else none,fun n p h=>(by
  by_cases hn:n=aW
  ·exact Nat.le_of_eq hn.symm
  ·rw[if_neg hn] at h;cases h),fun b=>∃q∈pas,∃pc∈q.ps,aX b pc⟩
def xY (pas:List PA):Gh:=⟨fun b=>∃q∈pas,∃pc∈q.ps,aX b pc,fun n=>match iR pas with|some p=>yU p|none=>default⟩
theorem R.alN {ds:List Dv} {vals:List Value} {pas:List PA} (va:OO w ds vals pas) (hN:ds.length<=N):
  R w.heap.size (FI pas) w N (Gy ds) {tmps:=vals.toArray++Array.replicate (N - vals.toArray.size) undef,defers:=[]} w (xY pas):=by
 have hl:=va.l1;have wv:pW ds=(iR pas).map fun p=>p.ps.map PC.er:=by
  refine Tb va.l2 fun i d p hd hp=>?_;have hv:vals[i]? =some (vals[i]'(by rw[va.l1];exact(List.getElem?_eq_some_iff.1 hd).1)):=List.getElem?_eq_getElem _;exact(va.at_ i d _ p hd hv hp).1
 have fW:∀q∈pas,∀pc∈q.ps,Good w pc:=by
  intro q hq pc bg;obtain⟨i,hi,rfl⟩:=List.getElem_of_mem hq;have hd:ds[i]? =some (ds[i]'(by rw[<-va.l2];exact hi)):=List.getElem?_eq_getElem _;have hv:vals[i]? =some (vals[i]'(by rw[va.l1,<-va.l2];exact hi)):=List.getElem?_eq_getElem _;exact(va.at_ i _ _ _ hd hv (List.getElem?_eq_getElem hi)).2.1 pc bg
 have ak7:∀q∈pas,q.k=.ptr->Ic w q.b q.o q.ps/\∃v:Value,v∈vals/\v=.pointer (some (ad q.b q.o)):=by
  intro q hq hk;obtain⟨i,hi,rfl⟩:=List.getElem_of_mem hq;have hd:ds[i]? =some (ds[i]'(by rw[<-va.l2];exact hi)):=List.getElem?_eq_getElem _;have hv:vals[i]? =some (vals[i]'(by rw[va.l1,<-va.l2];exact hi)):=List.getElem?_eq_getElem _;have h3:=(va.at_ i _ _ _ hd hv (List.getElem?_eq_getElem hi)).2.2;rw[hk] at h3;exact⟨h3.2.2,_,List.mem_of_getElem? hv,h3.1⟩
 have cell:∀q∈pas,∀pc∈q.ps,RC w (xY pas) (pJ ds) (.c pc.er) pc.val:=fun q hq pc bg=>⟨pc,rfl,rfl,fW q hq pc bg,fun b hb=>⟨q,hq,pc,bg,hb⟩⟩;have cells:∀q∈pas,dh w (xY pas) (pJ ds) ((q.ps.map PC.er).map .c) (q.ps.map PC.val):=by
  intro q hq;refine⟨by simp,fun j c u hj hu=>?_⟩;simp only[List.getElem?_map,List.map_map] at hj hu;cases hp:q.ps[j]? with
  |none=>rw[hp] at hj;cases hj
  |some pc=>
   rw[hp] at hj hu;simp at hj hu;subst hj hu;exact⟨PC.kc pc,cell q hq pc (List.mem_of_getElem? hp)⟩
 refine⟨rfl,by simp;omega,fun s=>?_,fun s n hn=>?_,?_,Fr.refl _ _ _ (Nat.le_refl _),fun n p b hp hb=>?_,fun n hn=>Nat.ble_eq_true_of_le hn⟩
 ·show RA w _ (pJ ds) (uO 0 ds s) _;rw[RQ];simp only[Nat.zero_le,if_true,Nat.sub_zero];cases hs:ds[s]? with
  |none=>exact Or.inl rfl
  |some d=>
   have Dk:=(List.getElem?_eq_some_iff.1 hs).1;have iF:s<vals.length:=by rw[hl];exact Dk
   have hv:vals[s]? =some vals[s]:=List.getElem?_eq_getElem iF;obtain⟨q,hp⟩:∃q,pas[s]? =some q:=⟨_,List.getElem?_eq_getElem (by rw[va.l2];exact Dk)⟩;have:(vals.toArray++Array.replicate (N - vals.toArray.size) undef).getD s undef=vals[s]:=by
    simp[Array.getD_eq_getD_getElem?,Array.getElem?_append,iF]
   rw[this];have rW:=List.mem_of_getElem? hp;obtain⟨e1,e2,e3⟩:=va.at_ s d _ q hs hv hp;generalize vals[s]=u at*
   subst e1;obtain⟨k,ps,b,o⟩:=q;cases k with
   |one=>
    have e3:ps.map PC.val=[u]:=e3;obtain⟨pc,rfl⟩:∃pc,ps=[pc]:=by
     have:=congrArg List.length e3;exact List.length_eq_one_iff.1 (by simpa using this)
    simp at e3;rw[<-e3];exact RA.fz (PC.kc pc) (cell _ rW pc (by simp))
   |agg=>exact⟨_,e3,cells _ rW⟩
   |ptr=>
    have e3:u=.pointer (some (ad b o))/\_:=e3;rw[e3.1];have hc:iR pas=some ⟨.ptr,ps,b,o⟩:=by
     cases hc:iR pas with
     |none=>exact absurd rfl (J7 hc _ rW)
     |some p=>
      obtain⟨c1,c2⟩:=Fu hc;obtain⟨i,hi⟩:=List.getElem?_of_mem c1;have:=va.one i s p _ hi hp c2 rfl;subst this;rw[hi] at hp;injection hp with hp;rw[hp]
    refine RA.fz (c:=.ptr aW 0 0 0) rfl (fun _=>?_);simp[xY,hc,yU]
 ·have bu:(uO 0 ds s).ref n:=hn;rw[RQ] at bu;simp only[Nat.zero_le,if_true,Nat.sub_zero] at bu;cases hs:ds[s]? with
  |none=>rw[hs] at bu;exact absurd bu id
  |some d=>
   rw[hs] at bu;obtain⟨k,xs⟩:=d;cases k with
   |one=>match xs,bu with
    |[],bu=>exact absurd bu id
    |[x],bu=>exact absurd bu id
    |_::_::_,bu=>exact absurd bu id
   |agg=>
    obtain⟨c,hc,hh⟩:=bu;obtain⟨y,_,rfl⟩:=List.mem_map.1 hc;exact absurd hh id
   |ptr=>
    have bu:n=aW:=bu;subst bu;exact agF ds aW (Nat.le_refl aW)
 ·
  have SJ:∀n gr m sz xs,pJ ds n≠some (.row gr m sz xs):=fun n gr m sz xs hn=>by obtain⟨_,_,_,e⟩:=Lh hn;cases e
  have pB:∀n,pJ ds n≠none->n=aW/\∃p,iR pas=some p/\(xY pas).g n=yU p/\pJ ds n=some (.box ((p.ps.map PC.er).map .c)):=by
   intro n hn;cases hh:pJ ds n with
   |none=>exact absurd hh hn
   |some b=>
    obtain⟨rfl,xs,e1,e2⟩:=Lh hh;rw[wv] at e1;cases hc:iR pas with
    |none=>rw[hc] at e1;cases e1
    |some p=>
     rw[hc] at e1;injection e1 with e1;exact⟨rfl,p,rfl,by simp[xY,hc],by rw[e2,<-e1]⟩
  refine⟨fun n hn=>?_,fun m cs c n hm hc hr=>?_,fun n cs hn=>?_,fun n gr m sz xs hn=>absurd hn (SJ _ _ _ _ _),fun n hn hlf=>?_,fun n n' hn bu aF=>?_,fun b hb=>?_,fun b hb=>.inr (.inr hb),
   fun n n' gr m sz xs bn m' aH ar hn=>absurd hn (SJ _ _ _ _ _),fun n gr sz xs hn=>absurd hn (SJ _ _ _ _ _),?_,?_,?_⟩
  ·obtain⟨rfl,_⟩:=pB n hn;exact agF ds aW (Nat.le_refl aW)
  ·have bL:pJ ds m=some (.box cs):=hm;obtain⟨_,xs,_,e⟩:=Lh bL;injection e with e;subst e;obtain⟨x,_,rfl⟩:=List.mem_map.1 hc;exact absurd hr id
  ·have bu:pJ ds n=some (.box cs):=hn;obtain⟨rfl,p,c1,c2,c3⟩:=pB n (by rw[bu];simp);rw[bu] at c3;injection c3 with c3;injection c3 with c3;subst c3;obtain⟨m1,m2⟩:=Fu c1;rw[c2];refine⟨rfl,(va.j7 p m1 m2).1,fun j c hj=>?_⟩;rw[List.getElem?_map,List.getElem?_map] at hj;cases kG:p.ps[j]? with
   |none=>rw[kG] at hj;cases hj
   |some pc=>
    rw[kG] at hj;simp at hj;subst hj;exact⟨pc.val,(ak7 p m1 m2).1 j pc kG,PC.kc pc,cell p m1 pc (List.mem_of_getElem? kG)⟩
  ·obtain⟨rfl,p,c1,c2,c3⟩:=pB n hn;obtain⟨m1,m2⟩:=Fu c1;rw[c2];obtain⟨u1,u2⟩:=va.j7 p m1 m2;exact⟨fun⟨q,hq,pc,bg,hb⟩=>u2 q hq pc bg hb,.inr ⟨p,m1,m2,rfl⟩,u1.lt⟩
  ·obtain⟨rfl,_⟩:=pB n hn;obtain⟨rfl,_⟩:=pB n' bu;exact absurd rfl aF
  ·obtain⟨q,hq,pc,bg,hb⟩:=hb;exact(fW q hq pc bg).lt hb
  ·intro i pc hi;simp at hi
  ·intro i j pc dv b _ hi;simp at hi
  ·intro i pc n gr m sz xs b hi;simp at hi
 ·have bC:(if n=aW then(iR pas).map yU else none)=some p:=hp
  split at bC
  ·rename_i hn;subst hn;cases hc:iR pas with
   |none=>rw[hc] at bC;cases bC
   |some q=>
    rw[hc] at bC;injection bC with bC;subst bC;have hg:(xY pas).g aW=yU q:=by simp[xY,hc]
    rw[hg];refine⟨rfl,rfl,rfl,rfl,rfl,fun gr sz xs aJ=>?_⟩;have Qw:pJ ds aW=some b:=hb;obtain⟨_,_,_,e⟩:=Lh Qw;rw[e] at aJ;cases aJ
  ·cases bC
def OM (G:Gh) (h:Nat->Option aq) (b:Nat):Prop:=G.Im b\/∃n gr m sz xs,h n=some (.row gr m sz xs)/\ta G n b
theorem HR.agQ (H:HR B E w G h used []):∀{cs:List ah} {xs:List C} {vs:List Value},Am.iL h cs=some xs->dh w G h cs vs->∃ps:List PC,ps.map PC.er=xs/\ps.map PC.val=vs/\∀pc∈ps,Good w pc/\∀b,aX b pc->OM G h b
 |[],xs,vs,hx,hc=>by
  simp only[Am.iL] at hx;injection hx with hx;subst hx;have:vs=[]:=List.eq_nil_of_length_eq_zero (by simpa using hc.1);subst this;exact⟨[],rfl,rfl,by simp⟩
 |c::cs,xs,vs,hx,hc=>by
  simp only[Am.iL] at hx;split at hx
  ·rename_i x ar e1 e2;injection hx with hx;subst hx;match vs,hc.1 with
   |v::vs,hl=>
    obtain⟨pc,a1,a2,a3,a4⟩:=H.V1 e1 (hc.2 0 c v rfl rfl).2;obtain⟨ps,b1,b2,b3⟩:=H.agQ (vs:=vs) e2 ⟨by simpa using hl,fun j c u h1 h2=>hc.2 (j+1) c u h1 h2⟩;refine⟨pc::ps,by simp[a1,b1],by simp[a2,b2],fun q hq=>?_⟩;cases hq with
    |head=>exact⟨a3,fun b hb=>(a4 b hb).imp id fun⟨n,gr,m,sz,xs,_,h1,h2⟩=>⟨n,gr,m,sz,xs,h1,h2⟩⟩
    |tail _ hq=>exact b3 q hq
  ·cases hx
theorem HR.sx (H:HR B E w G h used []):∀{vs:List aj} {ds:List Dv} {us:List Value},Am.sx h vs=some ds->us.length=vs.length->(∀(j:Nat) (x:aj) (v:Value),vs[j]? =some x->us[j]? =some v->RA w G h x v)->
  ∃bq:List PA,bq.map (fun p=>(p.k,p.ps.map PC.er))=ds/\bq.map Bc=us/\(∀p∈bq,p.k≠ .ptr/\(p.k=.one->p.ps.length=1))/\∀p∈bq,∀pc∈p.ps,Good w pc/\∀b,aX b pc->OM G h b
 |[],ds,us,hx,hl,hc=>by
  simp only[Am.sx] at hx;injection hx with hx;subst hx;have:us=[]:=List.eq_nil_of_length_eq_zero (by simpa using hl);subst this;exact⟨[],rfl,rfl,by simp,by simp⟩
 |x::vs,ds,us,hx,hl,hc=>by
  simp only[Am.sx] at hx;split at hx
  ·rename_i ag cs lL;split at hx
   ·rename_i xs ur e1 e2;injection hx with hx;subst hx;match us,hl with
    |v::us,hl=>
     obtain⟨bq,b1,b2,b3,b4⟩:=H.sx (us:=us) e2 (by simpa using hl) (fun j x v h1 h2=>hc (j+1) x v h1 h2);have h0:=hc 0 x v rfl rfl;have pE:∃vs:List Value,(if ag=true then v=.agg vs.toArray else vs=[v])/\dh w G h cs vs:=by
      cases x with
      |one c=>
       have QE:ag=false/\cs=[c]:=by cases c<;>simp[aj.cells?] at lL<;>exact⟨lL.1,lL.2.symm⟩
       obtain⟨rfl,rfl⟩:=QE;rcases h0 with h0|h0
       ·subst h0;simp[aj.cells?] at lL
       ·exact⟨[v],rfl,h0⟩
      |agg cs'=>
       simp[aj.cells?] at lL;obtain⟨rfl,rfl⟩:=lL;obtain⟨vs,e,h1⟩:∃vs:List Value,v=.agg vs.toArray/\dh w G h cs' vs:=h0;exact⟨vs,e,h1⟩
      |bH xs=>simp[aj.cells?] at lL
     obtain⟨Xu,iW,cv⟩:=pE;obtain⟨ps,p1,p2,p3⟩:=H.agQ e1 cv;refine⟨⟨if ag=true then .agg else .one,ps,0,0⟩::bq,by simp[p1,b1],?_,fun p hp=>?_,fun p hp pc bg=>?_⟩
     ·rw[List.map_cons,b2];congr 1;cases ag with
      |true=>
       simp only[if_true] at iW⊢;rw[iW,<-p2];rfl
      |false=>
       simp only[Bool.false_eq_true,if_false] at iW⊢;rw[<-p2] at iW;match ps,iW with
       |[pc],iW=>simp at iW;exact iW
     ·cases hp with
      |head=>
       cases ag with
       |true=>exact⟨by simp,fun h=>by cases h⟩
       |false=>
        simp only[Bool.false_eq_true,if_false] at iW;refine⟨by simp,fun _=>?_⟩;have:(ps.map PC.val).length=1:=by rw[p2,iW];rfl
        simpa using this
      |tail _ hp=>exact b3 p hp
     ·cases hp with
      |head=>exact p3 pc bg
      |tail _ hp=>exact b4 p hp pc bg
   ·cases hx
  ·cases hx
theorem arM {bq:List PA}:DZ (bq.map Bc)=Bd bq:=by
 match bq with
 |[]=>rfl
 |[p]=>rfl
 |p::q::bq=>rfl
theorem at3 (hT:kg P T) (hm:P.follows .mixedOrders=true) {f:FuncId} {fn:Func} {c:Code} {mc:lG} {ms:List bz} {M:List Dv->Option (List Dv×List C)} (hf:P.funcs[f]? =some fn) (hb:fn.body=some c)
  (hc:jg P fn.ntmps c mc=true) (hr:m4 P fn.results.toList ms=true) (hM:∀ds rs out,M ds=some (rs,out)->ds.length<=fn.ntmps/\Mh T mc ms ds=some (rs,out)):zD P f M:=by
 intro ds rs out jS w vals pas va;obtain⟨hN,bR⟩:=hM ds rs out jS;refine calls_of_wp hf hb ?_;have r0:=R.alN (N:=fn.ntmps) va hN;have wv:pW ds=(iR pas).map fun p=>p.ps.map PC.er:=by
  refine Tb va.l2 fun i d p hd hp=>?_;have hv:vals[i]? =some (vals[i]'(by rw[va.l1];exact(List.getElem?_eq_some_iff.1 hd).1)):=List.getElem?_eq_getElem _;exact(va.at_ i d _ p hd hv hp).1
 unfold Mh at bR;have gV:∀{σ:St} {a:Act} {w':World} {G:Gh},σ.Ec ms ds=some (rs,out)->R w.heap.size (FI pas) w fn.ntmps σ a w' G->a.defers=[]/\∃v,(results fn a.tmps).run P w'=.ok v w'/\
   ∃(bq:List PA) (qs:List PC),bq.map (fun p=>(p.k,p.ps.map PC.er))=rs/\(Ending.returned v)=.returned (Bd bq)/\qs.map PC.er=out/\ON w w' pas bq qs:=by
  intro σ a w' G hx r;have H:=r.hr;unfold St.Ec at hx;split at hx
  ·rename_i vs e1;split at hx
   ·rename_i mP SX e2 e3;injection hx with hx;injection hx with kI eH;subst kI eH;have x4:∀p,iR pas=some p->∃cs,σ.h aW=some (.box cs)/\cs.length=p.ps.length/\kJ cs=some SX/\(G.g aW).nl=false/\(G.g aW).b=p.b/\(G.g aW).o=p.o:=by
     intro p hp;rw[wv,hp] at e3;simp only[Option.map_some,DY] at e3;split at e3
     ·rename_i cs fc;split at e3
      ·rename_i hl;have oP:(FI pas).oV aW=some (yU p):=by
        show(if aW=aW then(iR pas).map yU else none)=_
        rw[if_pos rfl,hp];rfl
       obtain⟨q1,q2,q3,_⟩:=r.oV _ _ _ oP fc;exact⟨cs,fc,by simpa using hl,e3,q1,q2,q3⟩
      ·cases e3
     ·cases e3
    have K7:∀q∈pas,q.k=.ptr->∃p,iR pas=some p/\q=p:=by
     intro q hq hk;cases hc:iR pas with
     |none=>exact absurd hk (J7 hc q hq)
     |some p=>
      obtain⟨c1,c2⟩:=Fu hc;obtain⟨i,hi⟩:=List.getElem?_of_mem hq;obtain⟨j,hj⟩:=List.getElem?_of_mem c1;have:=va.one i j q p hi hj hk c2;subst this;rw[hi] at hj;injection hj with hj;exact⟨p,rfl,hj⟩
    have hE:∀b,(FI pas) b->∃p cs,iR pas=some p/\σ.h aW=some (.box cs)/\(G.g aW).nl=false/\b=(G.g aW).b:=by
     rintro b ⟨q,hq,hk,rfl⟩;obtain⟨p,hp,rfl⟩:=K7 q hq hk;obtain⟨cs,h1,_,_,h2,h3,_⟩:=x4 q hp;exact⟨q,cs,hp,h1,h2,h3.symm⟩
    have pC:∀b,G.Im b->Cg w pas b:=fun b hb=>by
     rcases H.pH b hb with h1|h1|h1
     ·exact .inl h1
     ·obtain⟨p,cs,_,h2,h3,rfl⟩:=hE b h1;exact absurd hb (H.own aW (by rw[h2];simp) h3).1
     ·exact .inr h1
    have alu:∀b,OM G σ.h b->Cg w pas b/\(∀p,iR pas=some p->b≠p.b):=by
     have aF:∀b,(∀cs,σ.h aW=some (.box cs)->(G.g aW).nl=false->b≠(G.g aW).b)->∀p,iR pas=some p->b≠p.b:=fun b hb p hp=>by
      obtain⟨cs,h1,_,_,h2,h3,_⟩:=x4 p hp;rw[<-h3];exact hb cs h1 h2
     have ZA:∀b,(w.heap.size<=b\/(FI pas) b)->(∀cs,σ.h aW=some (.box cs)->(G.g aW).nl=false->b≠(G.g aW).b)->Cg w pas b:=fun b hb aF=>by
      rcases hb with hb|hb
      ·exact .inl hb
      ·obtain⟨p,cs,_,h2,h3,h4⟩:=hE b hb;exact absurd h4 (aF cs h2 h3)
     intro b hb;rcases hb with hb|⟨n,gr,m,sz,xs,hn,hft⟩
     ·exact⟨pC b hb,aF b fun cs h1 h2 he=>(H.own aW (by rw[h1];simp) h2).1 (he▸hb)⟩
     ·have bK:σ.h n≠none:=by rw[hn];simp
      rcases hft with⟨aT,rfl⟩|hF
      ·have hd:∀cs,σ.h aW=some (.box cs)->(G.g aW).nl=false->(G.g n).b≠(G.g aW).b:=fun cs h1 h2=>
        H.inj n aW bK (by rw[h1];simp) (by rintro rfl;rw[hn] at h1;cases h1) aT h2
       exact⟨ZA _ (H.own n bK aT).2.1 hd,aF _ hd⟩
      ·have gf:=(H.row n gr m sz xs hn).mode;cases m with
       |aI=>exact⟨pC b (gf b hF),aF b fun cs h1 h2 he=>(H.own aW (by rw[h1];simp) h2).1 (he▸gf b hF)⟩
       |aO=>exact⟨pC b (gf.1 b hF).1,aF b fun cs h1 h2 he=>(H.own aW (by rw[h1];simp) h2).1 (he▸(gf.1 b hF).1)⟩
       |live=>
        have hd:∀cs,σ.h aW=some (.box cs)->(G.g aW).nl=false->b≠(G.g aW).b:=fun cs h1 h2=>H.live n gr sz xs hn b hF aW (by rw[h1];simp) h2;exact⟨ZA b (gf.1 b hF).2.2 hd,aF b hd⟩
    obtain⟨us,u1,u2,_,u3⟩:=Hm r hr e1;obtain⟨qs,q1,q2,q3⟩:∃qs:List PC,qs.map PC.er=SX/\(∀pc∈qs,Good w' pc/\∀b,aX b pc->G.Im b)/\∀p∈pas,p.k=.ptr->Ic w' p.b p.o qs:=by
     cases hc:iR pas with
     |none=>
      rw[wv,hc] at e3;simp only[Option.map_none,DY] at e3;injection e3 with e3;subst e3;exact⟨[],rfl,by simp,fun p hp hk=>absurd hk (J7 hc p hp)⟩
     |some p=>
      obtain⟨cs,h1,h2,h3,h4,h5,h6⟩:=x4 p hc;obtain⟨Xu,v1,v2⟩:=H.JN h1;obtain⟨ps,p1,p2,p3⟩:=HR.kJ h3 v1;refine⟨ps,p1,p3,fun q hq hk j c hj=>?_⟩;obtain⟨p',bC,rfl⟩:=K7 q hq hk;rw[hc] at bC;injection bC with bC;subst bC;rw[<-h5,<-h6];refine v2 j _ ?_;rw[<-p2,List.getElem?_map,hj];rfl
    have v9:Fr w.heap.size (XT pas) w w':=⟨r.fr.os,r.fr.tape,r.fr.output,r.fr.size,r.fr.block,r.fr.j7⟩;have J8:∀{mP:List Dv},sx σ.h vs=some mP->∃v,(results fn a.tmps).run P w'=.ok v w'/\
      ∃(bq:List PA) (qs:List PC),bq.map (fun p=>(p.k,p.ps.map PC.er))=mP/\(Ending.returned v)=.returned (Bd bq)/\qs.map PC.er=SX/\ON w w' pas bq qs:=by
     intro mP hrb;obtain⟨bq,b1,b2,b3,b4⟩:=H.sx hrb u2 u3;refine⟨_,Mj fn a.tmps u1,bq,qs,b1,by rw[<-b2,arM],q1,?_⟩;exact⟨fun p hp=>(b3 p hp).2,fun p hp hk=>absurd hk (b3 p hp).1,fun p hp pc bg=>⟨(b4 p hp pc bg).1,fun b hb=>(alu b ((b4 p hp pc bg).2 b hb)).1⟩,v9,fun pc bg=>⟨(q2 pc bg).1,fun b hb=>pC b ((q2 pc bg).2 b hb)⟩,q3⟩
    refine⟨r.defers,?_⟩;unfold Ed at e2;split at e2
    ·rename_i v0;split at e2
     ·rename_i n xs ZU;split at e2
      ·cases e2
      ·rename_i yj;injection e2 with e2;subst e2;obtain⟨sz,cs,rfl,hn,fc⟩:=O5 ZU;obtain⟨nl,un,_⟩:=H.box n cs hn;have bK:σ.h n≠none:=by rw[hn];simp
       obtain⟨o1,o2,o3⟩:=H.own n bK nl;obtain⟨Xu,v1,v2⟩:=H.JN hn;obtain⟨ps,p1,p2,p3⟩:=HR.kJ fc v1;match us,u2 with
       |[u],_=>
        have hu:u=.pointer (some (ad (G.g n).b (G.g n).o)):=by
         have h0:=u3 0 _ u rfl rfl;rcases h0 with h0|h0
         ·cases h0
         ·have h1:RC w' G σ.h (.ptr n 0 sz 0) u:=(h0.2 0 _ u rfl rfl).2;simpa using(h1 bK).2
        have hB:w.heap.size<=(G.g n).b:=by
         rcases o2 with o2|o2
         ·exact o2
         ·obtain⟨p,cs',_,h2,h3,h4⟩:=hE _ o2;exact absurd h4 (H.inj n aW bK (by rw[h2];simp) (by rintro rfl;exact yj (Nat.le_refl _)) nl h3)
        refine⟨_,Mj fn a.tmps u1,[⟨.ptr,ps,(G.g n).b,(G.g n).o⟩],qs,by simp[p1],?_,q1,?_⟩
        ·rw[hu];rfl
        ·refine⟨fun p hp hk=>?_,fun p hp hk=>?_,fun p hp pc bg=>?_,v9,fun pc bg=>⟨(q2 pc bg).1,fun b hb=>pC b ((q2 pc bg).2 b hb)⟩,q3⟩
         ·simp at hp;subst hp;cases hk
         ·simp at hp;subst hp;refine⟨rfl,hB,un,fun j c hj=>v2 j _ ?_,fun pc bg hb=>o1 ((p3 pc bg).2 _ hb),fun pc bg hb=>o1 ((q2 pc bg).2 _ hb)⟩;rw[<-p2,List.getElem?_map,hj];rfl
         ·simp at hp;subst hp;exact⟨(p3 pc bg).1,fun b hb=>pC b ((p3 pc bg).2 b hb)⟩
     ·exact J8 e2
    ·exact J8 e2
   ·cases hx
  ·cases hx
 split at bR
 ·rename_i σ e;exact lJ hT hm mc hc e r0 fun a w' G r=>gV bR r
 ·rename_i σ e;exact lJ hT hm mc hc e r0 fun a w' G r=>gV bR r
 ·cases bR
end
def _root_.Option.ae {α β:Type} (o:Option α) (f:α->Option β):Option β:=o.bind f
def av {α:Type} (b:Bool) (x y:α):α:=cond b x y
def cC (k:IntKind) (a b:Int):Int:=k.wrap (a+b)
def kx (k:IntKind) (a b:Int):Int:=k.wrap (a - b)
def lW (k:IntKind) (a b:Int):Int:=k.wrap (a*b)
def aqq (k:IntKind) (a:Int):Int:=k.wrap (0 - a)
def ah1 (k:IntKind) (a:Int):Int:=k.wrap a
def ag8 (k:IntKind) (a b:Int):Int:=bits .and k a b
def orI (k:IntKind) (a b:Int):Int:=bits .or k a b
def aum (k:IntKind) (a b:Int):Int:=bits .xor k a b
def dD (a b:Int):Bool:=a==b
def fq (a b:Int):Bool:=a !=b
def bG (a b:Int):Bool:=decide (a<b)
def jb (a b:Int):Bool:=decide (a<=b)
def eqB (a b:Bool):Bool:=a==b
def GZ (a b:Bool):Bool:=a !=b
def dN (a:Bool):Bool:= !a
def SD (a b:Int):Int:=if a<b then b else a
def DO (a b:Int):Int:=if b<a then b else a
def aa {α:Type} (xs:List α):Nat:=xs.length
def aC (n:Nat):Int:=(n:Int)
def aG (a b:Nat):Nat:=a+b
def cu {α:Type} (xs:List α) (k:Nat):Option α:=xs[k]?
def bS {α:Type} (xs:List α) (k:Nat) (x:α):List α:=xs.set k x
def dF {α:Type} (xs ys:List α):List α:=xs++ys
def dC {α:Type} (n:Nat) (x:α):List α:=List.replicate n x
def f9 {α:Type} (xs:List α) (lo len:Nat):List α:=(xs.drop lo).take len
def cM {α:Type} (xs:List α) (i:Int):Option α:=if 0<=i then xs[i.toNat]? else none
def eX (i:Int) (len:Nat):Option Nat:=if 0<=i/\i<len then some i.toNat else none
def mQ (lo hi:Int) (len:Nat):Option (Nat×Nat):=if 0<=lo/\lo<=hi/\hi<=len then some (lo.toNat,(hi - lo).toNat) else none
def cX {α:Type} (xs:List α) (lo len:Nat):Option (List α):=if lo+len<=xs.length then some ((xs.drop lo).take len) else none
def dP {α:Type} (xs:List α) (len:Nat):Option (List α):=if len<=xs.length then some (xs.take len) else none
def J6 {α:Type} (xs:List α) (lo len:Nat) (ys:List α):Option (List α):=if lo+len<=xs.length then some (xs.take lo++ys++xs.drop (lo+ys.length)) else none
def lV (a b:Int) (by_:Nat):Option Nat:=if a<=b/\0<=a/\b.toNat*by_<=dR then some a.toNat else none
def jR (n by_:Nat):Option Unit:=if n*by_<=dR then some () else none
def j6 (a b:Nat):Option Unit:=if a=b then some () else none
def adf (n:Nat):Option Unit:=if 0<n then some () else none
def M5 {α:Type} (xs:List α):List α:=xs.drop 1
def bo (lo len l:Nat):Option Unit:=if lo=0/\len=l then some () else none
abbrev J:=List Int
abbrev aA {α β:Type} (l:List α) (k:Option β):Option β:=(bo 0 (aa l) (aa l)).ae fun _=>k
def D7 (k:IntKind) (a b:Int):Option Int:=if b=0 then none else some (k.wrap (a.tdiv b))
def mO (a b:Int):Option Int:=if b=0 then none else some (a.tmod b)
def y7 (k:IntKind) (a b:Int):Option Int:=if b<0 then none else some (k.wrap (a*2^(min b.toNat k.bits)))
def aft (k:IntKind) (a b:Int):Option Int:=if b<0 then none else some (a/(2^(min b.toNat k.bits)))
def ci {X Y:Type}:Nat->(X->Option (X⊕Y))->X->Option Y
 |0,_,_=>none
 |n+1,f,x=>match f x with
  |some (.inl x')=>ci n f x'
  |some (.inr y)=>some y
  |none=>none
def bV {X ρ:Type} (o:Option (X⊕ρ)) (k:X->Option ρ):Option ρ:=o.bind fun s=>Sum.casesOn s k some
theorem d7 {α β:Type} {o:Option α} {f:α->Option β} {b:β}:o.ae f=some b↔∃a,o=some a/\f a=some b:=Option.bind_eq_some_iff
theorem Px {α:Type} (x y:α):av true x y=x:=rfl
theorem J3 {α:Type} (x y:α):av false x y=y:=rfl
inductive Ty where
 |int (k:IntKind)
 |bool
 |list (ts:List Ty)
instance:Inhabited Ty:=⟨.bool⟩
mutual
def Ty.beq:Ty->Ty->Bool
 |.int k,.int k'=>decide (k=k')
 |.bool,.bool=>true
 |.list ts,.list us=>Ty.sU ts us
 |_,_=>false
def Ty.sU:List Ty->List Ty->Bool
 |[],[]=>true
 |t::ts,u::us=>Ty.beq t u&&Ty.sU ts us
 |_,_=>false
end
mutual
theorem Ty.beq_eq:∀{t u:Ty},Ty.beq t u=true->t=u
 |.int k,.int k',h=>by simp[Ty.beq] at h;rw[h]
 |.bool,.bool,_=>rfl
 |.list ts,.list us,h=>by simp only[Ty.beq] at h;rw[Ty.sV h]
 |.int _,.bool,h=>by simp[Ty.beq] at h
 |.int _,.list _,h=>by simp[Ty.beq] at h
 |.bool,.int _,h=>by simp[Ty.beq] at h
 |.bool,.list _,h=>by simp[Ty.beq] at h
 |.list _,.int _,h=>by simp[Ty.beq] at h
 |.list _,.bool,h=>by simp[Ty.beq] at h
theorem Ty.sV:∀{ts us:List Ty},Ty.sU ts us=true->ts=us
 |[],[],_=>rfl
 |t::ts,u::us,h=>by simp only[Ty.sU,Bool.and_eq_true] at h;rw[Ty.beq_eq h.1,Ty.sV h.2]
 |[],_::_,h=>by simp[Ty.sU] at h
 |_::_,[],h=>by simp[Ty.sU] at h
end
mutual
def Ty.D:Ty->Type
 |.int _=>Int
 |.bool=>Bool
 |.list ts=>List (Ty.DL ts)
def Ty.DL:List Ty->Type
 |[]=>Unit
 |t::ts=>match ts with
  |[]=>Ty.D t
  |u::us=>Ty.D t×Ty.DL (u::us)
end
mutual
def Ty.er:(t:Ty)->t.D->C
 |.int k,n=>.int k n
 |.bool,b=>.bool b
 |.list ts,xs=>.list ts.length (List.map (Ty.aE ts) xs)
def Ty.aE:(ts:List Ty)->Ty.DL ts->List C
 |[],_=>[]
 |[t],x=>[Ty.er t x]
 |t::u::ts,x=>Ty.er t x.1::Ty.aE (u::ts) x.2
end
def Ty.cast (t u:Ty) (x:t.D):Option u.D:=if h:Ty.beq t u=true then some (Ty.beq_eq h▸x) else none
theorem Ty.Ph {t u:Ty} {x:t.D} {y:u.D} (h:Ty.cast t u x=some y):t.er x=u.er y:=by
 unfold Ty.cast at h;split at h
 ·rename_i he;have:=Ty.beq_eq he;subst this;injection h with h;rw[<-h]
 ·cases h
def Ty.Cx (ts us:List Ty) (x:Ty.DL ts):Option (Ty.DL us):=if h:Ty.sU ts us=true then some (Ty.sV h▸x) else none
theorem Ty.CQ:∀(ts:List Ty) (x:Ty.DL ts),(Ty.aE ts x).length=ts.length
 |[],_=>rfl
 |[t],_=>rfl
 |t::u::ts,x=>by simp only[Ty.aE,List.length_cons,Ty.CQ (u::ts) x.2]
def Ty.fh:Ty->Bool
 |.list _=>false
 |_=>true
theorem Ty.w5 (t:Ty) (x:t.D):(t.er x).fh=t.fh:=by cases t<;>rfl
def Ty.fF (ts:List Ty):Bool:=ts.all Ty.fh
theorem Ty.Hu:∀(ts:List Ty) (x:Ty.DL ts),Am.fF (Ty.aE ts x)=Ty.fF ts
 |[],_=>rfl
 |[t],x=>by simp[Am.fF,Ty.aE,Ty.fF];exact Ty.w5 t x
 |t::u::ts,x=>by
  have:=Ty.Hu (u::ts) x.2;simp only[Am.fF,Ty.fF] at this;simp only[Am.fF,Ty.fF,Ty.aE,List.all_cons,Ty.w5] at this⊢;rw[this]
inductive SC where
 |v (t:Ty) (x:t.D)
 |nil (ts:List Ty)
 |ptr (n k sz off:Nat)
 |de (ts:List Ty) (x:Ty.DL ts) (off:Nat)
 |sl (n sz lo len:Nat)
 |bw (n k aB off sz len:Nat)
 |cY (n k aB off sz i:Nat)
 |cE (ts:List Ty) (x:Ty.DL ts) (off j n sz len:Nat)
 |fn (f:FuncId) (cK:List SC)
 |bm
instance:Inhabited SC:=⟨.bm⟩
mutual
def SC.er:SC->ah
 |.v t x=>.c (t.er x)
 |.nil ts=>.nil ts.length
 |.ptr n k sz off=>.ptr n k sz off
 |.de ts x off=>.de (Ty.aE ts x) off
 |.sl n sz lo len=>.sl n sz lo len
 |.bw n k aB off sz len=>.bw n k aB off sz len
 |.cY n k aB off sz i=>.cY n k aB off sz i
 |.cE ts x off j n sz len=>.cE (Ty.aE ts x) off j n sz len
 |.fn f cK=>.fn f (SC.Kj cK)
 |.bm=>.bm
def SC.Kj:List SC->List ah
 |[]=>[]
 |c::cs=>SC.er c::SC.Kj cs
end
theorem SC.zT (cs:List SC):SC.Kj cs=cs.map SC.er:=by
 induction cs with
 |nil=>rfl
 |cons c cs ih=>simp[SC.Kj,ih]
inductive SB where
 |box (cs:List SC)
 |row (gr:Bool) (m:Mode) (ts:List Ty) (xs:List (Ty.DL ts))
def SB.er:SB->aq
 |.box cs=>.box (cs.map SC.er)
 |.row gr m ts xs=>.row gr m ts.length (List.map (Ty.aE ts) xs)
inductive SV where
 |one (c:SC)
 |agg (cs:List SC)
 |bH (xs:List (Bool×List SC))
instance:Inhabited SV:=⟨.one .bm⟩
def SV.er:SV->aj
 |.one c=>.one c.er
 |.agg cs=>.agg (cs.map SC.er)
 |.bH xs=>.bH (xs.map fun x=>(x.1,x.2.map SC.er))
structure af where
 env:Nat->SV
 h:Nat->Option SB
 used:Nat->Bool
def rI (env:Nat->SV):Nat->aj:=fun s=>(env s).er
def df (h:Nat->Option SB):Nat->Option aq:=fun n=>(h n).map SB.er
def af.er (σ:af):St:={env:=rI σ.env,h:=df σ.h,used:=σ.used}
theorem vP (env:Nat->SV) (n:Nat) (v:SV):rI (ax env n v)=ax (rI env) n v.er:=by
 funext s;simp only[rI,j8];split<;>rfl
theorem Kh (h:Nat->Option SB) (n:Nat) (v:Option SB):df (ax h n v)=ax (df h) n (v.map SB.er):=by
 funext s;simp only[df,j8];split<;>rfl
def af.put (σ:af) (d:Option Nat) (v:SV):af:=
 match d with
 |some n=>{σ with env:=ax σ.env n v}
 |none=>σ
def af.ins (σ:af) (n:Nat) (b:SB):Option af:=
 match σ.used n with
 |true=>none
 |false=>some {σ with h:=ax σ.h n (some b),used:=ax σ.used n true}
def af.eD (σ:af) (n:Nat) (b:SB):af:={σ with h:=ax σ.h n (some b)}
def af.del (σ:af) (n:Nat):af:={σ with h:=ax σ.h n none}
theorem af.dT (σ:af) (d:Option Nat) (v:SV):(σ.put d v).er=σ.er.put d v.er:=by
 cases d with
 |none=>rfl
 |some n=>simp only[af.put,af.er,St.put,vP]
theorem af.oJ {σ σ1:af} {n:Nat} {b:SB} (h:σ.ins n b=some σ1):σ.er.ins n b.er=some σ1.er:=by
 unfold af.ins at h;split at h
 ·cases h
 ·rename_i hu;injection h with h;subst h;simp[St.ins,af.er,hu,Kh]
theorem af.pz (σ:af) (n:Nat) (b:SB):(σ.eD n b).er=σ.er.eD n b.er:=by
 simp[af.eD,af.er,St.eD,Kh]
theorem af.zS (σ:af) (n:Nat):(σ.del n).er=σ.er.del n:=by
 simp[af.del,af.er,St.del,Kh]
def Ty.cells:(ts:List Ty)->Ty.DL ts->List SC
 |[],_=>[]
 |[t],x=>[.v t x]
 |t::u::ts,x=>.v t x.1::Ty.cells (u::ts) x.2
theorem Ty.kC:∀(ts:List Ty) (x:Ty.DL ts),(Ty.cells ts x).map SC.er=(Ty.aE ts x).map .c
 |[],_=>rfl
 |[t],x=>rfl
 |t::u::ts,x=>by simp only[Ty.cells,Ty.aE,List.map_cons,Ty.kC (u::ts) x.2];rfl
def So (n k rs off:Nat) (t:Ty) (x:t.D):SC:=
 match t,x with
 |.list ts,xs=>.bw n k rs off ts.length (aa (α:=Ty.DL ts) xs)
 |.int k',x=>.v (.int k') x
 |.bool,x=>.v .bool x
def Ty.live (n k rs:Nat):Nat->(ts:List Ty)->Ty.DL ts->List SC
 |_,[],_=>[]
 |off,[t],x=>[So n k rs off t x]
 |off,t::u::ts,x=>So n k rs off t x.1::Ty.live n k rs (off+1) (u::ts) x.2
theorem aba (n k rs off:Nat) (t:Ty) (x:t.D) (l:List C):iI n k rs off (t.er x::l)=(So n k rs off t x).er::iI n k rs (off+1) l:=by
 cases t with
 |int k'=>rfl
 |bool=>rfl
 |list ts=>
  exact congrArg (fun m=>ah.bw n k rs off ts.length m::iI n k rs (off+1) l) (List.length_map (Ty.aE ts))
theorem Ty.abf (n k rs:Nat):∀(off:Nat) (ts:List Ty) (x:Ty.DL ts),(Ty.live n k rs off ts x).map SC.er=iI n k rs off (Ty.aE ts x)
 |_,[],_=>rfl
 |off,[t],x=>(aba n k rs off t x []).symm
 |off,t::u::ts,x=>by simp only[Ty.live,Ty.aE,aba,List.map_cons,Ty.abf n k rs (off+1) (u::ts) x.2]
theorem abb (n k rs:Nat):∀(j off:Nat) (l:List C),(iI n k rs off l).drop j=iI n k rs (off+j) (l.drop j)
 |0,off,l=>by simp
 |j+1,off,[]=>by simp[iI]
 |j+1,off,c::l=>by
  have ih:=abb n k rs j (off+1) l;rw[show off+1+j=off+(j+1) by omega] at ih;cases c<;>simpa[iI] using ih
theorem abe (n k rs:Nat):∀(j off:Nat) (l:List C),(iI n k rs off l).take j=iI n k rs off (l.take j)
 |0,off,l=>by simp[iI]
 |j+1,off,[]=>by simp[iI]
 |j+1,off,c::l=>by cases c<;>simp[iI,abe n k rs j (off+1) l]
theorem abc (n k rs:Nat):∀(off:Nat) (l:List C),(iI n k rs off l).length=l.length
 |off,[]=>rfl
 |off,c::l=>by cases c<;>simp[iI,abc n k rs (off+1) l]
theorem atA (n k rs off sz:Nat) (l:List C):sub (iI n k rs 0 l) off sz=(sub l off sz).map (iI n k rs off):=by
 unfold sub;rw[abc];split
 ·simp[abb,abe]
 ·rfl
theorem sG {α β:Type} (f:α->β) (l:List α) (off sz:Nat):sub (l.map f) off sz=(sub l off sz).map (List.map f):=by
 unfold sub;rw[List.length_map];split
 ·simp[List.map_drop,List.map_take]
 ·rfl
def zO (t:Ty):(ts:List Ty)->t.D->Ty.DL ts->Ty.DL (t::ts)
 |[],x,_=>x
 |_::_,x,y=>(x,y)
theorem Py (t:Ty) (ts:List Ty) (x:t.D) (y:Ty.DL ts):Ty.aE (t::ts) (zO t ts x y)=t.er x::Ty.aE ts y:=by cases ts<;>rfl
def qV:(ts:List Ty)->List ((t:Ty)×t.D)->Option (Ty.DL ts)
 |[],[]=>some ()
 |t::ts,c::cs=>match Ty.cast c.1 t c.2,qV ts cs with
  |some y,some z=>some (zO t ts y z)
  |_,_=>none
 |_,_=>none
def dj (l:List ((t:Ty)×t.D)):List C:=l.map fun x=>x.1.er x.2
theorem wN:∀{ts:List Ty} {cs:List ((t:Ty)×t.D)} {y:Ty.DL ts},qV ts cs=some y->Ty.aE ts y=dj cs
 |[],[],y,h=>rfl
 |t::ts,c::cs,y,h=>by
  simp only[qV] at h;split at h
  ·rename_i y1 z h1 h2;injection h with h;subst h;have:=wN h2;simp only[dj] at this;simp only[Py,dj,List.map_cons,Ty.Ph h1,this]
  ·cases h
 |[],_::_,y,h=>by simp[qV] at h
 |t::ts,[],y,h=>by simp[qV] at h
def Ty.gO:(ts:List Ty)->Ty.DL ts->List ((t:Ty)×t.D)
 |[],_=>[]
 |[t],x=>[⟨t,x⟩]
 |t::u::ts,x=>⟨t,x.1⟩::Ty.gO (u::ts) x.2
theorem Ty.pw:∀(ts:List Ty) (x:Ty.DL ts),dj (Ty.gO ts x)=Ty.aE ts x
 |[],_=>rfl
 |[t],x=>rfl
 |t::u::ts,x=>by
  have:=Ty.pw (u::ts) x.2;simp only[dj] at this;simp only[Ty.gO,Ty.aE,dj,List.map_cons,this]
def eC {ρ:Type} (b:Bool) (x:Option ρ):Option ρ:=match b with|true=>x|false=>none
def cr {ρ:Type} (a b:Nat) (x:Option ρ):Option ρ:=match Nat.beq a b with|true=>x|false=>none
theorem bX {ρ:Type} {b:Bool} {x:Option ρ} {r:ρ} (h:eC b x=some r):b=true/\x=some r:=by
 cases b with
 |true=>exact⟨rfl,h⟩
 |false=>cases h
theorem aP {ρ:Type} {a b:Nat} {x:Option ρ} {r:ρ} (h:cr a b x=some r):a=b/\x=some r:=by
 unfold cr at h;split at h
 ·rename_i e;exact⟨Nat.eq_of_beq_eq_true e,h⟩
 ·cases h
abbrev TD:=(t:Ty)×t.D
inductive cL where
 |t (n:Nat)
 |k (v:SV)
def cL.er:cL->MO
 |.t n=>.t n
 |.k v=>.k v.er
def af.ev (σ:af):cL->SV
 |.t n=>σ.env n
 |.k v=>v
theorem af.dL (σ:af) (x:cL):σ.er.ev x.er=(σ.ev x).er:=by cases x<;>rfl
def SV.cells?:SV->Option (Bool×List SC)
 |.one .bm=>none
 |.one c=>some (false,[c])
 |.agg cs=>some (true,cs)
 |.bH _=>none
theorem SV.kC {v:SV} {b:Bool} {cs:List SC} (h:v.cells?=some (b,cs)):v.er.cells?=some (b,cs.map SC.er):=by
 cases v with
 |one c=>cases c<;>simp[SV.cells?] at h<;>(obtain⟨rfl,rfl⟩:=h;rfl)
 |agg cs'=>simp[SV.cells?] at h;obtain⟨rfl,rfl⟩:=h;rfl
 |bH xs=>simp[SV.cells?] at h
def Bx:Bool->List SC->SV
 |true,cs=>.agg cs
 |false,[c]=>.one c
 |false,_=>.one .bm
theorem EG (b:Bool) (cs:List SC):(Bx b cs).er=ov b (cs.map SC.er):=by
 cases b with
 |true=>rfl
 |false=>match cs with
  |[]=>rfl
  |[c]=>rfl
  |_::_::_=>rfl
section
variable {ρ:Type}
def JM (op:BinOp) (k:IntKind) (a b:Int) (c:(t:Ty)->t.D->Option ρ):Option ρ:=
 match op with
 |.add=>c (.int k) (cC k a b)
 |.sub=>c (.int k) (kx k a b)
 |.mul=>c (.int k) (lW k a b)
 |.quo=>(D7 k a b).ae fun x=>c (.int k) x
 |.rem=>(mO a b).ae fun x=>c (.int k) x
 |.and=>c (.int k) (ag8 k a b)
 |.or=>c (.int k) (orI k a b)
 |.xor=>c (.int k) (aum k a b)
 |.eql=>c .bool (dD a b)
 |.neq=>c .bool (fq a b)
 |.lss=>c .bool (bG a b)
 |.leq=>c .bool (jb a b)
 |.gtr=>c .bool (bG b a)
 |.geq=>c .bool (jb b a)
 |_=>none
theorem ahq {op:BinOp} {k:IntKind} {a b:Int} {c:(t:Ty)->t.D->Option ρ} {r:ρ} (h:JM op k a b c=some r):
    ∃(t:Ty) (x:t.D),Cr op k a b=some (t.er x)/\c t x=some r:=by
  cases op<;>first
    |exact⟨.int k,_,rfl,h⟩
    |exact⟨.bool,_,rfl,h⟩
    |(simp only[JM,D7,mO,d7] at h
      obtain⟨x,h1,h2⟩:=h;split at h1
      · cases h1
      · rename_i hb;injection h1 with h1;subst h1;exact⟨.int k,_,by simp[Cr,hb,Ty.er],h2⟩)
    |(simp[JM] at h)
def Mr (op:BinOp) (k:IntKind) (a b:Int) (c:(t:Ty)->t.D->Option ρ):Option ρ:=
 match op with
 |.shl=>(y7 k a b).ae fun x=>c (.int k) x
 |.shr=>(aft k a b).ae fun x=>c (.int k) x
 |_=>none
theorem as5 {op:BinOp} {k:IntKind} {a b:Int} {c:(t:Ty)->t.D->Option ρ} {r:ρ} (h:Mr op k a b c=some r):
    ∃(t:Ty) (x:t.D),Hy op k a b=some (t.er x)/\c t x=some r:=by
  cases op<;>first
    |(simp only[Mr,y7,aft,d7] at h
      obtain⟨x,h1,h2⟩:=h;split at h1
      · cases h1
      · rename_i hb;injection h1 with h1;subst h1;exact⟨.int k,_,by simp[Hy,hb,Ty.er],h2⟩)
    |(simp[Mr] at h)
def O7 (op:BinOp) (x y:SV) (c:(t:Ty)->t.D->Option ρ):Option ρ:=
 match x,y with
 |.one (.v (.int k) a),.one (.v (.int k') b)=>match BinOp.AH op with
  |true=>Mr op k a b c
  |false=>match decide (k=k') with
   |true=>JM op k a b c
   |false=>none
 |_,_=>none
theorem ahr {op:BinOp} {x y:SV} {c:(t:Ty)->t.D->Option ρ} {r:ρ} (h:O7 op x y c=some r):
  ∃(t:Ty) (z:t.D),xH op x.er y.er=some (t.er z)/\c t z=some r:=by
 unfold O7 at h;split at h
 ·rename_i k a k' b;split at h
  ·rename_i e;obtain⟨t,z,h1,h2⟩:=as5 h;exact⟨t,z,by simp[SV.er,SC.er,Ty.er,xH,e];exact h1,h2⟩
  ·rename_i e;split at h
   ·rename_i hk;have hk:=of_decide_eq_true hk;obtain⟨t,z,h1,h2⟩:=ahq h;exact⟨t,z,by simp[SV.er,SC.er,Ty.er,xH,e,hk];subst hk;exact h1,h2⟩
   ·cases h
 ·cases h
def O6 (op:BinOp) (x y:SV) (c:(t:Ty)->t.D->Option ρ):Option ρ:=
 match x,y with
 |.one (.v .bool a),.one (.v .bool b)=>match op with
  |.eql=>c .bool (eqB a b)
  |.neq=>c .bool (GZ a b)
  |_=>none
 |_,_=>none
theorem ahp {op:BinOp} {x y:SV} {c:(t:Ty)->t.D->Option ρ} {r:ρ} (h:O6 op x y c=some r):
  ∃(t:Ty) (z:t.D),Cq op x.er y.er=some (t.er z)/\c t z=some r:=by
 unfold O6 at h;split at h
 ·rename_i a b;split at h
  ·exact⟨.bool,_,rfl,h⟩
  ·exact⟨.bool,_,rfl,h⟩
  ·cases h
 ·cases h
def VW (op:UnOp) (x:SV) (c:(t:Ty)->t.D->Option ρ):Option ρ:=
 match x with
 |.one (.v .bool a)=>match op with
  |.not=>c .bool (dN a)
  |_=>none
 |.one (.v (.int k) a)=>match op with
  |.neg=>c (.int k) (aqq k a)
  |_=>none
 |_=>none
theorem atX {op:UnOp} {x:SV} {c:(t:Ty)->t.D->Option ρ} {r:ρ} (h:VW op x c=some r):
  ∃(t:Ty) (z:t.D),EI op x.er=some (t.er z)/\c t z=some r:=by
 unfold VW at h;split at h
 ·rename_i a;split at h
  ·exact⟨.bool,_,rfl,h⟩
  ·cases h
 ·rename_i k a;split at h
  ·exact⟨.int k,_,rfl,h⟩
  ·cases h
 ·cases h
def SV.dV:SV->Option Int
 |.one (.v (.int k) n)=>some n
 |_=>none
theorem SV.yx {v:SV} {n:Int} (h:v.dV=some n):v.er.dV=some n:=by
 unfold SV.dV at h;split at h
 ·injection h with h;subst h;rfl
 ·cases h
def HE (h:Nat->Option SB) (p:SC) (sz:Nat) (c:List SC->Option ρ):Option ρ:=
 match p with
 |.ptr n k aB off=>match h n with
  |some (.box cs)=>cr k 0 (match sub cs off sz with|some l=>c l|none=>none)
  |some (.row _ m ts xs)=>cr aB ts.length ((cu xs k).ae fun e=>
   match sub (match m with|.live=>Ty.live n k ts.length 0 ts e|_=>Ty.cells ts e) off sz with
   |some l=>c l
   |none=>none)
  |none=>none
 |.de ts x off=>match sub (Ty.cells ts x) off sz with|some l=>c l|none=>none
 |.cE ts x off j n s len=>match Nat.beq off j&&Nat.beq sz 1 with
  |true=>c [.sl n s 0 len]
  |false=>eC (Nat.ble (off+sz) j) (match sub (Ty.cells ts x) off sz with|some l=>c l|none=>none)
 |.cY n kk aB off s i=>match h n with
  |some (.row _ .live ts xs)=>cr ts.length aB ((cu xs kk).ae fun e=>match(Ty.gO ts e)[off]? with
   |some ⟨.list us,ys⟩=>cr us.length s (cr sz s (eC (Ty.fF us) ((cu (α:=Ty.DL us) ys i).ae fun y=>c (Ty.cells us y))))
   |_=>none)
  |_=>none
 |_=>none
theorem ZF {ts:List Ty} {ys:List (Ty.DL ts)} {i:Nat} {y:Ty.DL ts} (h:cu ys i=some y):(List.map (Ty.aE ts) ys)[i]? =some (Ty.aE ts y):=by
 have h0:ys[i]? =some y:=h;rw[List.getElem?_map,h0];rfl
theorem aqA {us:List Ty} {L:List (List C)} {i:Nat} {y:Ty.DL us} (h:L[i]? =some (Ty.aE us y)) (hs:Ty.fF us=true):
  (match L[i]? with|some e=>if Am.fF e=true then some (e.map .c) else none|none=>none)=some ((Ty.cells us y).map SC.er):=by
 rw[h];simp only[Ty.Hu,hs,if_true,Ty.kC]
theorem ah4:∀{ts:List Ty} {e:Ty.DL ts} {off:Nat} {x:TD},(Ty.gO ts e)[off]? =some x->(Ty.aE ts e)[off]? =some (x.1.er x.2):=by
 intro ts e off x h;rw[<-Ty.pw,dj,List.getElem?_map,h];rfl
theorem Vd {h:Nat->Option SB} {p:SC} {sz:Nat} {c:List SC->Option ρ} {r:ρ} (hx:HE h p sz c=some r):
  ∃l,loadAt (df h) p.er sz=some (l.map SC.er)/\c l=some r:=by
 unfold HE at hx;split at hx
 ·rename_i n k aB off;split at hx
  ·rename_i cs hn;have be:=(aP hx).1;replace hx:=(aP hx).2;subst be;split at hx
   ·rename_i l e;refine⟨l,?_,hx⟩;simp[SC.er,loadAt,df,hn,SB.er,sG,e]
   ·cases hx
  ·rename_i gr m ts xs hn;have be:=(aP hx).1;replace hx:=(aP hx).2;subst be;rw[d7] at hx;obtain⟨e,he,hx⟩:=hx
   replace he:xs[k]? =some e:=he
   split at hx
   ·rename_i l hl;refine⟨l,?_,hx⟩;have iT:(List.map (Ty.aE ts) xs)[k]? =some (Ty.aE ts e):=by rw[List.getElem?_map,he];rfl
    simp only[SC.er,loadAt,df,hn,Option.map_some,SB.er,if_true,iT];cases m with
    |live=>
     simp only at hl;have:=congrArg (Option.map (List.map SC.er)) hl;rw[<-sG,Ty.abf,atA] at this;cases hs:sub (Ty.aE ts e) off sz with
     |none=>rw[hs] at this;cases this
     |some l'=>rw[hs] at this;simpa using this
    |aO=>
     simp only at hl;have:=congrArg (Option.map (List.map SC.er)) hl;rw[<-sG,Ty.kC,sG] at this;cases hs:sub (Ty.aE ts e) off sz with
     |none=>rw[hs] at this;cases this
     |some l'=>rw[hs] at this;simpa using this
    |aI=>
     simp only at hl;have:=congrArg (Option.map (List.map SC.er)) hl;rw[<-sG,Ty.kC,sG] at this;cases hs:sub (Ty.aE ts e) off sz with
     |none=>rw[hs] at this;cases this
     |some l'=>rw[hs] at this;simpa using this
   ·cases hx
  ·cases hx
 ·rename_i ts x off;split at hx
  ·rename_i l hl;refine⟨l,?_,hx⟩;have:=congrArg (Option.map (List.map SC.er)) hl;rw[<-sG,Ty.kC,sG] at this;simpa[SC.er,loadAt] using this
  ·cases hx
 ·rename_i ts x off j n s len;split at hx
  ·rename_i hc;simp only[Bool.and_eq_true] at hc;have h1:=Nat.eq_of_beq_eq_true hc.1;have h2:=Nat.eq_of_beq_eq_true hc.2;subst h1 h2;exact⟨_,by simp[SC.er,loadAt],hx⟩
  ·rename_i hc;have aF:¬(off=j/\sz=1):=by
    rintro⟨rfl,rfl⟩;simp at hc
   have hb:=(bX hx).1;replace hx:=(bX hx).2;have gH:=Nat.le_of_ble_eq_true hb;split at hx
   ·rename_i l hl;refine⟨l,?_,hx⟩;have:=congrArg (Option.map (List.map SC.er)) hl;rw[<-sG,Ty.kC,sG] at this;simp only[SC.er,loadAt];rw[if_neg aF,if_pos gH];cases hs:sub (Ty.aE ts x) off sz with
    |none=>rw[hs] at this;cases this
    |some l'=>rw[hs] at this;simpa using this
   ·cases hx
 ·rename_i n kk aB off s i;split at hx
  ·rename_i gr ts xs hn;have be:=(aP hx).1;replace hx:=(aP hx).2;subst be;rw[d7] at hx;obtain⟨e,he,hx⟩:=hx
   replace he:xs[kk]? =some e:=he
   split at hx
   ·rename_i us ys hd;have be:=(aP hx).1;replace hx:=(aP hx).2;subst be;have be:=(aP hx).1;replace hx:=(aP hx).2;subst be;have hs:=(bX hx).1;replace hx:=(bX hx).2;rw[d7] at hx;obtain⟨y,hy,hx⟩:=hx;have hy2:(List.map (Ty.aE us) ys)[i]? =some (Ty.aE us y):=ZF (ts:=us) (ys:=ys) hy;refine⟨Ty.cells us y,?_,hx⟩;have iT:=ah4 hd;simp only[SC.er,loadAt,df,hn,Option.map_some,SB.er,if_true,List.getElem?_map,he,Option.bind_some,iT,Ty.er,and_self];exact aqA hy2 hs
   ·cases hx
  ·cases hx
 ·cases hx
theorem J9:∀{ts:List Ty} {e:Ty.DL ts} {off:Nat} {x:TD},(Ty.gO ts e)[off]? =some x->(Ty.aE ts e)[off]? =some (x.1.er x.2):=by
 intro ts e off x h;rw[<-Ty.pw,dj,List.getElem?_map,h];rfl
def xc (h:Nat->Option SB) (c:SC) (k:(t:Ty)->t.D->Option ρ):Option ρ:=
 match c with
 |.v t x=>k t x
 |.nil ts=>match ts with
  |[]=>none
  |t::us=>k (.list (t::us)) ([]:List (Ty.DL (t::us)))
 |.sl n sz lo len=>match h n with
  |some (.row _ _ ts xs)=>cr ts.length sz ((cX xs lo len).ae fun ys=>k (.list ts) ys)
  |_=>none
 |.bw n kk aB off sz len=>match h n with
  |some (.row _ .live ts xs)=>cr ts.length aB ((cu xs kk).ae fun e=>match(Ty.gO ts e)[off]? with
   |some ⟨t,x⟩=>k t x
   |none=>none)
  |_=>none
 |_=>none
theorem agT {ts:List Ty} {xs ys:List (Ty.DL ts)} {lo len:Nat} (h:cX xs lo len=some ys):lo+len<=xs.length/\((List.map (Ty.aE ts) xs).drop lo).take len=List.map (Ty.aE ts) ys:=by
 unfold cX at h;split at h
 ·rename_i hl;injection h with h;subst h;exact⟨hl,by simp[List.map_drop,List.map_take]⟩
 ·cases h
theorem Bv {h:Nat->Option SB} {c:SC} {k:(t:Ty)->t.D->Option ρ} {r:ρ} (hx:xc h c k=some r):
  ∃(t:Ty) (x:t.D),cO (df h) c.er=some (t.er x)/\k t x=some r:=by
 unfold xc at hx;split at hx
 ·exact⟨_,_,rfl,hx⟩
 ·split at hx
  ·cases hx
  ·rename_i t us;exact⟨.list (t::us),[],by simp[SC.er,cO,Ty.er],hx⟩
 ·rename_i n sz lo len;split at hx
  ·rename_i gr m ts xs hn;have be:=(aP hx).1;replace hx:=(aP hx).2;subst be;rw[d7] at hx;obtain⟨ys,hw,hx⟩:=hx;obtain⟨w1,w2⟩:=agT hw;refine⟨.list ts,ys,?_,hx⟩;simp only[SC.er,cO,df,hn,Option.map_some,SB.er,List.length_map,Ty.er,w2,w1,and_self,if_true]
  ·cases hx
 ·rename_i n kk aB off sz len;split at hx
  ·rename_i gr ts xs hn;have be:=(aP hx).1;replace hx:=(aP hx).2;subst be;rw[d7] at hx;obtain⟨e,he,hx⟩:=hx
   replace he:xs[kk]? =some e:=he
   split at hx
   ·rename_i t x hd;refine⟨t,x,?_,hx⟩;have:=J9 hd;simp only[SC.er,cO,df,hn,Option.map_some,SB.er,if_true,List.getElem?_map,he,Option.bind_some,this]
   ·cases hx
  ·cases hx
 ·cases hx
def Bw (h:Nat->Option SB):List SC->(List TD->Option ρ)->Option ρ
 |[],k=>k []
 |c::cs,k=>xc h c fun t x=>Bw h cs fun l=>k (⟨t,x⟩::l)
theorem HP {h:Nat->Option SB}:∀{cs:List SC} {k:List TD->Option ρ} {r:ρ},Bw h cs k=some r->
  ∃l,iL (df h) (cs.map SC.er)=some (dj l)/\k l=some r
 |[],k,r,hx=>⟨[],rfl,hx⟩
 |c::cs,k,r,hx=>by
  simp only[Bw] at hx;obtain⟨t,x,h1,h2⟩:=Bv hx;obtain⟨l,h3,h4⟩:=HP h2;exact⟨⟨t,x⟩::l,by simp[iL,h1,h3,dj],h4⟩
abbrev cd:=K×List TD
def cd.er (d:cd):Dv:=(d.1,dj d.2)
def VF (h:Nat->Option SB) (v:SV) (k:cd->Option ρ):Option ρ:=
 match v with
 |.one (.ptr n kk sz off)=>match h n with
  |some (.box cs)=>cr kk 0 (cr off 0 (Bw h cs fun l=>k (.ptr,l)))
  |_=>none
 |.one (.de ts x off)=>cr off 0 (k (.ptr,Ty.gO ts x))
 |.one c=>xc h c fun t x=>k (.one,[⟨t,x⟩])
 |.agg cs=>Bw h cs fun l=>k (.agg,l)
 |.bH _=>none
theorem atE {h:Nat->Option SB} {v:SV} {k:cd->Option ρ} {r:ρ} (hx:VF h v k=some r):
  ∃d:cd,je (df h) v.er=some d.er/\k d=some r:=by
 unfold VF at hx;split at hx
 ·rename_i n kk sz off;split at hx
  ·rename_i cs hn;have be:=(aP hx).1;replace hx:=(aP hx).2;subst be;have be:=(aP hx).1;replace hx:=(aP hx).2;subst be;obtain⟨l,h1,h2⟩:=HP hx;exact⟨(.ptr,l),by simp[SV.er,SC.er,je,df,hn,SB.er];exact⟨_,h1,rfl⟩,h2⟩
  ·cases hx
 ·rename_i ts x off;have be:=(aP hx).1;replace hx:=(aP hx).2;subst be;exact⟨(.ptr,Ty.gO ts x),by simp[SV.er,SC.er,je,cd.er,Ty.pw],hx⟩
 ·rename_i c hp hd;obtain⟨t,x,h1,h2⟩:=Bv hx;refine⟨(.one,[⟨t,x⟩]),?_,h2⟩;cases c with
  |ptr n kk sz off=>exact absurd rfl (hp n kk sz off)
  |de ts x off=>exact absurd rfl (hd ts x off)
  |v t' x'=>simp only[SV.er,SC.er,je] at h1⊢;rw[h1];rfl
  |nil ts=>simp only[SV.er,SC.er,je] at h1⊢;rw[h1];rfl
  |sl n sz lo len=>simp only[SV.er,SC.er,je] at h1⊢;rw[h1];rfl
  |bw n a b c' d e=>simp only[SV.er,SC.er,je] at h1⊢;rw[h1];rfl
  |cY n a b c' d e=>simp only[SV.er,SC.er,je] at h1⊢;rw[h1];rfl
  |cE ts x a b n c' d=>simp only[SV.er,SC.er,je] at h1⊢;rw[h1];rfl
  |fn f cK=>simp only[SV.er,SC.er,je] at h1⊢;rw[h1];rfl
  |bm=>simp only[SV.er,SC.er,je] at h1⊢;rw[h1];rfl
 ·obtain⟨l,h1,h2⟩:=HP hx;exact⟨(.agg,l),by simp[SV.er,je,h1,cd.er],h2⟩
 ·cases hx
def EC (h:Nat->Option SB):List SV->(List cd->Option ρ)->Option ρ
 |[],k=>k []
 |v::vs,k=>VF h v fun d=>EC h vs fun l=>k (d::l)
theorem M1 {h:Nat->Option SB}:∀{vs:List SV} {k:List cd->Option ρ} {r:ρ},EC h vs k=some r->
  ∃l,kU (df h) (vs.map SV.er)=some (l.map cd.er)/\k l=some r
 |[],k,r,hx=>⟨[],rfl,hx⟩
 |v::vs,k,r,hx=>by
  simp only[EC] at hx;obtain⟨d,h1,h2⟩:=atE hx;obtain⟨l,h3,h4⟩:=M1 h2;exact⟨d::l,by simp[kU,h1,h3],h4⟩
def Mode.own:Mode->Bool
 |.aI=>false
 |_=>true
theorem Mode.aqK (m:Mode):decide (m≠ .aI)=m.own:=by cases m<;>rfl
def MR (σ:af) (c:SC) (k:(t:Ty)->t.D->Bool->af->Option ρ):Option ρ:=
 match c with
 |.v t x=>k t x t.fh σ
 |.nil ts=>match ts with
  |[]=>none
  |t::us=>k (.list (t::us)) ([]:List (Ty.DL (t::us))) true σ
 |.sl n sz lo len=>match σ.h n with
  |some (.row _ m ts xs)=>cr ts.length sz (cr lo 0 ((dP xs len).ae fun ys=>k (.list ts) ys m.own (σ.del n)))
  |_=>none
 |_=>none
theorem VP {ts:List Ty} {xs ys:List (Ty.DL ts)} {len:Nat} (h:dP xs len=some ys):len<=xs.length/\(List.map (Ty.aE ts) xs).take len=List.map (Ty.aE ts) ys:=by
 unfold dP at h;split at h
 ·rename_i hl;injection h with h;subst h;exact⟨hl,by simp[List.map_take]⟩
 ·cases h
theorem af6 {σ:af} {c:SC} {k:(t:Ty)->t.D->Bool->af->Option ρ} {r:ρ} (hx:MR σ c k=some r):
  ∃(t:Ty) (x:t.D) (o:Bool) (σ1:af),σ.er.fR c.er=some (t.er x,o,σ1.er)/\k t x o σ1=some r:=by
 unfold MR at hx;split at hx
 ·rename_i t x;exact⟨_,_,_,_,by simp only[SC.er,St.fR,Ty.w5],hx⟩
 ·split at hx
  ·cases hx
  ·rename_i t us;exact⟨.list (t::us),[],true,σ,by simp[SC.er,St.fR,Ty.er],hx⟩
 ·rename_i n sz lo len;split at hx
  ·rename_i gr m ts xs hn;have be:=(aP hx).1;replace hx:=(aP hx).2;subst be;have be:=(aP hx).1;replace hx:=(aP hx).2;subst be;rw[d7] at hx;obtain⟨ys,hw,hx⟩:=hx;obtain⟨w1,w2⟩:=VP hw;refine⟨.list ts,ys,m.own,σ.del n,?_,hx⟩;have bu:σ.er.h n=some (.row gr m ts.length (List.map (Ty.aE ts) xs)):=by simp[af.er,df,hn,SB.er]
   simp only[SC.er,St.fR,bu,List.length_map,w1,w2,and_self,if_true,Ty.er,af.zS,Mode.aqK]
  ·cases hx
 ·cases hx
def Br (σ:af):List SC->(List TD->Bool->af->Option ρ)->Option ρ
 |[],k=>k [] true σ
 |c::cs,k=>MR σ c fun t x o σ1=>Br σ1 cs fun l o' σ2=>k (⟨t,x⟩::l) (o&&o') σ2
theorem HN:∀{cs:List SC} {σ:af} {k:List TD->Bool->af->Option ρ} {r:ρ},Br σ cs k=some r->
  ∃(l:List TD) (o:Bool) (σ1:af),σ.er.gw (cs.map SC.er)=some (dj l,o,σ1.er)/\k l o σ1=some r
 |[],σ,k,r,hx=>⟨[],true,σ,rfl,hx⟩
 |c::cs,σ,k,r,hx=>by
  simp only[Br] at hx;obtain⟨t,x,o,σ1,h1,h2⟩:=af6 hx;obtain⟨l,o',σ2,h3,h4⟩:=HN h2;exact⟨⟨t,x⟩::l,o&&o',σ2,by simp[St.gw,h1,h3,dj],h4⟩
def MS (ts:List Ty) (σ:af):List SV->(List (Ty.DL ts)->Bool->af->Option ρ)->Option ρ
 |[],k=>k [] true σ
 |v::vs,k=>match v.cells? with
  |some (_,cs)=>Br σ cs fun l o σ1=>match qV ts l with
   |some e=>MS ts σ1 vs fun es o' σ2=>k (e::es) (o&&o') σ2
   |none=>none
  |none=>none
theorem agw:∀{cs:List ah} {σ σ1:St} {l:List C} {o:Bool},σ.gw cs=some (l,o,σ1)->l.length=cs.length
 |[],σ,σ1,l,o,h=>by simp[St.gw] at h;rw[h.1];rfl
 |c::cs,σ,σ1,l,o,h=>by
  simp only[St.gw] at h;split at h
  ·split at h
   ·rename_i e2;injection h with h;injection h with h h2;subst h;simp[agw e2]
   ·cases h
  ·cases h
theorem af7 {ts:List Ty}:∀{vs:List SV} {σ:af} {k:List (Ty.DL ts)->Bool->af->Option ρ} {r:ρ},MS ts σ vs k=some r->
  ∃(es:List (Ty.DL ts)) (o:Bool) (σ1:af),σ.er.mS ts.length (vs.map SV.er)=some (List.map (Ty.aE ts) es,o,σ1.er)/\k es o σ1=some r
 |[],σ,k,r,hx=>⟨[],true,σ,rfl,hx⟩
 |v::vs,σ,k,r,hx=>by
  simp only[MS] at hx;split at hx
  ·rename_i b cs hc;obtain⟨l,o,σ1,h1,h2⟩:=HN hx;split at h2
   ·rename_i e he;obtain⟨es,o',σ2,h3,h4⟩:=af7 h2;have hl:(cs.map SC.er).length=ts.length:=by
     have a:=agw h1;rw[<-wN he,Ty.CQ] at a;exact a.symm
    refine⟨e::es,o&&o',σ2,?_,h4⟩;simp only[List.map_cons,St.mS,SV.kC hc,hl,if_true,h1,h3,wN he]
   ·cases h2
  ·cases hx
end
end Go.Am
