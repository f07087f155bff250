/- AmP, AmQ, AmG, AmH, AmI, AmJ, Am24, Am25, Am26, Am27, Am28, Am29, Am30, AmW, S0, S1, S2: parts of the proof. No condition. -/
import Derived.Test.YthildlkhnnogiaaAmF
set_option linter.unusedVariables false
set_option linter.unusedSimpArgs false
namespace Go.Am
theorem ah.aqD {c:ah} {m:Nat}:m∈c.t8↔c.hZ m:=by
 cases c<;>simp[ah.t8,ah.hZ]
theorem ah.HU {c:ah} {m:Nat}:m∈c.nm↔c.ref m:=by
 cases c with
 |fn f cP=>simp[ah.nm,ah.ref,List.mem_flatMap,ah.aqD]
 |_=>simp[ah.nm,ah.t8,ah.ref,ah.hZ]
theorem aj.BE {v:aj} {m:Nat}:m∈v.iw↔v.ref m:=by
 cases v with
 |one c=>exact ah.HU
 |agg cs=>simp[aj.iw,aj.ref,List.mem_flatMap,ah.HU]
 |bK xs=>simp only[aj.iw,aj.ref,List.mem_flatMap,ah.HU]
theorem rm {op:aT} {ev:MO->aj} {n:Nat}:n∈op.j8 ev↔∃a∈op.args,(ev a).ref n:=by
 simp[aT.j8,List.mem_flatMap,aj.BE]
theorem MD {op:aT} {ev:MO->aj} {h:Nat->Option aq} {n:Nat} (hn:n∈op.j8 ev):n∈op.nD ev h:=by
 unfold aT.nD;cases op.Hx with
 |true=>exact List.mem_append.2 (.inl hn)
 |false=>exact hn
theorem ahc {op:aT} {ev:MO->aj} {h:Nat->Option aq} {ws:List Nat} (hw:op.lQ ev h=some ws) {n:Nat} (hn:n∈ws):n∈op.j8 ev:=by
 cases op<;>simp only[aT.lQ] at hw<;>first|(cases hw;cases hn)|(cases hw;done)|skip
 case store sz x v=>
  split at hw
  ·rename_i q _ _ _ hx;have hq:q∈(aT.store sz x v).j8 ev:=rm.2 ⟨x,by simp[aT.args],by rw[hx];exact rfl⟩;split at hw
   ·injection hw with hw;subst hw;simp at hn;subst hn;exact hq
   ·injection hw with hw;subst hw;rcases List.mem_cons.1 hn with rfl|hn
    ·exact hq
    ·exact rm.2 ⟨v,by simp[aT.args],aj.BE.1 hn⟩
   ·cases hw
  ·rename_i q _ _ _ _ _ hx;have hq:q∈(aT.store sz x v).j8 ev:=rm.2 ⟨x,by simp[aT.args],by rw[hx];exact rfl⟩;injection hw with hw;subst hw;simp at hn;subst hn;exact hq
  ·cases hw
 case copy sz x y=>
  split at hw
  ·rename_i q _ _ _ hx;injection hw with hw;subst hw;simp at hn;subst hn;exact rm.2 ⟨x,by simp[aT.args],by rw[hx];exact rfl⟩
  ·cases hw
 case mG z x=>
  split at hw
  ·rename_i q _ _ _ hx;injection hw with hw;subst hw;simp at hn;subst hn;exact rm.2 ⟨x,by simp[aT.args],by rw[hx];exact rfl⟩
  ·cases hw
 case fI sz ps=>
  injection hw with hw;subst hw;obtain⟨a,ha,hn⟩:=List.mem_flatMap.1 hn;exact rm.2 ⟨a,ha,aj.BE.1 hn⟩
 case km f xs=>
  injection hw with hw;subst hw;obtain⟨a,ha,hn⟩:=List.mem_flatMap.1 hn;exact rm.2 ⟨a,ha,aj.BE.1 hn⟩
 case append fl sz by_ x y=>
  injection hw with hw;subst hw;rcases List.mem_append.1 hn with hn|hn
  ·exact rm.2 ⟨x,by simp[aT.args],aj.BE.1 hn⟩
  ·exact rm.2 ⟨y,by simp[aT.args],aj.BE.1 hn⟩
def St.eF (σ:St):List (Nat×Option aq)->St
 |[]=>σ
 |(n,b)::l=>St.eF {σ with h:=az σ.h n b} l
def eX (h:Nat->Option aq):List (Nat×Option aq)->(Nat->Option aq)
 |[]=>h
 |(n,b)::l=>eX (az h n b) l
theorem mW:∀(l:List (Nat×Option aq)) (σ:St),σ.eF l={σ with h:=eX σ.h l}
 |[],σ=>rfl
 |(n,b)::l,σ=>by simp only[St.eF,eX];rw[mW l]
theorem pB:∀{l:List (Nat×Option aq)} {h:Nat->Option aq} {n:Nat},(∀p∈l,p.1≠n)->eX h l n=h n
 |[],h,n,_=>rfl
 |(m,b)::l,h,n,hn=>by
  simp only[eX];rw[pB fun p hp=>hn p (List.mem_cons_of_mem _ hp)];exact cN _ _ _ _ (fun e=>hn (m,b) (by simp) e.symm)
theorem at7 (h:Nat->Option aq) (l l':List (Nat×Option aq)):eX h (l++l')=eX (eX h l) l':=by
 induction l generalizing h with
 |nil=>rfl
 |cons x l ih=>obtain⟨n,b⟩:=x;exact ih _
theorem Fs (σ:St) (l l':List (Nat×Option aq)):σ.eF (l++l')=(σ.eF l).eF l':=by
 simp only[mW,at7]
theorem IQ:∀{l:List (Nat×Option aq)} {h h':Nat->Option aq} {n:Nat},(∃p∈l,p.1=n)->eX h l n=eX h' l n
 |[],h,h',n,hn=>by obtain⟨p,hp,_⟩:=hn;cases hp
 |(m,b)::l,h,h',n,hn=>by
  simp only[eX];by_cases hl:∃p∈l,p.1=n
  ·exact IQ hl
  ·have cm:∀p∈l,p.1≠n:=fun p hp e=>hl ⟨p,hp,e⟩;rw[pB cm,pB cm];obtain⟨p,hp,e⟩:=hn;rcases List.mem_cons.1 hp with rfl|hp
   ·simp only at e;subst e;rw[bR,bR]
   ·exact absurd e (cm p hp)
theorem agV {u v:List (Nat×Option aq)} (hd:∀p∈u,∀q∈v,p.1≠q.1) (h:Nat->Option aq):eX (eX h u) v=eX (eX h v) u:=by
 funext n;by_cases hu:∃p∈u,p.1=n
 ·obtain⟨p,hp,rfl⟩:=hu;rw[pB (l:=v) fun q hq e=>hd p hp q hq e.symm];exact IQ ⟨p,hp,rfl⟩
 ·rw[pB (l:=u) (h:=eX h v) fun p hp e=>hu ⟨p,hp,e⟩];by_cases hv:∃q∈v,q.1=n
  ·exact IQ hv
  ·rw[pB fun q hq e=>hv ⟨q,hq,e⟩,pB fun p hp e=>hu ⟨p,hp,e⟩,pB fun q hq e=>hv ⟨q,hq,e⟩]
theorem at9 {u v:List (Nat×Option aq)} (hd:∀p∈u,∀q∈v,p.1≠q.1) (σ:St):(σ.eF u).eF v=(σ.eF v).eF u:=by
 simp only[mW,agV hd]
theorem agW (σ:St) (e:Nat->aj) (l:List (Nat×Option aq)):(σ.we e).eF l=(σ.eF l).we e:=by
 simp only[mW];rfl
theorem at8 {l:List (Nat×Option aq)} {h:Nat->Option aq} {n:Nat} {b:Option aq} (hn:∀p∈l,p.1≠n):eX (az h n b) l=az (eX h l) n b:=by
 have:=agV (u:=l) (v:=[(n,b)]) (fun p hp q hq=>by simp at hq;subst hq;exact hn p hp) h;exact this.symm
theorem al9 {σ σ1:St} {l:List (Nat×Option aq)} {n:Nat} {b:aq} (hl:∀p∈l,σ.used p.1=true) (h:σ.ins n b=some σ1):(σ.eF l).ins n b=some (σ1.eF l):=by
 obtain⟨u1,rfl⟩:=kx h;unfold St.ins;rw[mW,mW];rw[if_neg (show¬σ.used n=true by rw[u1];simp)];simp only
 rw[at8 fun p hp e=>by rw[<-e,hl p hp] at u1;cases u1]
theorem Hv:∀{A:List (Nat×aq)} {σ σ1:St} {l:List (Nat×Option aq)},(∀p∈l,σ.used p.1=true)->σ.dF A=some σ1->(σ.eF l).dF A=some (σ1.eF l)
 |[],σ,σ1,l,hl,h=>by
  simp only[St.dF] at h⊢;injection h with h;rw[h]
 |(n,b)::A,σ,σ1,l,hl,h=>by
  simp only[St.dF] at h⊢;split at h
  ·rename_i lv e;rw[al9 hl e];obtain⟨u1,rfl⟩:=kx e;exact Hv (fun p hp=>oF _ _ (hl p hp)) h
  ·cases h
theorem aaU:∀{A:List (Nat×aq)} {σ σ':St},σ.used=σ'.used->(σ.dF A).isSome=true->(σ'.dF A).isSome=true
 |[],σ,σ',hu,h=>rfl
 |(n,b)::A,σ,σ',hu,h=>by
  simp only[St.dF,St.ins] at h⊢;rw[<-hu];split at h
  ·rename_i lv e;split at e
   ·cases e
   ·rename_i hn;injection e with e;subst e;rw[if_neg hn];simp only
    exact aaU (by rfl) h
  ·cases h
theorem SI {A:List (Nat×aq)} {σ B:St} {l:List (Nat×Option aq)} (hl:∀p∈l,σ.used p.1=true) (h:(σ.eF l).dF A=some B):∃B',σ.dF A=some B'/\B=B'.eF l:=by
 have hs:(σ.dF A).isSome=true:=aaU (A:=A) (σ:=σ.eF l) (σ':=σ) (by rw[mW]) (by rw[h];rfl);cases e:σ.dF A with
 |none=>rw[e] at hs;cases hs
 |some B'=>
  refine⟨B',rfl,?_⟩;have:=Hv hl e;rw[h] at this;injection this
abbrev Us:=List (Nat×Option aq)
def uh (h:Nat->Option aq):ah->Option (C×Bool×Us)
 |.c x=>some (x,x.fk,[])
 |.nil sz=>if 0<sz then some (.list sz [],true,[]) else none
 |.sl n sz lo len=>
  match h n with
  |some (.row _ m rs xs)=>if rs=sz/\lo=0/\len<=xs.length then some (.list sz (xs.take len),decide (m≠ .aJ),[(n,none)]) else none
  |_=>none
 |_=>none
def lk (h:Nat->Option aq):List ah->Option (List C×Bool×Us)
 |[]=>some ([],true,[])
 |c::cs=>match uh h c with
  |some (x,o,u)=>match lk (eX h u) cs with
   |some (xs,o',u')=>some (x::xs,o&&o',u++u')
   |none=>none
  |none=>none
def qu (sz:Nat) (h:Nat->Option aq):List aj->Option (List (List C)×Bool×Us)
 |[]=>some ([],true,[])
 |v::vs=>match v.cells? with
  |some (_,cs)=>if cs.length=sz then
   match lk h cs with
   |some (e,o,u)=>match qu sz (eX h u) vs with
    |some (es,o',u')=>some (e::es,o&&o',u++u')
    |none=>none
   |none=>none
   else none
  |none=>none
theorem IU (σ:St) (l:Us):(σ.eF l).h=eX σ.h l:=by rw[mW]
theorem atZ (σ:St) (c:ah):σ.fY c=(uh σ.h c).map fun x=>(x.1,x.2.1,σ.eF x.2.2):=by
 cases c with
 |sl n sz lo len=>
  simp only[St.fY,uh];cases σ.h n with
  |none=>rfl
  |some b=>cases b with
   |box cs=>rfl
   |row gr m rs xs=>simp only;split<;>rfl
 |nil sz=>simp only[St.fY,uh];split<;>rfl
 |_=>rfl
theorem N1:∀(cs:List ah) (σ:St),σ.gC cs=(lk σ.h cs).map fun x=>(x.1,x.2.1,σ.eF x.2.2)
 |[],σ=>rfl
 |c::cs,σ=>by
  simp only[St.gC,lk,atZ];cases uh σ.h c with
  |none=>rfl
  |some x=>
   obtain⟨x,o,u⟩:=x;simp only[Option.map_some,N1 cs,IU];cases lk (eX σ.h u) cs with
   |none=>rfl
   |some y=>obtain⟨xs,o',u'⟩:=y;simp only[Option.map_some,Fs]
theorem agM (sz:Nat):∀(vs:List aj) (σ:St),σ.mV sz vs=(qu sz σ.h vs).map fun x=>(x.1,x.2.1,σ.eF x.2.2)
 |[],σ=>rfl
 |v::vs,σ=>by
  simp only[St.mV,qu];cases v.cells? with
  |none=>rfl
  |some x=>
   obtain⟨b,cs⟩:=x;simp only
   split
   ·rw[N1];cases lk σ.h cs with
    |none=>rfl
    |some y=>
     obtain⟨e,o,u⟩:=y;simp only[Option.map_some,agM sz vs,IU];cases qu sz (eX σ.h u) vs with
     |none=>rfl
     |some y=>obtain⟨es,o',u'⟩:=y;simp only[Option.map_some,Fs]
   ·rfl
theorem atX {h:Nat->Option aq} {c:ah} {x:C} {o:Bool} {u:Us} (e:uh h c=some (x,o,u)):∀q∈u,q.1∈c.nm:=by
 unfold uh at e;split at e
 ·injection e with e;injection e with _ e;injection e with _ e;subst e;intro q hq;cases hq
 ·split at e
  ·injection e with e;injection e with _ e;injection e with _ e;subst e;intro q hq;cases hq
  ·cases e
 ·split at e
  ·split at e
   ·injection e with e;injection e with _ e;injection e with _ e;subst e;intro q hq;simp at hq;subst hq;simp[ah.nm,ah.t8]
   ·cases e
  ·cases e
 ·cases e
theorem N0:∀{cs:List ah} {h:Nat->Option aq} {xs:List C} {o:Bool} {u:Us},lk h cs=some (xs,o,u)->∀q∈u,q.1∈cs.flatMap ah.nm
 |[],h,xs,o,u,e=>by
  simp only[lk] at e;injection e with e;injection e with _ e;injection e with _ e;subst e;intro q hq;cases hq
 |c::cs,h,xs,o,u,e=>by
  simp only[lk] at e;split at e
  ·rename_i x o1 u1 e1;split at e
   ·rename_i gD o2 u2 e2;injection e with e;injection e with _ e;injection e with _ e;subst e;intro q hq;rw[List.flatMap_cons];rcases List.mem_append.1 hq with hq|hq
    ·exact List.mem_append.2 (.inl (atX e1 q hq))
    ·exact List.mem_append.2 (.inr (N0 e2 q hq))
   ·cases e
  ·cases e
theorem Da {v:aj} {b:Bool} {cs:List ah} (h:v.cells?=some (b,cs)):cs.flatMap ah.nm=v.iw:=by
 cases v with
 |one c=>cases c<;>simp[aj.cells?] at h<;>(obtain⟨_,rfl⟩:=h;simp[aj.iw])
 |agg cs'=>simp[aj.cells?] at h;obtain⟨_,rfl⟩:=h;rfl
 |bK xs=>simp[aj.cells?] at h
theorem agL {sz:Nat}:∀{vs:List aj} {h:Nat->Option aq} {xs:List (List C)} {o:Bool} {u:Us},qu sz h vs=some (xs,o,u)->∀q∈u,q.1∈vs.flatMap aj.iw
 |[],h,xs,o,u,e=>by
  simp only[qu] at e;injection e with e;injection e with _ e;injection e with _ e;subst e;intro q hq;cases hq
 |v::vs,h,xs,o,u,e=>by
  simp only[qu] at e;split at e
  ·rename_i b cs hv;split at e
   ·split at e
    ·rename_i x o1 u1 e1;split at e
     ·rename_i gD o2 u2 e2;injection e with e;injection e with _ e;injection e with _ e;subst e;intro q hq;rw[List.flatMap_cons];rcases List.mem_append.1 hq with hq|hq
      ·exact List.mem_append.2 (.inl (Da hv▸N0 e1 q hq))
      ·exact List.mem_append.2 (.inr (agL e2 q hq))
     ·cases e
    ·cases e
   ·cases e
  ·cases e
theorem IP {h h':Nat->Option aq} {n:Nat} (hh:h' n=h n) (u:Us):eX h' u n=eX h u n:=by
 by_cases hu:∃p∈u,p.1=n
 ·exact IQ hu
 ·rw[pB fun p hp e=>hu ⟨p,hp,e⟩,pB fun p hp e=>hu ⟨p,hp,e⟩,hh]
theorem atW {h h':Nat->Option aq} {c:ah} (hh:∀n∈c.nm,h' n=h n):uh h' c=uh h c:=by
 cases c with
 |sl n sz lo len=>simp only[uh];rw[hh n (by simp[ah.nm,ah.t8])]
 |_=>rfl
theorem NZ:∀{cs:List ah} {h h':Nat->Option aq},(∀n∈cs.flatMap ah.nm,h' n=h n)->lk h' cs=lk h cs
 |[],h,h',_=>rfl
 |c::cs,h,h',hh=>by
  simp only[lk];rw[atW fun n hn=>hh n (by rw[List.flatMap_cons];exact List.mem_append.2 (.inl hn))];cases uh h c with
  |none=>rfl
  |some x=>
   obtain⟨x,o,u⟩:=x;simp only
   rw[NZ (cs:=cs) (h:=eX h u) (h':=eX h' u) fun n hn=>IP (hh n (by rw[List.flatMap_cons];exact List.mem_append.2 (.inr hn))) u]
theorem agK {sz:Nat}:∀{vs:List aj} {h h':Nat->Option aq},(∀n∈vs.flatMap aj.iw,h' n=h n)->qu sz h' vs=qu sz h vs
 |[],h,h',_=>rfl
 |v::vs,h,h',hh=>by
  simp only[qu];cases hv:v.cells? with
  |none=>rfl
  |some x=>
   obtain⟨b,cs⟩:=x;simp only
   rw[NZ (cs:=cs) fun n hn=>hh n (by rw[List.flatMap_cons];exact List.mem_append.2 (.inl (Da hv▸hn)))];cases lk h cs with
   |none=>rfl
   |some y=>
    obtain⟨e,o,u⟩:=y;simp only
    rw[agK (vs:=vs) (h:=eX h u) (h':=eX h' u) fun n hn=>IP (hh n (by rw[List.flatMap_cons];exact List.mem_append.2 (.inr hn))) u]
def zP (h:Nat->Option aq) (n:Nat) (gr:Bool) (m:Mode) (rs:Nat) (xs:List (List C)) (k off:Nat) (e:List C) (vs:List ah):Option Us:=
 match sub e off vs.length with
 |none=>none
 |some ii=>match lk h vs with
  |none=>none
  |some (cs,o,u)=>
   if m=.live then
    if fG cs=true/\fG ii=true/\(eX h u n).isSome=true/\gr=false then some (u++[(n,some (.row gr m rs (xs.set k (dq e off cs))))]) else none
   else if(eX h u n).isSome=true then some (u++[(n,some (.row gr (if o=true then m else .aJ) rs (xs.set k (dq e off cs))))])
   else none
theorem atJ (σ:St) (n:Nat) (gr:Bool) (m:Mode) (rs:Nat) (xs:List (List C)) (k off:Nat) (e:List C) (vs:List ah):
  oA σ n gr m rs xs k off e vs=(zP σ.h n gr m rs xs k off e vs).map fun u=>σ.eF u:=by
 unfold oA zP;cases sub e off vs.length with
 |none=>rfl
 |some ii=>
  simp only[N1];cases lk σ.h vs with
  |none=>rfl
  |some x=>
   obtain⟨cs,o,u⟩:=x;simp only[Option.map_some,IU]
   repeat' split
   all_goals first|rfl|(simp only[Option.map_some,Fs];rfl)
def ym (h:Nat->Option aq) (sz:Nat):aj->Option (List (List C)×Mode×List (Nat×Option aq))
 |.one (.nil _)=>some ([],.aN,[])
 |.one (.sl a s 0 len)=>match h a with
  |some (.row true m rs xs)=>if rs=sz/\s=sz/\len=xs.length then some (xs,m,[(a,none)]) else none
  |_=>none
 |_=>none
def wi (fl:Bool) (h:Nat->Option aq) (sz:Nat) (m:Mode):aj->Option (List (List C)×Mode×List (Nat×Option aq))
  |.one (.nil _)=>some ([],m,[])
  |.one (.c (.list s ys))=>if s=sz then(if(fl&&eP ys)=true then some (ys,m,[]) else if m=.live then none else some (ys,.aJ,[])) else none
  |.one (.sl b s lo len)=>match h b with
   |some (.row gr m' rs ys)=>if rs=sz/\s=sz/\lo+len<=ys.length then
       (if(fl&&eP ((ys.drop lo).take len))=true then some ((ys.drop lo).take len,m,[])
        else if lo=0/\len=ys.length then(if m=m'/\(m=.live->gr=true) then some (ys,m,[(b,none)]) else if m=.live\/m'=.live then none else some (ys,.aJ,[(b,none)])) else none)
    else none
   |_=>none
  |_=>none
theorem ahs (σ:St) (sz:Nat) (v:aj):rR σ sz v=(ym σ.h sz v).map fun x=>(x.1,x.2.1,σ.eF x.2.2):=by
 cases v with
 |one v=>cases v with
  |sl a s lo len=>cases lo with
   |zero=>
    simp only[rR,ym];cases σ.h a with
    |none=>rfl
    |some b=>cases b with
     |box cs=>rfl
     |row gr m rs xs=>cases gr with
      |true=>simp only;split<;>rfl
      |false=>rfl
   |succ lo=>rfl
  |_=>rfl
 |_=>rfl
theorem ahu (fl:Bool) (σ:St) (sz:Nat) (m:Mode) (v:aj):mD fl σ sz m v=(wi fl σ.h sz m v).map fun x=>(x.1,x.2.1,σ.eF x.2.2):=by
 cases v with
 |one v=>cases v with
  |sl b s lo len=>
   simp only[mD,wi];cases σ.h b with
   |none=>rfl
   |some b=>cases b with
    |box cs=>rfl
    |row gr m rs xs=>
     simp only
     repeat' split
     all_goals rfl
  |c x=>cases x with
   |list s ys=>
    simp only[mD,wi]
    repeat' split
    all_goals rfl
   |_=>rfl
  |_=>rfl
 |_=>rfl
def mZ (h:Nat->Option aq):List aj->Option (List Dv×List Nat×Us)
 |[]=>some ([],[],[])
 |v::vs=>match m4 h v with
  |some (n,xs)=>match mZ h vs with
   |some (ds,ns,u)=>some ((.ptr,xs)::ds,n::ns,u)
   |none=>none
  |none=>match v.cells? with
   |some (ag,cs)=>match lk h cs with
    |some (xs,_,u)=>match mZ (eX h u) vs with
     |some (ds,ns,u')=>some ((if ag=true then .agg else .one,xs)::ds,ns,u++u')
     |none=>none
    |none=>none
   |none=>none
theorem PX:∀(vs:List aj) (σ:St),σ.iQ vs=(mZ σ.h vs).map fun x=>(x.1,x.2.1,σ.eF x.2.2)
 |[],σ=>rfl
 |v::vs,σ=>by
  simp only[St.iQ,mZ];cases m4 σ.h v with
  |some x=>
   obtain⟨n,xs⟩:=x;simp only[PX vs σ];cases mZ σ.h vs<;>rfl
  |none=>
   simp only
   cases v.cells? with
   |none=>rfl
   |some x=>
    obtain⟨ag,cs⟩:=x;simp only
    rw[N1];cases lk σ.h cs with
    |none=>rfl
    |some y=>
     obtain⟨e,o,u⟩:=y;simp only[Option.map_some,PX vs,IU];cases mZ (eX σ.h u) vs with
     |none=>rfl
     |some y=>obtain⟨ds,ns,u'⟩:=y;simp only[Option.map_some,Fs]
theorem ahH {h:Nat->Option aq} {v:aj} {n:Nat} {xs:List C} (e:m4 h v=some (n,xs)):n∈v.iw:=by
 obtain⟨sz,cs,rfl,_⟩:=PZ e;simp[aj.iw,ah.nm,ah.t8]
theorem Ko:∀{vs:List aj} {h:Nat->Option aq} {ds:List Dv} {ns:List Nat} {u:Us},mZ h vs=some (ds,ns,u)->(∀q∈u,q.1∈vs.flatMap aj.iw)/\∀n∈ns,n∈vs.flatMap aj.iw
 |[],h,ds,ns,u,e=>by
  simp only[mZ] at e;injection e with e;injection e with _ e;injection e with e1 e;subst e e1;exact⟨fun q hq=>(by cases hq),fun q hq=>(by cases hq)⟩
 |v::vs,h,ds,ns,u,e=>by
  simp only[mZ] at e;split at e
  ·rename_i n xs hp;split at e
   ·rename_i uP lK u' e2;injection e with e;injection e with _ e;injection e with e1 e;subst e e1;obtain⟨i1,i2⟩:=Ko e2;rw[List.flatMap_cons];refine⟨fun q hq=>List.mem_append.2 (.inr (i1 q hq)),fun m hm=>?_⟩;rcases List.mem_cons.1 hm with rfl|hm
    ·exact List.mem_append.2 (.inl (ahH hp))
    ·exact List.mem_append.2 (.inr (i2 m hm))
   ·cases e
  ·split at e
   ·rename_i b cs hv;split at e
    ·rename_i x o1 u1 e1;split at e
     ·rename_i ds2 ns2 u2 e2;injection e with e;injection e with _ e;injection e with e3 e;subst e e3;obtain⟨i1,i2⟩:=Ko e2;rw[List.flatMap_cons];refine⟨fun q hq=>?_,fun m hm=>List.mem_append.2 (.inr (i2 m hm))⟩;rcases List.mem_append.1 hq with hq|hq
      ·exact List.mem_append.2 (.inl (Da hv▸N0 e1 q hq))
      ·exact List.mem_append.2 (.inr (i1 q hq))
     ·cases e
    ·cases e
   ·cases e
theorem ahG {h h':Nat->Option aq} {v:aj} (hh:∀n∈v.iw,h' n=h n):m4 h' v=m4 h v:=by
 cases v with
 |one c=>cases c with
  |ptr n k sz off=>simp only[m4];rw[hh n (by simp[aj.iw,ah.nm,ah.t8])]
  |_=>rfl
 |_=>rfl
theorem PV:∀{vs:List aj} {h h':Nat->Option aq},(∀n∈vs.flatMap aj.iw,h' n=h n)->mZ h' vs=mZ h vs
 |[],h,h',_=>rfl
 |v::vs,h,h',hh=>by
  have h1:∀n∈v.iw,h' n=h n:=fun n hn=>hh n (by rw[List.flatMap_cons];exact List.mem_append.2 (.inl hn));have h2:∀n∈vs.flatMap aj.iw,h' n=h n:=fun n hn=>hh n (by rw[List.flatMap_cons];exact List.mem_append.2 (.inr hn));simp only[mZ];rw[ahG h1];cases m4 h v with
  |some x=>
   obtain⟨n,xs⟩:=x;simp only
   rw[PV h2]
  |none=>
   simp only
   cases hv:v.cells? with
   |none=>rfl
   |some x=>
    obtain⟨b,cs⟩:=x;simp only
    rw[NZ (cs:=cs) fun n hn=>h1 n (Da hv▸hn)];cases lk h cs with
    |none=>rfl
    |some y=>
     obtain⟨e,o,u⟩:=y;simp only
     rw[PV (vs:=vs) (h:=eX h u) (h':=eX h' u) fun n hn=>IP (h2 n hn) u]
def xB (h:Nat->Option aq):List Nat->List C->Option Us
 |[],[]=>some []
 |[n],out=>match h n with
  |some (.box cs)=>if cs.length=out.length then some [(n,some (.box (out.map .c)))] else none
  |_=>none
 |_,_=>none
theorem asc (σ:St) (ns:List Nat) (out:List C):σ.sP ns out=(xB σ.h ns out).map σ.eF:=by
 match ns,out with
 |[],[]=>rfl
 |[],_::_=>rfl
 |[n],out=>
  simp only[St.sP,xB];cases σ.h n with
  |none=>rfl
  |some b=>
   cases b with
   |box cs=>simp only;split<;>rfl
   |row gr m rs xs=>rfl
 |_::_::_,out=>rfl
theorem asb {h:Nat->Option aq} {ns:List Nat} {out:List C} {u:Us} (e:xB h ns out=some u):∀q∈u,q.1∈ns:=by
 unfold xB at e;split at e
 ·injection e with e;subst e;intro q hq;cases hq
 ·split at e
  ·split at e
   ·injection e with e;subst e;intro q hq;simp at hq;subst hq;simp
   ·cases e
  ·cases e
 ·cases e
theorem asa {h h':Nat->Option aq} {ns:List Nat} {out:List C} (hh:∀n∈ns,h' n=h n):xB h' ns out=xB h ns out:=by
 match ns,out with
 |[],[]=>rfl
 |[],_::_=>rfl
 |[n],out=>simp only[xB];rw[hh n (by simp)]
 |_::_::_,out=>rfl
def CZ (d:Option Nat):List Dv->Option (aj×List (Nat×aq))
 |[(.ptr,cs)]=>match d with
  |some q=>some (.one (.ptr q 0 0 0),[(q,.box (cs.map .c))])
  |none=>none
 |rs=>match kt rs with
  |some ls=>some (mr ls,[])
  |none=>none
theorem ahI (σ:St) (d:Option Nat) (rs:List Dv):rT σ d rs=(CZ d rs).bind fun x=>(σ.dF x.2).map (·.put d x.1):=by
 unfold rT;split
 ·cases d with
  |none=>rfl
  |some q=>
   simp only[CZ,Option.bind_some,St.dF];cases σ.ins q _<;>rfl
 ·rename_i aD;have e:CZ d rs=match kt rs with
    |some ls=>some (mr ls,[])
    |none=>none:=by
   unfold CZ;split
   ·exact absurd rfl (aD _)
   ·rfl
  rw[e];cases kt rs with
  |none=>rfl
  |some ls=>rfl
abbrev PE:=aj×List (Nat×Option aq)×List (Nat×aq)
def ib (T:aQ) (d:Option Nat) (op:aT) (ev:MO->aj) (h:Nat->Option aq):Option PE:=
 match op with
 |.store sz x v=>match ev x,(ev v).cells? with
  |.one (.ptr n k aB off),some (_,vs)=>if vs.length=sz then
   match h n with
   |some (.box cs)=>if k=0/\off+sz<=cs.length then some (.one .bq,[(n,some (.box (dq cs off vs)))],[]) else none
   |some (.row gr m rs xs)=>if aB=rs then
    match xs[k]? with
    |some e=>match zP h n gr m rs xs k off e vs with
     |some u=>some (.one .bq,u,[])
     |none=>none
    |none=>none
    else none
   |none=>none
   else none
  |.one (.db n k aB off s i),some (_,vs)=>if vs.length=sz then
   match h n with
   |some (.row false .live rs xs)=>if aB=rs then
    match xO xs k off s i vs with
    |some av=>some (.one .bq,[(n,some (.row false .live rs av))],[])
    |none=>none
    else none
   |_=>none
   else none
  |_,_=>none
 |.fI sz ps=>match d,qu sz h (ps.map ev) with
  |some n,some (es,o,u)=>some (.one (.sl n sz 0 es.length),u,[(n,.row true (if o=true then .aN else .aJ) sz es)])
  |_,_=>none
 |.append fl sz by_ x y=>match d with
  |none=>none
  |some n=>match ym h sz (ev x) with
   |none=>none
   |some (xs,m,u1)=>match wi fl (eX h u1) sz m (ev y) with
    |none=>none
    |some (ys,m2,u2)=>if(xs.length+ys.length)*by_<=dX then some (.one (.sl n sz 0 (xs.length+ys.length)),u1++u2,[(n,.row true m2 sz (xs++ys))]) else none
 |.km f xs=>match mZ h (xs.map ev),aQ.lZ T.vs f with
  |some (ds,ns,u),some M=>match M ds with
   |some (rs,out)=>match xB (eX h u) ns out,CZ d rs with
    |some u',some (v,is)=>some (v,u++u',is)
    |_,_=>none
   |none=>none
  |_,_=>none
 |.copy sz x y=>match ev x,ev y with
  |.one (.sl n s lo len),.one c=>match h n,cO h c with
   |some (.row gr m rs xs),some (.list s' ys)=>if sz=1/\s=1/\rs=1/\s'=1/\m≠ .aJ/\eP xs=true/\eP ys=true/\lo+len<=xs.length then
    some (.one (.c (.int .i64 (Nat.min ys.length len:Nat))),[(n,some (.row gr m 1 (dq xs lo (ys.take len))))],[]) else none
   |_,_=>none
  |_,_=>none
 |.mG z x=>match ev x with
  |.one (.sl n s lo len)=>match h n with
   |some (.row gr m rs xs)=>if s=1/\rs=1/\z.fk=true/\m≠ .aJ/\eP xs=true/\lo+len<=xs.length then
    some (.bK [],[(n,some (.row gr m 1 (dq xs lo (List.replicate len [z]))))],[]) else none
   |_=>none
  |_=>none
 |op=>(rd T d op ev h).map fun x=>(x.1,[],x.2)
def yF (d:Option Nat) (σ:St) (p:PE):Option St:=((σ.eF p.2.1).dF p.2.2).map (·.put d p.1)
theorem KW {T:aQ} {d:Option Nat} {op:aT} {σ:St} {ws:List Nat} (hw:op.lQ σ.ev σ.h=some ws) (hd:∀sz x v,op=.store sz x v->d=none):
  exec T d op σ=(ib T d op σ.ev σ.h).bind (yF d σ):=by
 by_cases hc:op.fa<=1
 ·rw[qF T d op σ hc];have:ib T d op σ.ev σ.h=(rd T d op σ.ev σ.h).map fun x=>(x.1,[],x.2):=by
   cases op<;>first|rfl|(simp[aT.fa] at hc)
  rw[this];cases rd T d op σ.ev σ.h with
  |none=>rfl
  |some x=>rfl
 ·cases op<;>simp[aT.fa] at hc<;>simp only[aT.lQ] at hw
  case gU=>cases hw
  case nJ=>cases hw
  case pM=>cases hw
  case copy sz x y=>
   simp only[exec,ib];cases σ.ev x with
   |one p=>cases p with
    |sl n s lo len=>
     cases σ.ev y with
     |one c=>
      simp only
      cases σ.h n with
      |none=>rfl
      |some b=>cases b with
       |box cs=>rfl
       |row gr m rs xs=>
        cases cO σ.h c with
        |none=>rfl
        |some q=>cases q with
         |list s' ys=>
          simp only
          split<;>rfl
         |_=>rfl
     |_=>rfl
    |_=>rfl
   |_=>rfl
  case mG z x=>
   simp only[exec,ib];cases σ.ev x with
   |one p=>cases p with
    |sl n s lo len=>
     simp only
     cases σ.h n with
     |none=>rfl
     |some b=>cases b with
      |box cs=>rfl
      |row gr m rs xs=>
       simp only
       split<;>rfl
    |_=>rfl
   |_=>rfl
  case tail=>cases hw
  case rj=>cases hw
  case km f xs=>
   simp only[exec,ib,rY,PX];cases mZ σ.h (xs.map σ.ev) with
   |none=>rfl
   |some x=>
    obtain⟨ds,ns,u⟩:=x;simp only[Option.map_some];cases aQ.lZ T.vs f with
    |none=>rfl
    |some M=>
     simp only
     cases M ds with
     |none=>rfl
     |some z=>
      obtain⟨rs,out⟩:=z;simp only[asc,IU];cases xB (eX σ.h u) ns out with
      |none=>rfl
      |some u'=>
       simp only[Option.map_some,ahI];cases CZ d rs with
       |none=>rfl
       |some z=>
        obtain⟨v,is⟩:=z;simp only[Option.bind_some,yF,Fs]
  case fI sz ps=>
   simp only[exec,ib];rw[agM];cases d with
   |none=>rfl
   |some n=>
    cases qu sz σ.h (ps.map σ.ev) with
    |none=>rfl
    |some x=>
     obtain⟨es,o,u⟩:=x;simp only[Option.map_some,Option.bind_some,yF,St.dF];cases (σ.eF u).ins n (.row true (if o=true then .aN else .aJ) sz es)<;>rfl
  case append fl sz by_ x y=>
   simp only[exec,ib,ahs];cases d with
   |none=>rfl
   |some n=>
    simp only
    cases ym σ.h sz (σ.ev x) with
    |none=>rfl
    |some z=>
     obtain⟨xs,m,u1⟩:=z;simp only[Option.map_some,ahu];have hh:(σ.eF u1).h=eX σ.h u1:=by rw[mW]
     rw[hh];cases wi fl (eX σ.h u1) sz m (σ.ev y) with
     |none=>rfl
     |some z=>
      obtain⟨ys,m2,u2⟩:=z;simp only[Option.map_some];split
      ·simp only[Option.bind_some,yF,Fs,St.dF];cases ((σ.eF u1).eF u2).ins n (.row true m2 sz (xs++ys))<;>rfl
      ·rfl
  case store sz x v=>
   have hd:=hd sz x v rfl;subst hd;simp only[exec,ib];split at hw
   ·rename_i n k aB off hx;simp only[hx];cases hv:(σ.ev v).cells? with
    |none=>rfl
    |some y=>
     obtain⟨ag,vs⟩:=y;simp only
     split
     ·split at hw
      ·rename_i cs hn;simp only[hn];split
       ·rfl
       ·rfl
      ·rename_i gr m rs xs hn;simp only[hn];split
       ·cases xs[k]? with
        |none=>rfl
        |some e=>
         simp only
         rw[atJ];cases zP σ.h n gr m rs xs k off e vs with
         |none=>rfl
         |some b=>rfl
       ·rfl
      ·cases hw
     ·rfl
   ·rename_i n k aB off s i hx;simp only[hx];cases hv:(σ.ev v).cells? with
    |none=>rfl
    |some y=>
     obtain⟨ag,vs⟩:=y;simp only
     split
     ·cases σ.h n with
      |none=>rfl
      |some b=>cases b with
       |box cs=>rfl
       |row gr m rs xs=>cases m with
        |live=>cases gr with
         |true=>rfl
         |false=>
          simp only
          split
          ·cases xO xs k off s i vs<;>rfl
          ·rfl
        |_=>cases gr<;>rfl
     ·rfl
   ·cases hw
theorem W6 {T:aQ} {d:Option Nat} {op:aT} {ev:MO->aj} {h:Nat->Option aq} {ws:List Nat} {p:PE} (hw:op.lQ ev h=some ws) (ha:ib T d op ev h=some p):∀q∈p.2.1,q.1∈ws:=by
 by_cases hc:op.fa<=1
 ·have:ib T d op ev h=(rd T d op ev h).map fun x=>(x.1,[],x.2):=by
   cases op<;>first|rfl|(simp[aT.fa] at hc)
  rw[this,Option.map_eq_some_iff] at ha;obtain⟨x,_,rfl⟩:=ha;intro q hq;cases hq
 ·cases op<;>simp[aT.fa] at hc<;>simp only[aT.lQ] at hw
  case gU=>cases hw
  case nJ=>cases hw
  case pM=>cases hw
  case copy sz x y=>
   simp only[ib] at ha;split at ha
   ·rename_i n s lo len c hx hy;simp only[hx] at hw;injection hw with hw;subst hw
    repeat' split at ha
    all_goals first|cases ha|skip
    intro q hq;simp at hq;subst hq;simp
   ·cases ha
  case mG z x=>
   simp only[ib] at ha;split at ha
   ·rename_i n s lo len hx;simp only[hx] at hw;injection hw with hw;subst hw
    repeat' split at ha
    all_goals first|cases ha|skip
    intro q hq;simp at hq;subst hq;simp
   ·cases ha
  case tail=>cases hw
  case rj=>cases hw
  case km f xs=>
   injection hw with hw;subst hw;simp only[ib] at ha;split at ha
   ·rename_i ds ns u M e1 e2;split at ha
    ·rename_i rs out e3;split at ha
     ·rename_i u' v is e4 e5;injection ha with ha;subst ha;obtain⟨i1,i2⟩:=Ko e1;intro q hq;rw[List.flatMap_map] at i1 i2;rcases List.mem_append.1 hq with hq|hq
      ·exact i1 q hq
      ·exact i2 _ (asb e4 q hq)
     ·cases ha
    ·cases ha
   ·cases ha
  case fI sz ps=>
   injection hw with hw;subst hw;simp only[ib] at ha;split at ha
   ·rename_i n es o u e;injection ha with ha;subst ha;intro q hq;have:=agL e q hq;rw[List.flatMap_map] at this;exact this
   ·cases ha
  case append fl sz by_ x y=>
   injection hw with hw;subst hw;simp only[ib] at ha;split at ha
   ·cases ha
   ·split at ha
    ·cases ha
    ·rename_i xs m u1 e1;split at ha
     ·cases ha
     ·rename_i ys m2 u2 e2;split at ha
      ·injection ha with ha;subst ha;intro q hq;rcases List.mem_append.1 hq with w5|w5
       ·clear hq;refine List.mem_append.2 (.inl ?_);unfold ym at e1;split at e1
        ·injection e1 with e1;injection e1 with _ e1;injection e1 with _ e1;subst e1;cases w5
        ·rename_i a s len hv;split at e1
         ·split at e1
          ·injection e1 with e1;injection e1 with _ e1;injection e1 with _ e1;subst e1;simp at w5;subst w5;simp[aj.iw,ah.nm,ah.t8,hv]
          ·cases e1
         ·cases e1
        ·cases e1
       ·clear hq;refine List.mem_append.2 (.inr ?_);have DH:∀(b:Nat),u2=[]\/u2=[(b,none)]->b∈(ev y).iw->q.1∈(ev y).iw:=by
         intro b hb hm;rcases hb with hb|hb
         ·subst hb;cases w5
         ·subst hb;simp at w5;subst w5;exact hm
        unfold wi at e2;split at e2
        ·injection e2 with e2;injection e2 with _ e2;injection e2 with _ e2;subst e2;cases w5
        ·repeat' split at e2
         all_goals first|cases e2|skip
         all_goals (cases w5)
        ·rename_i b s lo len hv;have hm:b∈(ev y).iw:=by simp[hv,aj.iw,ah.nm,ah.t8]
         refine DH b ?_ hm
         repeat' split at e2
         all_goals first|cases e2|skip
         all_goals first|exact .inl rfl|exact .inr rfl
        ·cases e2
      ·cases ha
  case store sz x v=>
   simp only[ib] at ha;split at ha
   ·rename_i n k aB off b vs hx hv;simp only[hx] at hw;split at ha
    ·split at ha
     ·rename_i cs hn;simp only[hn] at hw;split at ha
      ·injection ha with ha;subst ha;injection hw with hw;subst hw;intro q hq;simp at hq;subst hq;simp
      ·cases ha
     ·rename_i gr m rs xs hn;simp only[hn] at hw;injection hw with hw;subst hw;split at ha
      ·split at ha
       ·split at ha
        ·rename_i u e0;injection ha with ha;subst ha;intro q hq;have hq:q∈u:=hq;have two:∀(u1:Us) (bb:Option aq),u=u1++[(n,bb)]->(∀q∈u1,q.1∈vs.flatMap ah.nm)->q.1∈n::(ev v).iw:=by
          intro u1 bb he DY;rw[he] at hq;rcases List.mem_append.1 hq with hq|hq
          ·exact List.mem_cons_of_mem _ (Da hv▸DY q hq)
          ·simp at hq;subst hq;simp
         unfold zP at e0;split at e0
         ·cases e0
         ·split at e0
          ·cases e0
          ·rename_i cs o u1 e1;have DY:=N0 e1
           repeat' split at e0
           all_goals first|(injection e0 with e0;exact two _ _ e0.symm DY)|cases e0
        ·cases ha
       ·cases ha
      ·cases ha
     ·cases ha
    ·cases ha
   ·rename_i n k aB off s i b vs hx hv;simp only[hx] at hw;injection hw with hw;subst hw
    repeat' split at ha
    all_goals first|cases ha|skip
    intro q hq;simp at hq;subst hq;simp
   ·cases ha
section
variable {T:aQ} {d:Option Nat} {op:aT} {ev ev':MO->aj} {h h':Nat->Option aq}
theorem HT (cf:∀x∈op.args,ev' x=ev x):op.j8 ev'=op.j8 ev:=by
 unfold aT.j8;generalize op.args=l at cf;induction l with
 |nil=>rfl
 |cons x l ih=>simp only[List.flatMap_cons];rw[cf x (by simp),ih fun y hy=>cf y (List.mem_cons_of_mem _ hy)]
theorem Xs:∀{l:List Nat} (_:∀n∈l,h' n=h n),C5 h' l=C5 h l
 |[],_=>rfl
 |n::l,hh=>by
  have:=Xs (l:=l) fun m hm=>hh m (List.mem_cons_of_mem _ hm);simp only[C5,List.flatMap_cons] at this⊢;rw[hh n (by simp),this]
theorem TV (cf:∀x∈op.args,ev' x=ev x) (hh:∀n∈op.j8 ev,h' n=h n):op.nD ev' h'=op.nD ev h:=by
 unfold aT.nD;rw[HT cf,Xs hh]
theorem Oh (cf:∀x∈op.args,ev' x=ev x) (hh:∀n∈op.j8 ev,h' n=h n):op.lQ ev' h'=op.lQ ev h:=by
 cases op<;>first|rfl|skip
 case store sz x v=>
  have h1:=cf x (by simp[aT.args]);have h2:=cf v (by simp[aT.args]);simp only[aT.lQ,h1,h2];cases hv:ev x with
  |one p=>cases p with
   |ptr n k aB off=>simp only;rw[hh n (rm.2 ⟨x,by simp[aT.args],by rw[hv];exact rfl⟩)]
   |_=>rfl
  |_=>rfl
 case copy sz x y=>
  simp only[aT.lQ,cf x (by simp[aT.args])]
 case mG z x=>
  simp only[aT.lQ,cf x (by simp[aT.args])]
 case km f xs=>
  have:=HT (op:=.km f xs) cf;simp only[aT.j8,aT.args] at this;simp only[aT.lQ,this]
 case fI sz ps=>
  have:=HT (op:=.fI sz ps) cf;simp only[aT.j8,aT.args] at this;simp only[aT.lQ,this]
 case append fl sz by_ x y=>
  simp only[aT.lQ,cf x (by simp[aT.args]),cf y (by simp[aT.args])]
theorem W5 (cf:∀x∈op.args,ev' x=ev x) (hh:∀n∈op.nD ev h,h' n=h n):ib T d op ev' h'=ib T d op ev h:=by
 have DP:∀n∈op.j8 ev,h' n=h n:=fun n hn=>hh n (MD hn);have hn:∀a∈op.args,∀n,(ev a).ref n->h' n=h n:=fun a ha n hr=>DP n (rm.2 ⟨a,ha,hr⟩);have gen:rd T d op ev' h'=rd T d op ev h:=by
  rw[EM T d op _ cf];refine adM (u:=fun n=>h' n=h n) (vv:=fun n=>n∈op.j8 ev) T d op ev (fun n hn=>hn) (fun hc m cs c n hm hb fi hr=>?_) (fun x hx m hm=>hn x hx m hm) (fun x hx m hm=>rm.2 ⟨x,hx,hm⟩);refine hh n ?_;unfold aT.nD;rw[hc];refine List.mem_append.2 (.inr ?_);unfold C5;rw[List.mem_flatMap];exact⟨m,hm,by rw[hb];exact List.mem_flatMap.2 ⟨c,fi,ah.HU.2 hr⟩⟩
 cases op<;>first|(simp only[ib];rw[gen];done)|skip
 case store sz x v=>
  have h1:=cf x (by simp[aT.args]);have h2:=cf v (by simp[aT.args]);simp only[ib,h1,h2];have h3:=hn x (by simp[aT.args]);cases hv:ev x with
  |one p=>cases p with
   |ptr n k aB off=>
    rw[hv] at h3;have h3:=h3 n rfl;have h5:=hn v (by simp[aT.args]);cases hc:(ev v).cells? with
    |none=>rfl
    |some y=>
     obtain⟨b,vs⟩:=y;have h6:∀gr m rs xs e,zP h' n gr m rs xs k off e vs=zP h n gr m rs xs k off e vs:=by
      intro gr m rs xs e;have h7:lk h' vs=lk h vs:=NZ fun q hq=>h5 q (aj.BE.1 (Da hc▸hq));unfold zP;rw[h7];cases lk h vs with
      |none=>rfl
      |some y=>
       obtain⟨cs,o,u⟩:=y;simp only[IP h3 u]
     simp only[h3,h6]
   |db n k aB off s i=>
    rw[hv] at h3;have h3:=h3 n rfl;cases hc:(ev v).cells? with
    |none=>rfl
    |some y=>
     simp only[h3]
   |_=>cases (ev v).cells?<;>rfl
  |_=>cases (ev v).cells?<;>rfl
 case copy sz x y=>
  have h1:=cf x (by simp[aT.args]);have h2:=cf y (by simp[aT.args]);have h3:=hn x (by simp[aT.args]);have h4:=hn y (by simp[aT.args]);simp only[ib,h1,h2];cases hv:ev x with
  |one p=>cases p with
   |sl n s lo len=>
    rw[hv] at h3;have h3:=h3 n rfl;cases hc:ev y with
    |one c=>
     rw[hc] at h4;have h5:cO h' c=cO h c:=Ce (u:=fun n=>h' n=h n) (fun n hn=>hn) fun m hm=>h4 m (ah.zD hm);simp only[h3,h5]
    |_=>rfl
   |_=>rfl
  |_=>rfl
 case mG z x=>
  have h1:=cf x (by simp[aT.args]);have h3:=hn x (by simp[aT.args]);simp only[ib,h1];cases hv:ev x with
  |one p=>cases p with
   |sl n s lo len=>
    rw[hv] at h3;have h3:=h3 n rfl;simp only[h3]
   |_=>rfl
  |_=>rfl
 case km f xs=>
  have hl:xs.map ev'=xs.map ev:=List.map_congr_left cf;have h2:mZ h' (xs.map ev)=mZ h (xs.map ev):=PV fun n bu=>by
   rw[List.flatMap_map] at bu;exact DP n bu
  simp only[ib,hl,h2];cases e1:mZ h (xs.map ev) with
  |none=>rfl
  |some x=>
   obtain⟨ds,ns,u⟩:=x
   try simp only
   cases aQ.lZ T.vs f with
   |none=>rfl
   |some M=>
    try simp only
    cases M ds with
    |none=>rfl
    |some z=>
     obtain⟨rs,out⟩:=z
     try simp only
     rw[asa (h:=eX h u) (h':=eX h' u) fun n bu=>IP (DP n (by
      have:=(Ko e1).2 n bu;rw[List.flatMap_map] at this;exact this)) u]
 case fI sz ps=>
  have hl:ps.map ev'=ps.map ev:=List.map_congr_left cf;have h2:qu sz h' (ps.map ev)=qu sz h (ps.map ev):=agK fun n bu=>by
   rw[List.flatMap_map] at bu;exact DP n bu
  simp only[ib,hl,h2]
 case append fl sz by_ x y=>
  have h1:=cf x (by simp[aT.args]);have h2:=cf y (by simp[aT.args]);have h3:=hn x (by simp[aT.args]);have h4:=hn y (by simp[aT.args]);have e1:ym h' sz (ev x)=ym h sz (ev x):=by
   cases hv:ev x with
   |one p=>cases p with
    |sl a s lo len=>
     rw[hv] at h3;cases lo with
     |zero=>simp only[ym,h3 a rfl]
     |succ lo=>rfl
    |_=>rfl
   |_=>rfl
  have e2:∀(us:List (Nat×Option aq)) (m:Mode),wi fl (eX h' us) sz m (ev y)=wi fl (eX h us) sz m (ev y):=by
   intro us m;cases hv:ev y with
   |one p=>cases p with
    |sl b s lo len=>
     rw[hv] at h4;have hb:eX h' us b=eX h us b:=by
      by_cases hu:∃p∈us,p.1=b
      ·exact IQ hu
      ·rw[pB fun p hp e=>hu ⟨p,hp,e⟩,pB fun p hp e=>hu ⟨p,hp,e⟩];exact h4 b rfl
     simp only[wi,hb]
    |c x=>cases x<;>rfl
    |_=>rfl
   |_=>rfl
  simp only[ib,h1,h2,e1,e2]
end
theorem Qu {f g:List Nat×List Nat} (h:Gm f g=true) {n:Nat} (h1:n∈f.2) (h2:n∈g.1):False:=by
 simp only[Gm,Bool.and_eq_true,List.all_eq_true] at h;have:=h.1 n h1;simp[h2] at this
theorem ait {f g:List Nat×List Nat} (h:Gm f g=true) {n:Nat} (h1:n∈g.2) (h2:n∈f.1):False:=by
 simp only[Gm,Bool.and_eq_true,List.all_eq_true] at h;have:=h.2 n h1;simp[h2] at this
theorem Ez {σ:St} (W:Wf σ) {op:aT} (hf:∀a∈op.args,a.flat=true) {n:Nat} (hn:n∈op.j8 σ.ev):σ.used n=true:=by
 obtain⟨a,ha,hr⟩:=rm.1 hn;exact W.arg (hf a ha) n hr
theorem adK {σ:St} (W:Wf σ) {op:aT} (hf:∀a∈op.args,a.flat=true) {n:Nat} (hn:n∈op.nD σ.ev σ.h):σ.used n=true:=by
 unfold aT.nD at hn;cases hc:op.Hx with
 |true=>
  rw[hc] at hn;rcases List.mem_append.1 hn with hn|hn
  ·exact Ez W hf hn
  ·unfold C5 at hn;rw[List.mem_flatMap] at hn;obtain⟨m,hm,hn⟩:=hn;split at hn
   ·rename_i cs hb;obtain⟨c,hc,hr⟩:=List.mem_flatMap.1 hn;exact W.box m cs c n hb hc (ah.HU.1 hr)
   ·cases hn
 |false=>rw[hc] at hn;exact Ez W hf hn
section
variable {T:aQ} {dx dy:Option Nat} {x y:aT} {σ σ1 σ2:St}
theorem Z3 (W:Wf σ) (sB:∀n,dx=some n->MO.t n∉y.args) (AW:∀a∈y.args,a.flat=true) (wM:∀sz p v,x=.store sz p v->dx=none)
  (hc:x.fa<=1\/y.fa=0) (h1:exec T dx x σ=some σ1):y.fp σ1=y.fp σ:=by
 have tO:=yD wM h1;have cf:∀a∈y.args,σ1.ev a=σ.ev a:=fun a ha=>by
  cases a with
  |t n=>show σ1.env n=σ.env n;rw[tO];exact sQ fun qN=>sB n qN ha
  |k v=>rfl
 rcases hc with hc|hc
 ·rw[qF T dx x σ hc] at h1;have hh:∀n∈y.j8 σ.ev,σ1.h n=σ.h n:=by
   intro n hn;cases hr:rd T dx x σ.ev σ.h with
   |none=>rw[hr] at h1;cases h1
   |some p=>
    rw[hr] at h1;simp only[Option.bind_some,gF,Option.map_eq_some_iff] at h1;obtain⟨A,hA,rfl⟩:=h1;have:(A.put dx p.1).h=A.h:=by cases dx<;>rfl
    rw[this];exact((Bi hA).1 n (Ez W AW hn)).2
  unfold aT.fp;rw[Oh cf hh,TV cf hh]
 ·unfold aT.fp;have c1:y.Hx=false:=by cases y<;>first|rfl|(simp[aT.fa] at hc)
  have w:∀ev h,y.lQ ev h=some []:=by intro ev h;cases y<;>first|rfl|(simp[aT.fa] at hc)
  simp only[w,aT.nD,c1,cond_false,HT cf]
theorem aid (W:Wf σ) (hd:∀n,dx=some n->dy≠some n) (sB:∀n,dx=some n->MO.t n∉y.args) (vj:∀n,dy=some n->MO.t n∉x.args)
  (Ll:∀a∈x.args,a.flat=true) (AW:∀a∈y.args,a.flat=true)
  (wM:∀sz p v,x=.store sz p v->dx=none) (GU:∀sz p v,y=.store sz p v->dy=none) (hk:Gn (x.fp σ) (y.fp σ1)=true)
  (h1:exec T dx x σ=some σ1) (h2:exec T dy y σ1=some σ2):∃τ,exec T dy y σ=some τ/\exec T dx x τ=some σ2/\y.fp σ1=y.fp σ/\x.fp τ=x.fp σ:=by
 unfold aT.fp at hk;cases AA:x.lQ σ.ev σ.h with
 |none=>rw[AA] at hk;cases hk
 |some wx=>
 cases AB:y.lQ σ1.ev σ1.h with
 |none=>rw[AA,AB] at hk;cases hk
 |some wy=>
 rw[AA,AB] at hk;simp only[Option.map_some,Gn] at hk;rw[KW AA wM] at h1;rw[KW AB GU] at h2;cases KK:ib T dx x σ.ev σ.h with
 |none=>rw[KK] at h1;cases h1
 |some px=>
 obtain⟨vx,ux,nx⟩:=px;rw[KK] at h1;simp only[Option.bind_some,yF,Option.map_eq_some_iff] at h1;obtain⟨A,hA,rfl⟩:=h1;have N4:∀q∈ux,q.1∈wx:=W6 AA KK;have Wx:∀q∈ux,σ.used q.1=true:=fun q hq=>Ez W Ll (ahc AA (N4 q hq));obtain⟨A',Lg,rfl⟩:=SI Wx hA;obtain⟨oa,ea⟩:=Bi Lg;have nZ:∀(s:St) (d:Option Nat) (v:aj),(s.put d v).h=s.h:=fun s d v=>by cases d<;>rfl
 have cf:∀a∈y.args,((A'.eF ux).put dx vx).ev a=σ.ev a:=fun a ha=>by
  rw[qm,KU fun n hn=>sQ fun qN=>sB n qN (hn▸ha)];cases a with
  |t n=>show(A'.eF ux).env n=σ.env n;rw[mW];show A'.env n=_;rw[ea]
  |k v=>rfl
 have alF:y.nD ((A'.eF ux).put dx vx).ev ((A'.eF ux).put dx vx).h=y.nD σ.ev σ.h/\y.lQ ((A'.eF ux).put dx vx).ev ((A'.eF ux).put dx vx).h=y.lQ σ.ev σ.h:=by
  have hh:∀n∈y.j8 σ.ev,((A'.eF ux).put dx vx).h n=σ.h n:=fun n hn=>by
   rw[nZ,mW];show eX A'.h ux n=_;rw[pB fun p hp e=>Qu hk (N4 p hp) (by rw[e];exact MD (by rw[HT cf];exact hn))];exact(oa n (Ez W AW hn)).2
  exact⟨TV cf hh,Oh cf hh⟩
 obtain⟨r1,r2⟩:=alF;have hh:∀n∈y.nD σ.ev σ.h,((A'.eF ux).put dx vx).h n=σ.h n:=fun n hn=>by
  rw[nZ,mW];show eX A'.h ux n=_;rw[pB fun p hp e=>Qu hk (N4 p hp) (by rw[e];show n∈y.nD _ _;rw[r1];exact hn)];exact(oa n (adK W AW hn)).2
 have eay:ib T dy y ((A'.eF ux).put dx vx).ev ((A'.eF ux).put dx vx).h=ib T dy y σ.ev σ.h:=W5 cf hh;rw[eay] at h2;rw[r2] at AB;cases KL:ib T dy y σ.ev σ.h with
 |none=>rw[KL] at h2;cases h2
 |some py=>
 obtain⟨vy,uy,ny⟩:=py;rw[KL] at h2;simp only[Option.bind_some,yF,Option.map_eq_some_iff] at h2;obtain⟨D,hD,rfl⟩:=h2;have uyw:∀q∈uy,q.1∈wy:=W6 AB KL;have uyn:∀q∈uy,q.1∈y.j8 σ.ev:=fun q hq=>ahc AB (uyw q hq);have Wy:∀q∈uy,σ.used q.1=true:=fun q hq=>Ez W AW (uyn q hq);have uyA:∀q∈uy,A'.used q.1=true:=fun q hq=>(oa _ (Wy q hq)).1;have uxA:∀q∈ux,A'.used q.1=true:=fun q hq=>(oa _ (Wx q hq)).1;have tI:∀p∈ux,∀q∈uy,p.1≠q.1:=fun p hp q hq e=>Qu hk (N4 p hp) (by rw[e];show q.1∈y.nD _ _;rw[r1];exact MD (uyn q hq));rw[qm,agW,Bj,Option.map_eq_some_iff] at hD;obtain⟨D0,hD0,rfl⟩:=hD;obtain⟨D1,hD1,rfl⟩:=SI (σ:=A'.eF ux) (fun q hq=>by rw[mW];exact uyA q hq) hD0;obtain⟨F,hF,rfl⟩:=SI uxA hD1;obtain⟨C',hC,hCF⟩:=SH Lg hF;obtain⟨oc,ec⟩:=Bi hC;have uyC:∀q∈uy,C'.used q.1=true:=fun q hq=>(oc _ (Wy q hq)).1;have uxC:∀q∈ux,C'.used q.1=true:=fun q hq=>(oc _ (Wx q hq)).1;have Lh:∀a∈x.args,((C'.eF uy).put dy vy).ev a=σ.ev a:=fun a ha=>by
  rw[qm,KU fun n hn=>sQ fun qN=>vj n qN (hn▸ha)];cases a with
  |t n=>show(C'.eF uy).env n=σ.env n;rw[mW];show C'.env n=_;rw[ec]
  |k v=>rfl
 have hhx:∀n∈x.nD σ.ev σ.h,((C'.eF uy).put dy vy).h n=σ.h n:=fun n hn=>by
  rw[nZ,mW];show eX C'.h uy n=_;rw[pB fun p hp e=>ait hk (uyw p hp) (by rw[e];exact hn)];exact(oc n (adK W Ll hn)).2
 have RD:∀n∈x.j8 σ.ev,((C'.eF uy).put dy vy).h n=σ.h n:=fun n hn=>hhx n (MD hn);refine⟨(C'.eF uy).put dy vy,?_,?_,?_,?_⟩
 ·rw[KW AB GU,KL];simp only[Option.bind_some,yF,Hv Wy hC,Option.map_some]
 ·rw[KW (ws:=wx) (by rw[Oh Lh RD];exact AA) wM,W5 Lh hhx,KK];simp only[Option.bind_some,yF];rw[qm,agW,Bj,Hv (σ:=C'.eF uy) (fun q hq=>by rw[mW];exact uxC q hq) (Hv uyC hCF)];simp only[Option.map_some];rw[qm,qm,at9 tI];congr 1;have e1:(C'.eF uy).env=σ.env:=by rw[mW];exact ec
  have e2:(A'.eF ux).env=σ.env:=by rw[mW];exact ea
  show St.we _ (jt (jt (C'.eF uy).env dy vy) dx vx)=St.we _ (jt (jt (A'.eF ux).env dx vx) dy vy);rw[e1,e2,MT σ.env _ _ hd];rfl
 ·unfold aT.fp;rw[r1,r2]
 ·unfold aT.fp;rw[Oh Lh RD,TV Lh RD]
end
def Gd (x y:bQ):Bool:=x.op.fa==0||y.op.fa==0||(decide (x.op.fa<=1)&&decide (y.op.fa<=1))
def Gg (x y:bQ):Bool:=
 (match x.dst with|some d=>y.vI d&&(match y.dst with|some e=>e !=d|none=>true)|none=>true)&&
 (match y.dst with|some d=>x.vI d|none=>true)&&x.r9&&y.r9
theorem XR {T:aQ} {x y:bQ} {σ σ1 σ2:St} (W:Wf σ) (hc:Gg x y=true) (hk:Gd x y=true\/Gn (x.fp σ) (y.fp σ1)=true) (h1:ef T x σ=some σ1) (h2:ef T y σ1=some σ2):
  ∃τ,ef T y σ=some τ/\ef T x τ=some σ2/\y.fp σ1=y.fp σ/\x.fp τ=x.fp σ:=by
 simp only[Gg,Bool.and_eq_true] at hc;obtain⟨⟨⟨c1,c2⟩,c3⟩,c4⟩:=hc;rw[Ds] at h1 h2;cases ex:nN x σ.env with
 |none=>rw[ex] at h1;cases h1
 |some kD=>
  rw[ex] at h1;have h1:exec T x.dst kD σ=some σ1:=h1;have jx:kD=x.op\/kD=.mv (.k (.bK [])):=KM ex;have B8:∀sz p v,kD=.store sz p v->x.dst=none:=by
   intro sz p v he;rcases jx with rfl|rfl
   ·simp only[bQ.r9,Bool.and_eq_true,he] at c3;simpa using c3.2
   ·cases he
  have tO:=yD B8 h1;have Sj:∀s w,y.guard=some (s,w)->x.dst≠some s:=by
   intro s w hg hd;rw[hd] at c1;simp[bQ.vI,hg] at c1
  have LH:∀s w,x.guard=some (s,w)->y.dst≠some s:=by
   intro s w hg hd;rw[hd] at c2;simp[bQ.vI,hg] at c2
  have KX:nN y σ1.env=nN y σ.env:=Gs fun s w hg=>by rw[tO];exact sQ (Sj s w hg)
  rw[KX] at h2;cases ey:nN y σ.env with
  |none=>rw[ey] at h2;cases h2
  |some kc=>
   rw[ey] at h2;have h2:exec T y.dst kc σ1=some σ2:=h2;have jy:kc=y.op\/kc=.mv (.k (.bK [])):=KM ey;have zQ:∀sz p v,kc=.store sz p v->y.dst=none:=by
    intro sz p v he;rcases jy with rfl|rfl
    ·simp only[bQ.r9,Bool.and_eq_true,he] at c4;simpa using c4.2
    ·cases he
   have GA:∀a∈kD.args,a.flat=true:=by
    rcases jx with rfl|rfl
    ·simp only[bQ.r9,Bool.and_eq_true,List.all_eq_true] at c3;exact c3.1
    ·intro a ha;simp[aT.args] at ha;subst ha;rfl
   have GC:∀a∈kc.args,a.flat=true:=by
    rcases jy with rfl|rfl
    ·simp only[bQ.r9,Bool.and_eq_true,List.all_eq_true] at c4;exact c4.1
    ·intro a ha;simp[aT.args] at ha;subst ha;rfl
   have sB:∀n,x.dst=some n->MO.t n∉kc.args:=by
    intro n hd;rcases jy with rfl|rfl
    ·rw[hd] at c1;simp only[Bool.and_eq_true] at c1;exact bQ.ME c1.1
    ·simp[aT.args]
   have vj:∀n,y.dst=some n->MO.t n∉kD.args:=by
    intro n hd;rcases jx with rfl|rfl
    ·rw[hd] at c2;exact bQ.ME c2
    ·simp[aT.args]
   have tI:∀n,x.dst=some n->y.dst≠some n:=by
    intro n hd he;rw[hd,he] at c1;simp at c1
   have yfp:y.fp σ1=kc.fp σ1:=by unfold bQ.fp;rw[KX,ey]
   have auy:y.fp σ=kc.fp σ:=by unfold bQ.fp;rw[ey]
   have ahd:x.fp σ=kD.fp σ:=by unfold bQ.fp;rw[ex]
   have xfp:∀τ,exec T y.dst kc σ=some τ->x.fp τ=kD.fp τ:=by
    intro τ t1;unfold bQ.fp;rw[Gs (e:=σ.env) (fun s w hg=>by rw[yD zQ t1];exact sQ (LH s w hg)),ex]
   have gF:(∃τ,exec T y.dst kc σ=some τ/\exec T x.dst kD τ=some σ2/\kc.fp σ1=kc.fp σ/\kD.fp τ=kD.fp σ)->∃τ,ef T y σ=some τ/\ef T x τ=some σ2/\y.fp σ1=y.fp σ/\x.fp τ=x.fp σ:=by
    rintro⟨τ,t1,t2,t3,t4⟩;refine⟨τ,?_,?_,?_,?_⟩
    ·rw[Ds,ey];exact t1
    ·rw[Ds,Gs (e:=σ.env) (fun s w hg=>by rw[yD zQ t1];exact sQ (LH s w hg)),ex];exact t2
    ·rw[yfp,auy,t3]
    ·rw[xfp τ t1,ahd,t4]
   apply gF;rcases hk with c5|hk
   ·have cC:kD.fa=0\/kc.fa=0\/(kD.fa<=1/\kc.fa<=1):=by
     rcases jx with rfl|rfl
     ·rcases jy with rfl|rfl
      ·simp only[Gd,Bool.or_eq_true,beq_iff_eq,Bool.and_eq_true,decide_eq_true_eq,or_assoc] at c5;exact c5
      ·exact .inr (.inl rfl)
     ·exact .inl rfl
    obtain⟨τ,t1,t2⟩:=XQ W tI sB vj GA GC B8 zQ cC h1 h2;refine⟨τ,t1,t2,Z3 W sB GC B8 (by omega) h1,Z3 W vj GA zQ (by omega) t1⟩
   ·rw[yfp,ahd] at hk;exact aid W tI sB vj GA GC B8 zQ hk h1 h2
def wc (T:aQ) (ms:List bQ) (F:Nat->Option FP):List Nat->St->St->Prop
 |[],σ,eu=>σ=eu
 |i::L,σ,eu=>∃m σ1,ms[i]? =some m/\F i=m.fp σ/\ef T m σ=some σ1/\wc T ms F L σ1 eu
def PD (F:Nat->Option FP) (ms:List bQ) (i j:Nat) (m:bQ):Prop:=∃mj,ms[j]? =some mj/\Gg mj m=true/\(Gd mj m=true\/Gn (F j) (F i)=true)
structure Om (F:Nat->Option FP) (ops:Array Oper) (ms:List bQ):Prop where
 back:∀(i:Nat) (o:Oper),ops[i]? =some o->∀e∈o.after,Region.binds .any e=true->e.on<i
 pair:∀(i j:Nat) (o:Oper) (m:bQ),ops[i]? =some o->ms[i]? =some m->j<i->qw ops i j\/PD F ms i j m
section
variable {B:Nat} {E:Ex} {w0 w w':World} {G G':Gh} {N:Nat}
variable {P:Program} {T:aQ} {o:Oper} {mo:bQ} {a:Act} {σ σ':St} {Q:Exit->Act->World->Prop} {ops:Array Oper}
theorem ad6 (hT:jT P T) {ms:List bQ} {F:Nat->Option FP} (gQ:∀(i:Nat) (m:bQ),ms[i]? =some m->∃o,ops[i]? =some o/\oM P N ops o m=true) {i:Nat} {mi:bQ} (hi:ms[i]? =some mi) {post:List Nat} {eu:St}:
  ∀{pre:List Nat} {σ:St},Ac B E w0 N σ->wc T ms F (pre++i::post) σ eu->(∀j∈pre,PD F ms i j mi)->
  ∃τ,F i=mi.fp σ/\ef T mi σ=some τ/\wc T ms F (pre++post) τ eu
 |[],σ,hr,hx,hc=>by
  obtain⟨m,σ1,h1,h2,h3,h4⟩:=hx;rw[hi] at h1;injection h1 with h1;subst h1;exact⟨σ1,h2,h3,h4⟩
 |j::pre,σ,hr,hx,hc=>by
  obtain⟨mj,σ1,k1,k2,k3,k4⟩:=hx;obtain⟨mj',hj,jD,cC⟩:=hc j (by simp);rw[k1] at hj;injection hj with hj;subst hj;obtain⟨oj,_,fN⟩:=gQ j mj k1;obtain⟨oH,t0,t1,t2⟩:=ad6 hT gQ hi (TW hr hT fN k3) k4 (fun k hk=>hc k (by simp[hk]));obtain⟨a,w,G,r⟩:=hr;rw[k2,t0] at cC;obtain⟨τ,s1,s2,s3,s4⟩:=XR r.wf jD cC k3 t1;exact⟨τ,by rw[t0,s3],s1,mj,oH,k1,by rw[s4];exact k2,s2,t2⟩
theorem auq (hT:jT P T) {ms:List bQ} {F:Nat->Option FP} (gQ:∀(i:Nat) (m:bQ),ms[i]? =some m->∃o,ops[i]? =some o/\oM P N ops o m=true) (hlen:ms.length=ops.size) (hd:Om F ops ms) {eu:St}
  (hQ:∀a w G,R B E w0 N eu a w G->Q .normal a w):
  ∀(gh:Nat) (L:List Nat) (cJ:Array Bool) (σ:St) (a:Act) (w:World) (G:Gh),R B E w0 N σ a w G->wc T ms F L σ eu->L.Pairwise (·<·)->L.length<=gh->cJ.size=ops.size->
   (∀j,j∈L↔cJ.getD j true=false)->FG ops cJ->wpAny P .any ops Q gh cJ a w:=by
 have first:∀(L:List Nat) (cJ:Array Bool),L.Pairwise (·<·)->cJ.size=ops.size->(∀j,j∈L↔cJ.getD j true=false)->Region.ready .any ops cJ=[]->L=[]:=by
  intro L cJ hp hs hL hr;cases L with
  |nil=>rfl
  |cons j L=>
   exfalso;have hj:=(hL j).1 (by simp);have kN:j<ops.size:=by
    rw[<-hs];rcases Nat.lt_or_ge j cJ.size with h|h
    ·exact h
    ·simp[Array.getElem?_eq_none h] at hj
   have ho:ops[j]? =some ops[j]:=Array.getElem?_eq_getElem kN;have:j∈Region.ready .any ops cJ:=by
    rw[mem_ready];refine⟨hj,_,ho,fun e he hb=>?_⟩;have cu:=hd.back j _ ho e he hb;have mK:e.on∉j::L:=by
     intro hm;cases hm with
     |head=>omega
     |tail _ hm=>have:=(List.pairwise_cons.1 hp).1 _ hm;omega
    have aD:cJ.getD e.on true≠false:=fun h=>mK ((hL e.on).2 h);have ni:e.on<cJ.size:=by omega
    simp[ni] at aD⊢;exact aD
   rw[hr] at this;cases this
 intro gh;induction gh with
 |zero=>
  intro L cJ σ a w G r hx hp hl hs hL hC;have qK:L=[]:=List.eq_nil_of_length_eq_zero (by omega);subst qK;have hx:σ=eu:=hx;subst hx;refine⟨?_,hQ _ _ _ r⟩;cases hr:Region.ready .any ops cJ with
  |nil=>rfl
  |cons i l=>
   have hm:i∈Region.ready .any ops cJ:=by rw[hr];simp
   have:=(hL i).2 (mem_ready.1 hm).1;cases this
 |succ gh ih=>
  intro L cJ σ a w G r hx hp hl hs hL hC;refine⟨fun hr=>?_,fun i hi=>?_⟩
  ·have qK:=first L cJ hp hs hL hr
   subst qK;have hx:σ=eu:=hx;subst hx;exact hQ _ _ _ r
  ·obtain⟨A3,oi,iG,AP⟩:=mem_ready.1 hi;have pQ:i∈L:=(hL i).2 A3;obtain⟨pre,post,rfl⟩:=List.append_of_mem pQ;have DR:i<ops.size:=(Array.getElem?_eq_some_iff.1 iG).1;have sr:ms[i]? =some ms[i]:=List.getElem?_eq_getElem (by omega);obtain⟨o',fE,jk⟩:=gQ i _ sr;rw[iG] at fE;injection fE with fE;subst fE;have f6:=List.pairwise_append.1 hp;obtain⟨τ,t0,t1,t2⟩:=ad6 (ops:=ops) hT gQ sr ⟨a,w,G,r⟩ hx (fun j hj=>by
    have kM:j<i:=f6.2.2 j hj i (by simp);rcases hd.pair i j oi _ iG sr kM with GN|h
    ·have h1:=C0 hC GN (fun o ho e he hb=>by
      rw[iG] at ho;injection ho with ho;subst ho;have h1:=AP e he hb;have cu:=hd.back i _ iG e he hb;have ni:e.on<cJ.size:=by omega
      simp[ni] at h1⊢;exact h1)
     have h2:=(hL j).1 (by simp[hj]);rw[h1] at h2;cases h2
    ·exact h)
   have ve:∀a' w',Nx B E w0 N τ a' w'->wpAny P .any ops Q gh (cJ.setIfInBounds i true) a' w':=by
    rintro a' w' ⟨G',r'⟩;refine ih (pre++post) _ τ a' w' G' r' t2 ?_ (by simp at hl⊢;omega) (by simpa using hs) (fun j=>?_) (fun k o ho hk e he hb=>?_)
    ·rw[List.pairwise_append];exact⟨f6.1,(List.pairwise_cons.1 f6.2.1).2,fun x hx y hy=>f6.2.2 x hx y (by simp[hy])⟩
    ·by_cases kM:j=i
     ·subst kM;have kN:j<cJ.size:=by omega
      simp only[List.mem_append];constructor
      ·rintro(h|h)
       ·have:=f6.2.2 j h j (by simp);omega
       ·have:=(List.pairwise_cons.1 f6.2.1).1 j h;omega
      ·intro h;simp[kN] at h
     ·rw[getD_set_ne true (Ne.symm kM),<-hL j];simp[kM]
    ·have yU:∀q,cJ.getD q true=true->(cJ.setIfInBounds i true).getD q true=true:=by
      intro q hq;by_cases n5:q=i
      ·subst n5;have:q<cJ.size:=by omega
       simp[this]
      ·rw[getD_set_ne true (Ne.symm n5)];exact hq
     by_cases yS:k=i
     ·subst yS;rw[iG] at ho;injection ho with ho;subst ho;have h1:=AP e he hb;have cu:=hd.back k _ iG e he hb;have ni:e.on<cJ.size:=by omega
      refine yU _ ?_;simp[ni] at h1⊢;exact h1
     ·rw[getD_set_ne true (Ne.symm yS)] at hk;exact yU _ (hC k o ho hk e he hb)
   unfold wpOp;rw[iG];simp only
   rcases AE (Q:=Q) r hT jk t1 with⟨hw,h⟩|⟨hw,h⟩
   ·rw[if_pos hw];exact .inl (Oper.wp_mono ve h)
   ·rw[if_neg (by simp[hw])];exact ve _ _ h
def F9 (ps:List (Nat×Nat)) (ops:List Oper) (ms:List bQ):Bool:=
 (fun ks:List Nat=>(List.range ops.length).all fun i=>match ops[i]?,ms[i]? with
  |some o,some m=>(o.after.toList.all fun e=> !Region.binds .any e||decide (e.on<i))&&
   (List.range i).all fun j=>(ks.getD i 0).testBit j||(match ms[j]? with|some mj=>Gg mj m&&(Gd mj m||ps.contains (j,i))|none=>false)
  |_,_=>false) (vF ops [])
theorem XK {ps:List (Nat×Nat)} {ms:List bQ} {fs:List (Option FP)} (h:F9 ps ops.toList ms=true) (hp:sO ps fs=true):Om (fun i=>fs.getD i none) ops ms:=by
  simp only[F9,List.all_eq_true,List.mem_range] at h;have cW:∀(i:Nat) (o:Oper),ops[i]? =some o->∃m,ms[i]? =some m/\(o.after.toList.all fun e=> !Region.binds .any e||decide (e.on<i))=true/\
        ∀j,j<i->(((vF ops.toList []).getD i 0).testBit j||(match ms[j]? with|some mj=>Gg mj m&&(Gd mj m||ps.contains (j,i))|none=>false))=true:=by
    intro i o ho;have hi:i<ops.toList.length:=by simpa using(Array.getElem?_eq_some_iff.1 ho).1
    have hi':=h i hi;have fE:ops.toList[i]? =some o:=by simpa using ho
    rw[fE] at hi';cases hm:ms[i]? with
    |none=>rw[hm] at hi';cases hi'
    |some m=>
     rw[hm] at hi';simp only[Bool.and_eq_true,List.all_eq_true,List.mem_range] at hi';exact⟨m,rfl,by rw[List.all_eq_true];exact hi'.1,hi'.2⟩
  refine⟨fun i o ho e he hb=>?_,fun i j o m ho hm hj=>?_⟩
  · obtain⟨m,_,k1,_⟩:=cW i o ho;have:=List.all_eq_true.1 k1 e (Array.mem_toList_iff.2 he);simp[hb] at this;exact this
  · obtain⟨m',bP,_,k2⟩:=cW i o ho;rw[hm] at bP;injection bP with bP;subst bP;have:=k2 j hj;rw[Bool.or_eq_true] at this;rcases this with h1|h1
    · exact .inl (Mo ops.toList [] [] rfl rfl (by intro i k hb;simp at hb) i j h1)
    · cases DT:ms[j]? with
      |none=>rw[DT] at h1;cases h1
      |some mj=>
       rw[DT] at h1;simp only[Bool.and_eq_true,Bool.or_eq_true] at h1;refine .inr ⟨mj,DT,h1.1,?_⟩;rcases h1.2 with h2|h2
       · exact .inl h2
       · refine .inr ?_;have:=List.all_eq_true.1 hp (j,i) (by simpa using h2);exact this
theorem QD {ms:List bQ}:∀(post pre:List bQ) (σ eu:St) (fs dP:List (Option FP)),ms=pre++post->dP.length=pre.length->lY T post dP σ=some (fs,eu)->
  dP=fs.take dP.length/\wc T ms (fun i=>fs.getD i none) (List.range' pre.length post.length) σ eu
 |[],pre,σ,eu,fs,dP,he,hl,hx=>by
  simp only[lY] at hx;injection hx with hx;injection hx with h1 h2;subst h1 h2;exact⟨by simp,rfl⟩
 |m::post,pre,σ,eu,fs,dP,he,hl,hx=>by
  simp only[lY] at hx;split at hx
  ·rename_i σ1 e1;obtain⟨h1,h2⟩:=QD (ms:=ms) post (pre++[m]) σ1 eu fs (dP++[m.fp σ]) (by simp[he]) (by simp[hl]) hx;have h3:fs[dP.length]? =some (m.fp σ):=by
    have:(fs.take (dP++[m.fp σ]).length)[dP.length]? =some (m.fp σ):=by rw[<-h1];simp
    rw[List.getElem?_take] at this;split at this
    ·exact this
    ·cases this
   have h4:dP=fs.take dP.length:=by
    have:=congrArg (List.take dP.length) h1;simpa[List.take_take] using this
   refine⟨h4,m,σ1,?_,?_,e1,?_⟩
   ·rw[he,List.getElem?_append_right (Nat.le_refl _),Nat.sub_self];rfl
   ·show fs.getD pre.length none=_;rw[<-hl,List.getD_eq_getElem?_getD,h3];rfl
   ·simpa using h2
  ·cases hx
theorem asn (hT:jT P T) (hm:P.follows .mixedOrders=true) {id:Nat} {ps:List (Nat×Nat)} {ms:List bQ} {fs:List (Option FP)} (hc:jW P N ops ops.toList ms=true) (hd:F9 ps ops.toList ms=true)
  (hx:lY T ms [] σ=some (fs,σ')) (hp:sO ps fs=true) (r:R B E w0 N σ a w G) (hQ:∀a w G,R B E w0 N σ' a w G->Q .normal a w):(Code.region id ops true).wp P Q a w:=by
 obtain⟨k1,k2⟩:=Qg hc;have hlen:ms.length=ops.size:=by simpa using k1
 refine wp_region_any hm (auq (B:=B) (E:=E) (w0:=w0) (N:=N) hT (fun i m h=>by
  obtain⟨o,h1,h2⟩:=k2 i m h;exact⟨o,by simpa using h1,h2⟩) hlen (XK hd hp) hQ ops.size (List.range ops.size) _ σ a _ G (r.drawn _) ?_ ?_ (by simp) (by simp) (fun j=>?_) (fun k o ho hk=>?_))
 ·have:=(QD (T:=T) (ms:=ms) ms [] σ σ' fs [] rfl rfl hx).2;simp only[List.length_nil,hlen,<-List.range_eq_range'] at this;exact this
 ·exact List.pairwise_lt_range
 ·rw[List.mem_range];constructor
  ·intro h;simp[h]
  ·intro h;rcases Nat.lt_or_ge j ops.size with h'|h'
   ·exact h'
   ·simp[Array.getElem?_eq_none (show(Array.replicate ops.size false).size<=j by simpa using h')] at h
 ·exfalso;have G7:k<ops.size:=(Array.getElem?_eq_some_iff.1 ho).1;simp[G7] at hk
end
def aqF:aT:=.mv (.k (.one .bq))
def MO.isNone:aT->Bool
 |.mv (.k (.one .bq))=>true
 |_=>false
def MO.Ee (s:Nat):MO->Bool
 |.t n=>n==s
 |_=>false
def rI (sp:qy) (m:bQ):Bool:=
 (match m.guard with|none=>true|some _=>false)&&(match m.op with|.mv _|.nw _ _ _|.nP _ _=>true|_=>false)&&
 (match m.dst with|none=>true|some s=>s !=sp.d&& !(sp.ml.Ee s)&& !(sp.my.Ee s))
def wm (P:Program) (N:Nat) (sp:qy) (o:Oper) (m:bQ):Bool:=
 decide (m.dst=some sp.d)&&decide (o.dst=some sp.d)&&decide (sp.d<N)&&(match m.guard with|none=>true|some _=>false)&&(match o.guard with|none=>true|some _=>false)&&
 MO.isNone m.op&& !(sp.ml.Ee sp.d)&& !(sp.my.Ee sp.d)&&
 (match o.op with
  |.call c=>match c.callee,c.args.toList,c.argTypes.toList with
   |.builtin .append,[x,y],[t,t']=>(t==t')&&bU x sp.ml&&bU y sp.my&&rU P t sp.sz (fun i z=>(i.bytes==sp.by_)&&decide (0<sp.by_)&&(z.cells.size==sp.sz))
   |_,_,_=>false
  |_=>false)
def wq (P:Program) (sp:qy) (o:Oper) (m:bQ):Bool:=
 decide (m.dst=none)&&decide (o.dst=none)&&(match m.guard with|none=>true|some _=>false)&&(match o.guard with|none=>true|some _=>false)&&MO.isNone m.op&&
 (match o.op with
  |.store t x (.tmp s)=>bU x sp.mx&&(s==sp.d)&&Kz P t 1
  |_=>false)
def yy (P:Program) (N:Nat) (ops:Array Oper) (sp:qy) (n i:Nat) (o:Oper) (m:bQ):Bool:=
 if i=sp.ia then wm P N sp o m else if i+1=n then wq P sp o m else oM P N ops o m
section
variable {B:Nat} {E:Ex} {w0 w w':World} {G G':Gh} {N:Nat} {h h':Nat->Option aq}
variable {P:Program} {T:aQ} {o:Oper} {m:bQ} {a:Act} {σ σ':St} {Q:Exit->Act->World->Prop} {ops:Array Oper} {sp:qy}
theorem MO.Bl {op:aT} (h:MO.isNone op=true):op=aqF:=by
 unfold MO.isNone at h;split at h
 ·rfl
 ·cases h
theorem MO.Ef {s:Nat} {x:MO} (h:x.Ee s=false):x≠ .t s:=by
 rintro rfl;simp[MO.Ee] at h
theorem Dr {d:Nat} {v:aj} {x:MO} (h:x≠ .t d):(σ.put (some d) v).ev x=σ.ev x:=by
 cases x with
 |t n=>
  show az σ.env d v n=σ.env n;exact cN _ _ _ _ (fun e=>h (by rw[e]))
 |k v=>rfl
theorem N5 (hv:rI sp m=true) (hx:ef T m σ=some σ'):σ'.h=σ.h/\σ'.ev sp.ml=σ.ev sp.ml/\σ'.ev sp.my=σ.ev sp.my:=by
 obtain⟨dst,op,guard⟩:=m;simp only[rI,Bool.and_eq_true] at hv;obtain⟨⟨h1,h2⟩,h3⟩:=hv;cases guard with
 |some g=>cases h1
 |none=>
  simp only[ef] at hx;have cW:∀x,σ'=σ.put dst x->σ'.h=σ.h/\σ'.ev sp.ml=σ.ev sp.ml/\σ'.ev sp.my=σ.ev sp.my:=by
   rintro x rfl;cases dst with
   |none=>exact⟨rfl,rfl,rfl⟩
   |some s=>
    simp only[Bool.and_eq_true,Bool.not_eq_true'] at h3;exact⟨rfl,Dr (MO.Ef h3.1.2),Dr (MO.Ef h3.2)⟩
  cases op<;>simp only at h2<;>first|cases h2|skip
  ·simp only[exec] at hx;injection hx with hx;exact cW _ hx.symm
  ·simp only[exec] at hx;split at hx
   ·split at hx
    ·injection hx with hx;exact cW _ hx.symm
    ·cases hx
   ·injection hx with hx;exact cW _ hx.symm
   ·injection hx with hx;exact cW _ hx.symm
   ·cases hx
  ·simp only[exec] at hx;split at hx
   ·split at hx
    ·injection hx with hx;exact cW _ hx.symm
    ·cases hx
   ·split at hx
    ·split at hx
     ·injection hx with hx;exact cW _ hx.symm
     ·cases hx
    ·cases hx
   ·split at hx
    ·split at hx
     ·injection hx with hx;exact cW _ hx.symm
     ·cases hx
    ·cases hx
   ·cases hx
theorem YE (r:R B E w0 N σ a w G) (hv:rI sp m=true) (hc:oM P N ops o m=true) (hx:ef T m σ=some σ'):o.guard=none/\o.wp P a w (CO B E w0 N a w G o.dst σ') Q:=by
 simp only[oM,Bool.and_eq_true,decide_eq_true_eq] at hc;obtain⟨⟨⟨c1,c2⟩,c3⟩,c4⟩:=hc;have hN:∀n,o.dst=some n->n<N:=fun n hn=>by rw[hn] at c2;simpa using c2
 obtain⟨dst,op,guard⟩:=m;simp only[rI,Bool.and_eq_true] at hv;obtain⟨⟨h1,h2⟩,h3⟩:=hv;cases guard with
 |some g=>cases h1
 |none=>
  have hg:o.guard=none:=by
   unfold Qb at c3;cases hg:o.guard with
   |none=>rfl
   |some g=>rw[hg] at c3;cases c3
  refine⟨hg,?_⟩;simp only[ef] at hx;simp only at c1;subst c1;obtain⟨auP,Tz,oty,auQ,auO,ogd⟩:=o;cases op<;>simp only at h2<;>first|cases h2|skip
  ·rename_i x;simp only[exec] at hx;injection hx with hx;subst hx;cases Tz<;>simp only[e9] at c4<;>first|cases c4|skip
   ·exact YB r (.inl rfl) hN c4
   ·exact YB r (.inr rfl) hN c4
  ·rename_i off x;cases Tz<;>simp only[e9] at c4<;>first|cases c4|skip
   simp only[Bool.and_eq_true] at c4;simp only[exec] at hx;split at hx
   ·rename_i n k sz q e;split at hx
    ·rename_i hs;injection hx with hx;subst hx;exact QA r rfl hN c4.1 c4.2 (.inl ⟨n,k,sz,q,e,hs,rfl⟩)
    ·cases hx
   ·rename_i xs q e;injection hx with hx;subst hx;exact QA r rfl hN c4.1 c4.2 (.inr (.inl ⟨xs,q,e,rfl⟩))
   ·rename_i xs q j n s len e;injection hx with hx;subst hx;exact QA r rfl hN c4.1 c4.2 (.inr (.inr ⟨xs,q,j,n,s,len,e,rfl⟩))
   ·cases hx
  ·rename_i sz x i;cases Tz<;>simp only[e9] at c4<;>first|cases c4|skip
   simp only[Bool.and_eq_true] at c4;obtain⟨⟨P3,P4⟩,c43⟩:=c4;obtain⟨e,ti,z,k1,k2,k3,k4,k5,_⟩:=tx c43;simp only[exec] at hx;split at hx
   ·rename_i n s lo len q e1 e2;split at hx
    ·rename_i cV;obtain⟨rfl,q0,q1,hs⟩:=cV;injection hx with hx;subst hx;exact Yz r rfl hN P3 P4 k1 k2 k4 e2 q0 (.inl ⟨n,lo,len,e1,q1,hs,rfl⟩)
    ·cases hx
   ·rename_i s xs q e1 e2;split at hx
    ·rename_i cV;obtain⟨rfl,q0⟩:=cV;split at hx
     ·rename_i el lD;injection hx with hx;subst hx;exact Yz r rfl hN P3 P4 k1 k2 k4 e2 q0 (.inr ⟨xs,el,e1,lD,rfl⟩)
     ·cases hx
    ·cases hx
   ·rename_i n kk aB off s len q e1 e2;split at hx
    ·rename_i s' ys Hl;split at hx
     ·rename_i cV;obtain⟨rfl,q0,q1⟩:=cV;injection hx with hx;subst hx;exact ajg r rfl hN P3 P4 k1 k2 k4 e2 q0 q1 e1 Hl
     ·cases hx
    ·cases hx
   ·cases hx
theorem ajk (r:R B E w0 N σ a w G) {n k rs off sz s:Nat} {xs zs:List (List C)} {t:TypeId} {i:TypeInfo} {x:Operand} {mx:MO} (ho:o.op=.store t x (.tmp s)) (hd:o.dst=none) (fU:bU x mx=true)
  (hi:P.info? t=some i) (bV:i.size=1) (hp:σ.ev mx=.one (.ptr n k rs off)) (hn:σ.h n=some (.row true .live rs xs)) (nY:off+1=rs) (nt:n<aH) (hk:∃e,xs[k]? =some e)
  (sv:CP B E w G σ.h n k off sz zs (a.tmps.getD s undef)):
  o.wp P a w (Nx B E w0 N ((σ.cut n).eE n (.row true .live rs (xs.set k ((xs.getD k []).set off (.list sz zs)))))) Q:=by
 obtain⟨x1,_⟩:=r.ev fU;rw[hp] at x1;have bN:σ.h n≠none:=by rw[hn];simp
 obtain⟨p1,p2⟩:=(x1.fu (by simp)).1 bN;have hr:=r.hr.row n true .live rs xs hn;obtain⟨⟨cur,et,q2⟩,l2,l3⟩:=hr.eK p1;obtain⟨q,qv,qe,hq⟩:=sv;obtain⟨el,lD⟩:=hk;have iY:∃pe,(G.g n).px[k]? =some pe/\pe.map PC.er=el:=by
  have bL:=lD;rw[hr.er,List.getElem?_map] at bL;cases hq:(G.g n).px[k]? with
  |none=>rw[hq] at bL;cases bL
  |some pe=>rw[hq] at bL;simp at bL;exact⟨pe,rfl,bL⟩
 obtain⟨pe,sx,vc⟩:=iY;have wY:pe.length=rs:=l2.1 pe (List.mem_of_getElem? sx);have qR:=PC.jP q;rw[qv] at qR;have oQ:(a.eval (.tmp s)).cells.toList=[q.val]:=by
  have he:a.eval (.tmp s)=a.tmps.getD s undef:=rfl;rw[he,qv]
  revert qR
  cases a.tmps.getD s undef<;>intro qR<;>first|rfl|(simp[Value.oneCell'] at qR)
 have jE:(a.eval (.tmp s)).cells.size=1:=by rw[<-Array.length_toList,oQ];rfl
 have AR:(G.g n).o+k*rs+off+(a.eval (.tmp s)).cells.size<=cur.size:=by
  have hc:=l2.2.1 k off (pe[off]'(by omega)) ⟨pe,sx,List.getElem?_eq_getElem _⟩;have:=Ah q2 hc;omega
 have rc:=r.cut n;have tM:(σ.cut n).h n=some (.row true .live rs xs):=by show(σ.h n).map _=_;rw[hn];rfl
 have n4:I0 B E w G (σ.cut n).h n k off q:=⟨hq.eG,hq.sep,hq.nr,hq.own,fun b hb m h0=>hq.name b hb m (wv h0),fun b hb m gr mo sz xs bJ h0=>hq.row b hb m gr mo sz xs bJ (yB h0),hq.rest⟩;have r':=rc.nest tM nt (fun s=>aj.Dl n (σ.env s)) (fun m cs c hm hc=>by
  obtain⟨gf,_,rfl⟩:=Qq (h:=σ.h) hm;obtain⟨c0,_,rfl⟩:=List.mem_map.1 hc;exact ah.Dl n c0) sx nY q2 n4
 have bE:=Nd (P:=P) (w:=w) (t:=t) (i:=i) (b:=(G.g n).b) (off:=(G.g n).o+k*rs+off) (v:=a.eval (.tmp s)) (cur:=cur) (e:=et) hi (by rw[bV,jE]) q2 AR (fun u hu=>by
  rw[oQ] at hu;simp at hu;subst hu;exact PC.jP q)
 rw[oQ] at bE;have iV:xs.getD k []=pe.map PC.er:=by rw[List.getD_eq_getElem?_getD,lD,vc];rfl
 rw[iV,<-qe];refine Og (w':=gb w (G.g n).b ((G.g n).o+k*rs+off) [q.val] cur) ?_ (by rw[hd];exact⟨_,r'⟩);simp only[execOp,ho,p2];simp[Instr.storeAt,Instr.sureAddr,bE]
structure FM (sp:qy) (σ σ2:St) (n k rs off:Nat) (xs ls ys:List (List C)):Prop where
 hx:σ.ev sp.mx=.one (.ptr n k rs off)
 hl:∃s0 vD,σ.ev sp.ml=.one (.bC n k rs off s0 vD)
 nY:off+1=rs
 nt:n<aH
 hn:σ.h n=some (.row true .live rs xs)
 qP:(xs[k]?).bind (·[off]?)=some (.list sp.sz ls)
 hy:∃yc,σ.ev sp.my=.one yc/\cO σ.h yc=some (.list sp.sz ys)
 sl:eP ls=true
 sy:eP ys=true
 fit:(ls.length+ys.length)*sp.by_<=dX
 out:σ2=(σ.cut n).eE n (.row true .live rs (xs.set k ((xs.getD k []).set off (.list sp.sz (ls++ys)))))
theorem ac1 {σ2:St} (h:zr sp σ=some σ2):∃n k rs off xs ls ys,FM sp σ σ2 n k rs off xs ls ys:=by
 unfold zr at h;split at h
 ·rename_i n k rs off n' k' mw lL s0 vD yc e1 e2 e3;split at h
  ·rename_i hc;obtain⟨rfl,rfl,rfl,rfl,ho,hp⟩:=hc;split at h
   ·rename_i H9 xs hn;split at h
    ·rename_i oV;subst oV;split at h
     ·rename_i s ls s' ys qP nu;split at h
      ·rename_i cV;obtain⟨rfl,rfl,k1,k2,k3⟩:=cV;injection h with h;exact⟨_,_,_,_,xs,ls,ys,e1,⟨_,_,e2⟩,ho,hp,hn,qP,⟨yc,e3,nu⟩,k1,k2,k3,h.symm⟩
      ·cases h
     ·cases h
    ·cases h
   ·cases h
  ·cases h
 ·cases h
theorem Xd (hc:wm P N sp o m=true):ef T m σ=some (σ.put (some sp.d) (.one .bq)):=by
 simp only[wm,Bool.and_eq_true,decide_eq_true_eq] at hc;have lF:m.guard=none:=by cases hg:m.guard with|none=>rfl|some g=>rw[hg] at hc;simp at hc
 have lH:=MO.Bl hc.1.1.1.2;have hd:=hc.1.1.1.1.1.1.1.1;obtain⟨dst,op,guard⟩:=m;simp only at lF lH hd;subst lF lH hd;rfl
theorem agq (hc:wq P sp o m=true):ef T m σ=some σ:=by
 simp only[wq,Bool.and_eq_true,decide_eq_true_eq] at hc;have lF:m.guard=none:=by cases hg:m.guard with|none=>rfl|some g=>rw[hg] at hc;simp at hc
 have lH:=MO.Bl hc.1.2;have hd:=hc.1.1.1.1.1;obtain⟨dst,op,guard⟩:=m;simp only at lF lH hd;subst lF lH hd;rfl
theorem agu (r:R B E w0 N σ a w G) (hc:wm P N sp o m=true) {eu σ2:St} {n k rs off:Nat} {xs ls ys:List (List C)} (F:FM sp eu σ2 n k rs off xs ls ys) (hh:eu.h=σ.h) (hl:eu.ev sp.ml=σ.ev sp.ml) (hy:eu.ev sp.my=σ.ev sp.my):
  o.guard=none/\o.dst=some sp.d/\sp.d<N/\ef T m σ=some (σ.put (some sp.d) (.one .bq))/\
  o.wp P a w (fun a' w'=>∃v,a'=a.put (some sp.d) v/\R B E w0 N (σ.put (some sp.d) (.one .bq)) a' w' G/\CP B E w' G σ.h n k off sp.sz (ls++ys) v) Q:=by
 simp only[wm,Bool.and_eq_true,decide_eq_true_eq] at hc;obtain⟨⟨⟨⟨⟨⟨⟨⟨c1,c2⟩,c3⟩,c4⟩,c5⟩,c6⟩,c7⟩,c8⟩,c9⟩:=hc;have Rx:o.guard=none:=by cases hg:o.guard with|none=>rfl|some g=>rw[hg] at c5;cases c5
 have lF:m.guard=none:=by cases hg:m.guard with|none=>rfl|some g=>rw[hg] at c4;cases c4
 have lH:=MO.Bl c6;refine⟨Rx,c2,c3,?_,?_⟩
 ·obtain⟨dst,op,guard⟩:=m;simp only at lF lH c1;subst lF lH c1;rfl
 ·split at c9
  ·rename_i c ak2;split at c9
   ·rename_i x y t t' k1 k2 k3;simp only[Bool.and_eq_true,beq_iff_eq] at c9;obtain⟨⟨⟨rfl,d2⟩,d3⟩,d4⟩:=c9;obtain⟨e,i,z,g1,g2,g3,g4,g5,g6⟩:=tx d4;simp only[Bool.and_eq_true,beq_iff_eq,decide_eq_true_eq] at g6;obtain⟨⟨g6,g7⟩,g8⟩:=g6;have ho:o.op=.call {callee:=.builtin .append,args:=#[x,y],argTypes:=#[t,t]}:=by
     rw[ak2];obtain⟨cc,ca,ct⟩:=c;simp only at k1 k2 k3;subst k1;congr 2
     ·apply Array.ext';simpa using k2
     ·apply Array.ext';simpa using k3
    obtain⟨s0,vD,gX⟩:=F.hl;obtain⟨yc,LI,hy1⟩:=F.hy;rw[hl] at gX;rw[hy] at LI;rw[hh] at hy1;have hn:=F.hn;rw[hh] at hn;refine Oper.wp_mono (fun a' w' ⟨v,e1,e2,e3⟩=>?_) (aiP (P:=P) (Q:=Q) r ho d2 d3 g1 g2 g3 g4 g5 g6 g7 g8 hn F.nY gX F.qP F.sl LI hy1 F.sy F.fit);rw[c2] at e1;refine⟨v,e1,?_,e3⟩;rw[e1];exact e2.put (x:=.one .bq) (Or.inl rfl) (fun q hq=>(hq:False).elim) (fun q hq=>by injection hq with hq;omega)
   ·cases c9
  ·cases c9
theorem agv (r:R B E w0 N σ a w G) (hc:wq P sp o m=true) {σ2:St} {n k rs off:Nat} {xs ls ys:List (List C)} (F:FM sp σ σ2 n k rs off xs ls ys) (hp:CP B E w G σ.h n k off sp.sz (ls++ys) (a.tmps.getD sp.d undef)):
  o.guard=none/\ef T m σ=some σ/\o.wp P a w (Nx B E w0 N σ2) Q:=by
 simp only[wq,Bool.and_eq_true,decide_eq_true_eq] at hc;obtain⟨⟨⟨⟨⟨c1,c2⟩,c4⟩,c5⟩,c6⟩,c9⟩:=hc;have Rx:o.guard=none:=by cases hg:o.guard with|none=>rfl|some g=>rw[hg] at c5;cases c5
 have lF:m.guard=none:=by cases hg:m.guard with|none=>rfl|some g=>rw[hg] at c4;cases c4
 have lH:=MO.Bl c6;refine⟨Rx,?_,?_⟩
 ·obtain⟨dst,op,guard⟩:=m;simp only at lF lH c1;subst lF lH c1;rfl
 ·split at c9
  ·rename_i t x s jn;simp only[Bool.and_eq_true,beq_iff_eq] at c9;obtain⟨⟨d1,rfl⟩,d2⟩:=c9;unfold Kz at d2;split at d2
   ·rename_i i hi;simp only[Bool.and_eq_true,beq_iff_eq,decide_eq_true_eq] at d2;rw[F.out];refine ajk r jn c2 d1 hi d2.1 F.hx F.hn F.nY F.nt ?_ hp;have:=F.qP;cases hk:xs[k]? with
    |none=>rw[hk] at this;cases this
    |some e=>exact⟨e,rfl⟩
   ·cases d2
  ·cases c9
theorem agY:∀{l:List bQ} {σ eu:St},(∀m∈l,rI sp m=true)->fv T l σ=some eu->eu.h=σ.h/\eu.ev sp.ml=σ.ev sp.ml/\eu.ev sp.my=σ.ev sp.my
 |[],σ,eu,hv,hx=>by simp only[fv] at hx;injection hx with hx;subst hx;exact⟨rfl,rfl,rfl⟩
 |m::l,σ,eu,hv,hx=>by
  simp only[fv] at hx;split at hx
  ·rename_i σ1 e1;obtain⟨a1,a2,a3⟩:=N5 (hv m (by simp)) e1;obtain⟨b1,b2,b3⟩:=agY (fun m hm=>hv m (by simp[hm])) hx;exact⟨b1.trans a1,b2.trans a2,b3.trans a3⟩
  ·cases hx
theorem MY {d:Nat} {dst:Option Nat} {v:Value} (hd:dst≠some d):(a.put dst v).tmps.getD d undef=a.tmps.getD d undef:=by
 cases dst with
 |none=>rfl
 |some s=>
  have hs:s≠d:=fun e=>hd (by rw[e]);simp only[Act.put];simp[Array.getD_eq_getD_getElem?,Array.getElem?_setIfInBounds_ne hs]
theorem adI {d:Nat} {v:Value} (hd:d<a.tmps.size):(a.put (some d) v).tmps.getD d undef=v:=by
 simp only[Act.put];simp[Array.getD_eq_getD_getElem?,hd]
theorem agZ (hv:rI sp m=true):m.dst≠some sp.d:=by
 intro h;simp only[rI,Bool.and_eq_true] at hv;rw[h] at hv;simp at hv
theorem XM (hc:oM P N ops o m=true):o.dst=m.dst:=by
 simp only[oM,Bool.and_eq_true,decide_eq_true_eq] at hc;exact hc.1.1.1
theorem ahb {so:Oper} {sm:bQ}:∀{l:List Oper} {ms:List bQ} {σ eu σ2:St} {a:Act} {w:World} {G:Gh} {n k rs off:Nat} {xs ls ys:List (List C)},(∀m∈ms,rI sp m=true)->jW P N ops l ms=true->wq P sp so sm=true->
  fv T ms σ=some eu->FM sp eu σ2 n k rs off xs ls ys->R B E w0 N σ a w G->CP B E w G σ.h n k off sp.sz (ls++ys) (a.tmps.getD sp.d undef)->(∀a w G,R B E w0 N σ2 a w G->Q .normal a w)->wpList P ops Q (l++[so]) a w
 |[],[],σ,eu,σ2,a,w,G,n,k,rs,off,xs,ls,ys,hv,hc,hs,hx,F,r,hp,hQ=>by
  simp only[fv] at hx;injection hx with hx;subst hx;obtain⟨g1,_,g2⟩:=agv (T:=T) (Q:=Q) r hs F hp;simp only[List.nil_append];unfold wpList;rw[if_pos (by simp[Region.wanted,g1])];exact .inl (Oper.wp_mono (fun a' w' ⟨G',r'⟩=>hQ a' w' G' r') g2)
 |o::l,m::ms,σ,eu,σ2,a,w,G,n,k,rs,off,xs,ls,ys,hv,hc,hs,hx,F,r,hp,hQ=>by
  simp only[jW,Bool.and_eq_true] at hc;simp only[fv] at hx;split at hx
  ·rename_i σ1 e1;have Se:=hv m (by simp);obtain⟨g1,g2⟩:=YE (Q:=Q) r Se hc.1 e1;simp only[List.cons_append];unfold wpList;rw[if_pos (by simp[Region.wanted,g1])];refine .inl (Oper.wp_mono (fun a' w' ⟨e2,⟨v,e3⟩,r'⟩=>?_) g2);subst e2 e3;refine ahb (fun m hm=>hv m (by simp[hm])) hc.2 hs hx F r' ?_ hQ;rw[(N5 Se e1).1,MY (by rw[XM hc.1];exact agZ Se)];exact hp
  ·cases hx
 |[],_::_,_,_,_,_,_,_,_,_,_,_,_,_,_,_,hc,_,_,_,_,_,_=>by simp[jW] at hc
 |_::_,[],_,_,_,_,_,_,_,_,_,_,_,_,_,_,hc,_,_,_,_,_,_=>by simp[jW] at hc
theorem QE:∀(l l':List bQ) (σ:St),fv T (l++l') σ=(fv T l σ).bind (fv T l')
 |[],l',σ=>rfl
 |m::l,l',σ=>by
  simp only[List.cons_append,fv];cases ef T m σ with
  |none=>rfl
  |some σ1=>exact QE l l' σ1
theorem aus {l1 l2:List Oper} {m1:List bQ} {σ1:St} (hT:jT P T) (hc:jW P N ops l1 m1=true) (hx:fv T m1 σ=some σ1) (r:R B E w0 N σ a w G)
  (hQ:∀a w G,R B E w0 N σ1 a w G->wpList P ops Q l2 a w):wpList P ops Q (l1++l2) a w:=by
 induction l1 generalizing m1 σ a w G with
 |nil=>
  cases m1 with
  |nil=>simp only[fv] at hx;injection hx with hx;subst hx;exact hQ _ _ _ r
  |cons m m1=>simp[jW] at hc
 |cons o l1 ih=>
  cases m1 with
  |nil=>simp[jW] at hc
  |cons m m1=>
   simp only[jW,Bool.and_eq_true] at hc;simp only[fv] at hx;split at hx
   ·rename_i σ2 e1;simp only[List.cons_append];unfold wpList;rcases AE (Q:=Q) r hT hc.1 e1 with⟨hw,h⟩|⟨hw,G',h⟩
    ·rw[if_pos hw];exact .inl (Oper.wp_mono (fun a' w' ⟨G',r'⟩=>ih hc.2 hx r') h)
    ·rw[if_neg (by simp[hw])];exact ih hc.2 hx h
   ·cases hx
def Qe (P:Program) (N:Nat) (ops:Array Oper) (ms:List bQ) (sp:qy):Bool:=
 jW P N ops (ops.toList.take sp.ia) (ms.take sp.ia)&&
 (match ops.toList.drop sp.ia,ms.drop sp.ia with
  |oa::l,ma::m=>wm P N sp oa ma&&jW P N ops l.dropLast m.dropLast&&m.dropLast.all (rI sp)&&(match l.getLast?,m.getLast? with
   |some so,some sm=>wq P sp so sm
   |_,_=>false)
  |_,_=>false)
theorem abg {α:Type} {l:List α} {x:α} (h:l.getLast?=some x):l=l.dropLast++[x]:=by
 rw[List.getLast?_eq_some_iff] at h;obtain⟨ys,rfl⟩:=h;simp
theorem asp (hT:jT P T) {id:Nat} {ms:List bQ} {σ1 σ2:St} (hc:Qe P N ops ms sp=true) (hx:fv T ms σ=some σ1) (hf:zr sp σ1=some σ2) (r:R B E w0 N σ a w G)
  (hQ:∀a w G,R B E w0 N σ2 a w G->Q .normal a w):(Code.region id ops false).wp P Q a w:=by
 refine wp_region_list ?_;simp only[Qe,Bool.and_eq_true] at hc;obtain⟨nf,ng⟩:=hc;split at ng
 ·rename_i oa l ma m e1 e2;simp only[Bool.and_eq_true,List.all_eq_true] at ng;obtain⟨⟨⟨d1,d2⟩,d3⟩,d4⟩:=ng;split at d4
  ·rename_i so sm f1 f2;have hl:ops.toList=ops.toList.take sp.ia++(oa::(l.dropLast++[so])):=by
    rw[<-abg f1,<-e1,List.take_append_drop]
   have hm:ms=ms.take sp.ia++(ma::(m.dropLast++[sm])):=by
    rw[<-abg f2,<-e2,List.take_append_drop]
   rw[hl];rw[hm,QE] at hx;cases j0:fv T (ms.take sp.ia) σ with
   |none=>rw[j0] at hx;cases hx
   |some τ=>
    rw[j0] at hx;have hx:fv T (ma::(m.dropLast++[sm])) τ=some σ1:=hx;refine aus hT nf j0 r fun a w G r1=>?_;obtain⟨n,k,rs,off,xs,ls,ys,F⟩:=ac1 hf;simp only[fv] at hx;have hma:ef T ma τ=some (τ.put (some sp.d) (.one .bq)):=Xd d1;rw[hma] at hx;simp only at hx;rw[QE] at hx;cases eJ:fv T m.dropLast (τ.put (some sp.d) (.one .bq)) with
    |none=>rw[eJ] at hx;cases hx
    |some ki=>
     rw[eJ] at hx;have hx:fv T [sm] ki=some σ1:=hx;have hsm:ef T sm ki=some ki:=agq d4;simp only[fv,hsm] at hx;injection hx with hx;subst hx;obtain⟨k1,k2,k3⟩:=agY (sp:=sp) d3 eJ;have aD:sp.ml≠ .t sp.d/\sp.my≠ .t sp.d:=by
      have c:=d1;simp only[wm,Bool.and_eq_true,decide_eq_true_eq,Bool.not_eq_true'] at c;exact⟨MO.Ef c.1.1.2,MO.Ef c.1.2⟩
     have hh:ki.h=τ.h:=k1;have eQ:ki.ev sp.ml=τ.ev sp.ml:=k2.trans (Dr aD.1);have hy':ki.ev sp.my=τ.ev sp.my:=k3.trans (Dr aD.2);obtain⟨g1,g2,g3,_,g5⟩:=agu (T:=T) (Q:=Q) r1 d1 F hh eQ hy';unfold wpList;rw[if_pos (by simp[Region.wanted,g1])];refine .inl (Oper.wp_mono (fun a' w' ⟨v,q1,q2,q3⟩=>?_) g5);refine ahb d3 d2 d4 eJ F q2 ?_ hQ;rw[q1,adI (by rw[r1.size];exact g3)];exact q3
  ·cases d4
 ·cases ng
structure On (F:Nat->Option FP) (ops:Array Oper) (ms:List bQ) (sp:qy):Prop where
 base:Om F ops ms
 Xb:∀(i:Nat) (m:bQ),ms[i]? =some m->i≠sp.ia->i+1≠ops.size->qw ops sp.ia i\/rI sp m=true
 st:∀i,i+1<ops.size->qw ops (ops.size - 1) i
 lt:sp.ia+1<ops.size
def IX (P:Program) (N:Nat) (ops:Array Oper) (ms:List bQ) (sp:qy):Prop:=
 ∀(i:Nat) (m:bQ),ms[i]? =some m->∃o,ops[i]? =some o/\yy P N ops sp ops.size i o m=true
theorem ahZ (hT:jT P T) {ms:List bQ} (gQ:IX P N ops ms sp) {i:Nat} {mi:bQ} (hi:ms[i]? =some mi) {τ:St} (r:Ac B E w0 N σ) (hx:ef T mi σ=some τ):Ac B E w0 N τ:=by
 obtain⟨o,ho,hc⟩:=gQ i mi hi;unfold yy at hc;split at hc
 ·simp only[wm,Bool.and_eq_true,decide_eq_true_eq] at hc;have lF:mi.guard=none:=by cases hg:mi.guard with|none=>rfl|some g=>rw[hg] at hc;simp at hc
  have lH:=MO.Bl hc.1.1.1.2;have hd:=hc.1.1.1.1.1.1.1.1;have hdN:=hc.1.1.1.1.1.1.2;obtain⟨dst,op,guard⟩:=mi;simp only at lF lH hd;subst lF lH hd;have hx:some (σ.put (some sp.d) (.one .bq))=some τ:=hx;injection hx with hx;subst hx;obtain⟨a,w,G,r⟩:=r;exact⟨_,w,G,r.put (x:=.one .bq) (v:=undef) (d:=some sp.d) (Or.inl rfl) (fun q hq=>(hq:False).elim) (fun q hq=>by injection hq with hq;omega)⟩
 ·split at hc
  ·simp only[wq,Bool.and_eq_true,decide_eq_true_eq] at hc;have lF:mi.guard=none:=by cases hg:mi.guard with|none=>rfl|some g=>rw[hg] at hc;simp at hc
   have lH:=MO.Bl hc.1.2;have hd:=hc.1.1.1.1.1;obtain⟨dst,op,guard⟩:=mi;simp only at lF lH hd;subst lF lH hd;have hx:some σ=some τ:=hx;injection hx with hx;subst hx;exact r
  ·exact TW r hT hc hx
theorem ad7 (hT:jT P T) {ms:List bQ} {F:Nat->Option FP} (gQ:IX P N ops ms sp) {i:Nat} {mi:bQ} (hi:ms[i]? =some mi) {post:List Nat} {eu:St}:
  ∀{pre:List Nat} {σ:St},Ac B E w0 N σ->wc T ms F (pre++i::post) σ eu->(∀j∈pre,PD F ms i j mi)->
  ∃τ,F i=mi.fp σ/\ef T mi σ=some τ/\wc T ms F (pre++post) τ eu
 |[],σ,hr,hx,hc=>by
  obtain⟨m,σ1,h1,h2,h3,h4⟩:=hx;rw[hi] at h1;injection h1 with h1;subst h1;exact⟨σ1,h2,h3,h4⟩
 |j::pre,σ,hr,hx,hc=>by
  obtain⟨mj,σ1,k1,k2,k3,k4⟩:=hx;obtain⟨mj',hj,jD,cC⟩:=hc j (by simp);rw[k1] at hj;injection hj with hj;subst hj;obtain⟨oH,t0,t1,t2⟩:=ad7 hT gQ hi (ahZ hT gQ k1 hr k3) k4 (fun k hk=>hc k (by simp[hk]));obtain⟨a,w,G,r⟩:=hr;rw[k2,t0] at cC;obtain⟨τ,s1,s2,s3,s4⟩:=XR r.wf jD cC k3 t1;exact⟨τ,by rw[t0,s3],s1,mj,oH,k1,by rw[s4];exact k2,s2,t2⟩
theorem ad8 {ms:List bQ} {F:Nat->Option FP} (gQ:IX P N ops ms sp) (hd:On F ops ms sp):∀{L:List Nat} {σ eu:St},wc T ms F L σ eu->(∀j∈L,j≠sp.ia/\¬qw ops sp.ia j)->
  eu.h=σ.h/\eu.ev sp.ml=σ.ev sp.ml/\eu.ev sp.my=σ.ev sp.my
 |[],σ,eu,hx,_=>by have hx:σ=eu:=hx;subst hx;exact⟨rfl,rfl,rfl⟩
 |i::L,σ,eu,hx,hL=>by
  obtain⟨m,σ1,h1,_,h3,h4⟩:=hx;obtain⟨b1,b2,b3⟩:=ad8 gQ hd h4 (fun j hj=>hL j (by simp[hj]));have cW:σ1.h=σ.h/\σ1.ev sp.ml=σ.ev sp.ml/\σ1.ev sp.my=σ.ev sp.my:=by
   obtain⟨n1,n2⟩:=hL i (by simp);by_cases sk:i+1=ops.size
   ·obtain⟨o,ho,hc⟩:=gQ i m h1;unfold yy at hc;rw[if_neg n1,if_pos sk] at hc;simp only[wq,Bool.and_eq_true,decide_eq_true_eq] at hc;have lF:m.guard=none:=by cases hg:m.guard with|none=>rfl|some g=>rw[hg] at hc;simp at hc
    have lH:=MO.Bl hc.1.2;have tI:=hc.1.1.1.1.1;obtain⟨dst,op,guard⟩:=m;simp only at lF lH tI;subst lF lH tI;have h3:some σ=some σ1:=h3;injection h3 with h3;subst h3;exact⟨rfl,rfl,rfl⟩
   ·exact N5 ((hd.Xb i m h1 n1 sk).resolve_left n2) h3
  exact⟨b1.trans cW.1,b2.trans cW.2.1,b3.trans cW.2.2⟩
theorem wpAny_done {gh:Nat} {cJ:Array Bool} (hr:Region.ready .any ops cJ=[]) (hQ:Q .normal a w):wpAny P .any ops Q gh cJ a w:=by
 cases gh with
 |zero=>exact⟨hr,hQ⟩
 |succ gh=>exact⟨fun _=>hQ,fun i hi=>by rw[hr] at hi;cases hi⟩
theorem aur (hT:jT P T) {ms:List bQ} {F:Nat->Option FP} (gQ:IX P N ops ms sp) (hlen:ms.length=ops.size) (hd:On F ops ms sp) {eu σ2:St} {n k rs off:Nat} {xs ls ys:List (List C)} (FN:FM sp eu σ2 n k rs off xs ls ys)
  (hQ:∀a w G,R B E w0 N σ2 a w G->Q .normal a w):
  ∀(gh:Nat) (L:List Nat) (cJ:Array Bool) (σ:St) (a:Act) (w:World) (G:Gh),R B E w0 N σ a w G->wc T ms F L σ eu->L.Pairwise (·<·)->L.length<=gh->cJ.size=ops.size->
   (∀j,j∈L↔cJ.getD j true=false)->FG ops cJ->ops.size - 1∈L->(sp.ia∉L->CP B E w G σ.h n k off sp.sz (ls++ys) (a.tmps.getD sp.d undef))->wpAny P .any ops Q gh cJ a w:=by
 intro gh;induction gh with
 |zero=>
  intro L cJ σ a w G r hx hp hl hs hL hC sk sv;have qK:L=[]:=List.eq_nil_of_length_eq_zero (by omega);subst qK;cases sk
 |succ gh ih=>
  intro L cJ σ a w G r hx hp hl hs hL hC sk sv;have first:Region.ready .any ops cJ≠[]:=by
   intro hr;cases L with
   |nil=>cases sk
   |cons j L=>
    have hj:=(hL j).1 (by simp);have kN:j<ops.size:=by
     rw[<-hs];rcases Nat.lt_or_ge j cJ.size with h|h
     ·exact h
     ·simp[Array.getElem?_eq_none h] at hj
    have ho:ops[j]? =some ops[j]:=Array.getElem?_eq_getElem kN;have:j∈Region.ready .any ops cJ:=by
     rw[mem_ready];refine⟨hj,_,ho,fun e he hb=>?_⟩;have cu:=hd.base.back j _ ho e he hb;have mK:e.on∉j::L:=by
      intro hm;cases hm with
      |head=>omega
      |tail _ hm=>have:=(List.pairwise_cons.1 hp).1 _ hm;omega
     have aD:cJ.getD e.on true≠false:=fun h=>mK ((hL e.on).2 h);have ni:e.on<cJ.size:=by omega
     simp[ni] at aD⊢;exact aD
    rw[hr] at this;cases this
  refine⟨fun hr=>absurd hr first,fun i hi=>?_⟩
  obtain⟨A3,oi,iG,AP⟩:=mem_ready.1 hi;have pQ:i∈L:=(hL i).2 A3;obtain⟨pre,post,rfl⟩:=List.append_of_mem pQ;have DR:i<ops.size:=(Array.getElem?_eq_some_iff.1 iG).1;have sr:ms[i]? =some ms[i]:=List.getElem?_eq_getElem (by omega);obtain⟨o',fE,jk⟩:=gQ i _ sr;rw[iG] at fE;injection fE with fE;subst fE;have f6:=List.pairwise_append.1 hp;have LG:∀o,ops[i]? =some o->∀e∈o.after,Region.binds .any e=true->cJ.getD e.on true=true:=by
   intro o ho e he hb;rw[iG] at ho;injection ho with ho;subst ho;have h1:=AP e he hb;have cu:=hd.base.back i _ iG e he hb;have ni:e.on<cJ.size:=by omega
   simp[ni] at h1⊢;exact h1
  obtain⟨τ,t0,t1,t2⟩:=ad7 (ops:=ops) hT gQ sr ⟨a,w,G,r⟩ hx (fun j hj=>by
   have kM:j<i:=f6.2.2 j hj i (by simp);rcases hd.base.pair i j oi _ iG sr kM with GN|h
   ·have h1:=C0 hC GN LG;have h2:=(hL j).1 (by simp[hj]);rw[h1] at h2;cases h2
   ·exact h)
  have Hc:(pre++post).Pairwise (·<·):=by
   rw[List.pairwise_append];exact⟨f6.1,(List.pairwise_cons.1 f6.2.1).2,fun x hx y hy=>f6.2.2 x hx y (by simp[hy])⟩
  have RR:i∉pre++post:=by
   simp only[List.mem_append];rintro(h|h)
   ·have:=f6.2.2 i h i (by simp);omega
   ·have:=(List.pairwise_cons.1 f6.2.1).1 i h;omega
  have G5:∀j,j∈pre++post↔(cJ.setIfInBounds i true).getD j true=false:=by
   intro j;by_cases kM:j=i
   ·subst kM;have kN:j<cJ.size:=by omega
    constructor
    ·intro h;exact absurd h RR
    ·intro h;simp[kN] at h
   ·rw[getD_set_ne true (Ne.symm kM),<-hL j];simp[kM]
  have yU:∀q,cJ.getD q true=true->(cJ.setIfInBounds i true).getD q true=true:=by
   intro q hq;by_cases n5:q=i
   ·subst n5;have:q<cJ.size:=by omega
    simp[this]
   ·rw[getD_set_ne true (Ne.symm n5)];exact hq
  have Rr:FG ops (cJ.setIfInBounds i true):=by
   intro k' o ho hk e he hb;by_cases yS:k'=i
   ·subst yS;exact yU _ (LG o ho e he hb)
   ·rw[getD_set_ne true (Ne.symm yS)] at hk;exact yU _ (hC k' o ho hk e he hb)
  unfold wpOp;rw[iG];simp only
  by_cases yO:i=sp.ia
  ·
   have Lt:ops.size - 1∈pre++post:=by
    have:ops.size - 1≠i:=by have:=hd.lt;omega
    simp only[List.mem_append,List.mem_cons] at sk⊢;rcases sk with h|h|h
    ·exact .inl h
    ·exact absurd h this
    ·exact .inr h
   unfold yy at jk;rw[if_pos yO] at jk;have yX:∀j∈pre++post,j≠sp.ia/\¬qw ops sp.ia j:=by
    intro j hj;refine⟨fun e=>RR (by rw[yO,<-e];exact hj),fun hb=>?_⟩;rw[<-yO] at hb;have h1:=C0 hC hb LG;have h2:=(hL j).1 (by
     simp only[List.mem_append,List.mem_cons] at hj⊢;exact hj.elim .inl (fun h=>.inr (.inr h)))
    rw[h1] at h2;cases h2
   obtain⟨k1,k2,k3⟩:=ad8 gQ hd t2 yX;have Sk:τ=σ.put (some sp.d) (.one .bq):=by
    rw[Xd (T:=T) (σ:=σ) jk] at t1;injection t1 with t1;exact t1.symm
   subst Sk;have aD:sp.ml≠ .t sp.d/\sp.my≠ .t sp.d:=by
    have c:=jk;simp only[wm,Bool.and_eq_true,decide_eq_true_eq,Bool.not_eq_true'] at c;exact⟨MO.Ef c.1.1.2,MO.Ef c.1.2⟩
   obtain⟨g1,g2,g3,_,g5⟩:=agu (T:=T) (Q:=Q) r jk FN k1 (k2.trans (Dr aD.1)) (k3.trans (Dr aD.2));rw[if_pos (by simp[Region.wanted,g1])];refine .inl (Oper.wp_mono (fun a' w' ⟨v,q1,q2,q3⟩=>?_) g5);refine ih (pre++post) _ _ a' w' G q2 t2 Hc (by simp at hl⊢;omega) (by simpa using hs) G5 Rr Lt (fun _=>?_);rw[q1,adI (by rw[r.size];exact g3)];exact q3
  ·by_cases nW:i+1=ops.size
   ·
    have RE:∀j∈pre++post,False:=by
     intro j hj;have hjL:j∈pre++i::post:=by
      simp only[List.mem_append,List.mem_cons] at hj⊢;exact hj.elim .inl (fun h=>.inr (.inr h))
     have h2:=(hL j).1 hjL;have kN:j<ops.size:=by
      rw[<-hs];rcases Nat.lt_or_ge j cJ.size with h|h
      ·exact h
      ·simp[Array.getElem?_eq_none h] at h2
     have kM:j≠i:=fun e=>RR (e▸hj);have hb:=hd.st j (by omega);have h1:=C0 hC (i:=i) (by rw[show ops.size - 1=i by omega] at hb;exact hb) LG;rw[h1] at h2;cases h2
    have RS:pre++post=[]:=List.eq_nil_iff_forall_not_mem.2 RE;rw[RS] at t2 G5;have t2:τ=eu:=t2;subst t2;unfold yy at jk;rw[if_neg yO,if_pos nW] at jk;have Sk:τ=σ:=by
     rw[agq (T:=T) (σ:=σ) jk] at t1;injection t1 with t1;exact t1.symm
    subst Sk;have alf:sp.ia∉pre++i::post:=by
     intro h;simp only[List.mem_append,List.mem_cons] at h;rcases h with h|h|h
     ·exact RE sp.ia (List.mem_append_left _ h)
     ·exact yO h.symm
     ·exact RE sp.ia (List.mem_append_right _ h)
    obtain⟨g1,_,g2⟩:=agv (T:=T) (Q:=Q) r jk FN (sv alf);rw[if_pos (by simp[Region.wanted,g1])];refine .inl (Oper.wp_mono (fun a' w' ⟨G',r'⟩=>wpAny_done ?_ (hQ a' w' G' r')) g2);cases hrd:Region.ready .any ops (cJ.setIfInBounds i true) with
    |nil=>rfl
    |cons q l=>
     have hm:q∈Region.ready .any ops (cJ.setIfInBounds i true):=by rw[hrd];simp
     have:=(G5 q).2 (mem_ready.1 hm).1;cases this
   ·
    have Lt:ops.size - 1∈pre++post:=by
     simp only[List.mem_append,List.mem_cons] at sk⊢;rcases sk with h|h|h
     ·exact .inl h
     ·omega
     ·exact .inr h
    unfold yy at jk;rw[if_neg yO,if_neg nW] at jk;by_cases dw:sp.ia∈pre++i::post
    ·have alh:sp.ia∈pre++post:=by
      simp only[List.mem_append,List.mem_cons] at dw⊢;rcases dw with h|h|h
      ·exact .inl h
      ·exact absurd h.symm yO
      ·exact .inr h
     have ve:∀a' w',Nx B E w0 N τ a' w'->wpAny P .any ops Q gh (cJ.setIfInBounds i true) a' w':=by
      rintro a' w' ⟨G',r'⟩;exact ih (pre++post) _ τ a' w' G' r' t2 Hc (by simp at hl⊢;omega) (by simpa using hs) G5 Rr Lt (fun h=>absurd alh h)
     rcases AE (Q:=Q) r hT jk t1 with⟨hw,h⟩|⟨hw,h⟩
     ·rw[if_pos hw];exact .inl (Oper.wp_mono ve h)
     ·rw[if_neg (by simp[hw])];exact ve _ _ h
    ·have hv:rI sp ms[i]=true:=by
      refine(hd.Xb i _ sr yO nW).resolve_left fun hb=>?_;have alm:cJ.getD sp.ia true=true:=by
       cases hq:cJ.getD sp.ia true with
       |true=>rfl
       |false=>exact absurd ((hL sp.ia).2 hq) dw
      have h1:=C0 hC hb (fun o ho e he hb=>hC sp.ia o ho alm e he hb);rw[h1] at A3;cases A3
     obtain⟨g1,g2⟩:=YE (Q:=Q) r hv jk t1;rw[if_pos (by simp[Region.wanted,g1])];refine .inl (Oper.wp_mono (fun a' w' ⟨e2,⟨v,e3⟩,r'⟩=>?_) g2);subst e2 e3;refine ih (pre++post) _ τ _ _ G r' t2 Hc (by simp at hl⊢;omega) (by simpa using hs) G5 Rr Lt (fun _=>?_);rw[(N5 hv t1).1,MY (by rw[XM jk];exact agZ hv)];exact sv dw
def Qd (P:Program) (N:Nat) (ops:Array Oper) (ps:List (Nat×Nat)) (ms:List bQ) (sp:qy):Bool:=
 (ms.length==ops.size)&&decide (sp.ia+1<ops.size)&&F9 ps ops.toList ms&&
 (fun ks:List Nat=>(List.range ops.size).all fun i=>match ops.toList[i]?,ms[i]? with
  |some o,some m=>yy P N ops sp ops.size i o m&&(i==sp.ia||i+1==ops.size||rI sp m||(ks.getD sp.ia 0).testBit i)&&(i+1==ops.size||(ks.getD (ops.size - 1) 0).testBit i)
  |_,_=>false) (vF ops.toList [])
theorem aso (hT:jT P T) (hm:P.follows .mixedOrders=true) {id:Nat} {ps:List (Nat×Nat)} {ms:List bQ} {fs:List (Option FP)} {σ1 σ2:St} (hc:Qd P N ops ps ms sp=true) (hx:lY T ms [] σ=some (fs,σ1)) (hp:sO ps fs=true)
  (hf:zr sp σ1=some σ2) (r:R B E w0 N σ a w G) (hQ:∀a w G,R B E w0 N σ2 a w G->Q .normal a w):(Code.region id ops true).wp P Q a w:=by
 simp only[Qd,Bool.and_eq_true,beq_iff_eq,decide_eq_true_eq,List.all_eq_true,List.mem_range] at hc;obtain⟨⟨⟨hlen,cu⟩,hd⟩,gQ⟩:=hc;have iV:∀(i:Nat) (m:bQ),ms[i]? =some m->∃o,ops[i]? =some o/\yy P N ops sp ops.size i o m=true/\((i=sp.ia\/i+1=ops.size)\/rI sp m=true\/((vF ops.toList []).getD sp.ia 0).testBit i=true)/\(i+1=ops.size\/((vF ops.toList []).getD (ops.size - 1) 0).testBit i=true):=by
  intro i m hm;have hi:i<ops.size:=by rw[<-hlen];exact(List.getElem?_eq_some_iff.1 hm).1
  have h:=gQ i hi;have ho:ops.toList[i]? =some ops[i]:=by simp[hi]
  rw[ho,hm] at h;simp only[Bool.and_eq_true,Bool.or_eq_true,beq_iff_eq] at h;exact⟨_,Array.getElem?_eq_getElem hi,h.1.1,by
   rcases h.1.2 with(h1|h1)|h1
   ·exact .inl h1
   ·exact .inr (.inl h1)
   ·exact .inr (.inr h1),h.2⟩
 have aaj:∀i j,((vF ops.toList []).getD i 0).testBit j=true->qw ops i j:=Mo ops.toList [] [] rfl rfl (by intro i k hb;simp at hb);have hD:On (fun i=>fs.getD i none) ops ms sp:=by
  refine⟨XK hd hp,fun i m hm h1 h2=>?_,fun i hi=>?_,cu⟩
  ·obtain⟨o,_,_,h3,_⟩:=iV i m hm;rcases h3 with(h3|h3)|h3|h3
   ·exact absurd h3 h1
   ·exact absurd h3 h2
   ·exact .inr h3
   ·exact .inl (aaj _ _ h3)
  ·have hm:ms[i]? =some (ms[i]'(by omega)):=List.getElem?_eq_getElem _;obtain⟨o,_,_,_,h4⟩:=iV i _ hm;exact aaj _ _ (h4.resolve_left (by omega))
 obtain⟨n,k,rs,off,xs,ls,ys,F⟩:=ac1 hf;refine wp_region_any hm (aur (B:=B) (E:=E) (w0:=w0) (N:=N) hT (fun i m h=>by
  obtain⟨o,h1,h2,_⟩:=iV i m h;exact⟨o,h1,h2⟩) hlen hD F hQ ops.size (List.range ops.size) _ σ a _ G (r.drawn _) ?_ ?_ (by simp) (by simp) (fun j=>?_) (fun k o ho hk=>?_) ?_ (fun h=>?_))
 ·have:=(QD (T:=T) (ms:=ms) ms [] σ σ1 fs [] rfl rfl hx).2;simp only[List.length_nil,hlen,<-List.range_eq_range'] at this;exact this
 ·exact List.pairwise_lt_range
 ·rw[List.mem_range];constructor
  ·intro h;simp[h]
  ·intro h;rcases Nat.lt_or_ge j ops.size with h'|h'
   ·exact h'
   ·simp[Array.getElem?_eq_none (show(Array.replicate ops.size false).size<=j by simpa using h')] at h
 ·exfalso;have G7:k<ops.size:=(Array.getElem?_eq_some_iff.1 ho).1;simp[G7] at hk
 ·rw[List.mem_range];omega
 ·exfalso;apply h;rw[List.mem_range];omega
end
section
variable {B:Nat} {E:Ex} {w0 w w':World} {G G':Gh} {N:Nat} {h h':Nat->Option aq} {used used':Nat->Bool}
variable {P:Program} {o:Oper} {a:Act} {σ σ':St} {Q:Exit->Act->World->Prop}
structure v8 (B:Nat) (E:Ex) (w:World) (G:Gh) (h:Nat->Option aq) (pc:PC):Prop where
 eG:Good w pc
 sep:Sep pc
 own:∀b,aZ b pc->¬G.Im b/\d9 w b/\(B<=b\/E b)
 name:∀b,aZ b pc->∀m,h m≠none->(G.g m).nl=false->b≠(G.g m).b
 row:∀b,aZ b pc->∀m gr mo sz xs,h m=some (.row gr mo sz xs)->¬bh b (G.g m).px
theorem v8.less {pc:PC} (L:v8 B E w G h pc) (hl:∀n b,h' n=some b->h n=some b):v8 B E w G h' pc:=
 ⟨L.eG,L.sep,L.own,fun b hb m h0=>L.name b hb m (by
  cases hh:h' m with
  |none=>exact absurd hh h0
  |some x=>rw[hl m x hh];simp),fun b hb m gr mo sz xs h0=>L.row b hb m gr mo sz xs (hl m _ h0)⟩
theorem v8.xy {pc:PC} (hg:Good w pc) (cm:∀b,¬aZ b pc):v8 B E w G h pc:=
 ⟨hg,Sep.xy cm hg,fun b hb=>absurd hb (cm b),fun b hb=>absurd hb (cm b),fun b hb=>absurd hb (cm b)⟩
theorem HR.vV (H:HR B E w G σ.h σ.used []) {c:ah} {x:C} {ok:Bool} {σ1:St} {v:Value} (hx:σ.vV c=some (x,ok,σ1)) (hc:RC w G σ.h c v):
  ∃pc:PC,pc.er=x/\pc.val=v/\v8 B E w G σ1.h pc/\(ok=true->pI w pc)/\HR B E w G σ1.h σ1.used []/\bm w G σ.h (fun n=>σ.used n=true) w G σ1.h/\σ1.env=σ.env/\σ1.used=σ.used/\(∀n b,σ1.h n=some b->σ.h n=some b)/\
   (∀b,aZ b pc->∃n,σ.h n≠none/\(G.g n).nl=false/\(G.g n).b=b):=by
 unfold St.vV at hx;split at hx
 ·rename_i y;split at hx
  ·rename_i hs;injection hx with hx;injection hx with h1 h2;injection h2 with h2 h3;subst h1 h2 h3;obtain⟨pc,p1,p2,p3,_⟩:=hc;have jm:pc.er.fk=true:=by rw[p1];exact hs
   have cm:=(Sep.hY jm).2;exact⟨pc,p1,p2,.xy p3 cm,fun _=>pI.hY jm,H,bm.refl _ _ _ _,rfl,rfl,fun _ _ h=>h,fun b hb=>absurd hb (cm b)⟩
  ·cases hx
 ·rename_i sz;split at hx
  ·rename_i hp;injection hx with hx;injection hx with h1 h2;injection h2 with h2 h3;subst h1 h2 h3;have dt:v=.slice none 0 0:=hc;subst dt;have cm:∀b,¬aZ b (.list sz none 0 []):=fun b hb=>by
    rw[aZ.kZ] at hb;rcases hb with⟨hb,_⟩|⟨k,j,c,⟨e,he,_⟩,_⟩
    ·exact absurd rfl hb
    ·simp at he
   exact⟨.list sz none 0 [],by simp[PC.dV],rfl,.xy (.nil _ _ _ hp) cm,fun _=>.inl rfl,H,bm.refl _ _ _ _,rfl,rfl,fun _ _ h=>h,fun b hb=>absurd hb (cm b)⟩
  ·cases hx
 ·rename_i n sz len;split at hx
  ·rename_i gr m rs xs hn;split at hx
   ·rename_i cV;obtain⟨rfl,hm,iZ,hl⟩:=cV;injection hx with hx;injection hx with h1 h2;injection h2 with h2 h3;subst h1 h2 h3;have bN:σ.h n≠none:=by rw[hn];simp
    have hr:=H.row n gr m rs xs hn;have hs:gE (G.g n) rs 0 len v:=hc bN;obtain⟨a1,a2,a3,a4⟩:=E5 hr hs (by omega);have Sa:eP ((G.g n).px.map fun e=>e.map PC.er)=true:=by rw[<-hr.er];exact iZ
    have alu:∀b,¬bh b (G.g n).px:=vP Sa;have dw:∀b,aZ b (jM (G.g n) rs 0 len v)->(G.g n).nl=false/\b=(G.g n).b:=fun b hb=>(a4 b hb).resolve_right (alu b);have GV:∃x0 c0,jM (G.g n) rs 0 len v=.list rs x0 c0 (((G.g n).px.drop 0).take len):=by
     rcases hs with⟨_,rfl,_,_⟩|⟨_,a',rfl,_,_⟩<;>exact⟨_,_,rfl⟩
    have fP:eP ((((G.g n).px.drop 0).take len).map fun e=>e.map PC.er)=true:=by
     simp only[eP,List.all_eq_true,List.mem_map] at Sa⊢;rintro e ⟨e0,lB,rfl⟩;exact Sa _ ⟨e0,List.mem_of_mem_drop (List.mem_of_mem_take lB),rfl⟩
    refine⟨jM (G.g n) rs 0 len v,by simpa using a1,a2,⟨a3,?_,fun b hb=>?_,fun b hb q hq A8=>?_,fun b hb q bo mo aF av hq=>?_⟩,fun fb=>?_,H.del n,bm.del n _,rfl,rfl,fun q b hq=>(nK hq).1,fun b hb=>⟨n,bN,(dw b hb).1,(dw b hb).2.symm⟩⟩
    ·obtain⟨x0,c0,hf⟩:=GV;rw[hf];exact Sep.flat fP
    ·obtain⟨gX,rfl⟩:=dw b hb;exact⟨(H.own n bN gX).1,(hr.eK gX).1,(H.own n bN gX).2.1⟩
    ·obtain⟨gX,rfl⟩:=dw b hb;obtain⟨q1,q2⟩:=ww hq;exact H.inj n q bN q1 (Ne.symm q2) gX A8
    ·obtain⟨gX,rfl⟩:=dw b hb;intro hF;exact H.qI bN gX (nK hq).1 hF rfl
    ·simp only[Bool.and_eq_true,decide_eq_true_eq] at fb;obtain⟨rfl,eS⟩:=fb;have eZ:(G.g n).px.length=xs.length:=by rw[hr.er];simp
     rcases hs with⟨aR,rfl,_,rfl⟩|⟨aR,a',rfl,io,ha⟩
     ·omega
     ·obtain⟨r2,cur,e,r3,r4⟩:=hr.room aR rfl;have pP:=ha (.inr rfl);refine .inr ⟨?_,?_,(G.g n).b,(G.g n).o,cur,e,by rw[pP];simp,r3,by simpa using r4⟩
      ·intro h0;have:=congrArg List.length h0;simp at this;rcases this with h|h
       ·omega
       ·have:(G.g n).px.length=0:=by rw[h];rfl
        omega
      ·simpa using r2
   ·cases hx
  ·cases hx
 ·cases hx
theorem HR.s9:∀{cs:List ah} {σ σ1:St} {xs:List C} {ok:Bool} {vs:List Value},HR B E w G σ.h σ.used []->σ.s9 cs=some (xs,ok,σ1)->dj w G σ.h cs vs->(∀c∈cs,∀m,c.ref m->σ.used m=true)->
  ∃bD:List PC,bD.map PC.er=xs/\bD.map PC.val=vs/\(∀pc∈bD,v8 B E w G σ1.h pc)/\(∀(i j:Nat) (pc dC:PC) (b:Nat),i≠j->bD[i]? =some pc->bD[j]? =some dC->aZ b pc->¬aZ b dC)/\
   (ok=true->∀pc,bD[cs.length - 1]? =some pc->pI w pc)/\HR B E w G σ1.h σ1.used []/\bm w G σ.h (fun n=>σ.used n=true) w G σ1.h/\σ1.env=σ.env/\σ1.used=σ.used/\(∀n b,σ1.h n=some b->σ.h n=some b)/\
   (∀pc∈bD,∀b,aZ b pc->∃n,σ.h n≠none/\(G.g n).nl=false/\(G.g n).b=b)
 |[],σ,σ1,xs,ok,vs,H,hx,hc,hr=>by
  simp only[St.s9] at hx;injection hx with hx;injection hx with h1 h2;injection h2 with h2 h3;subst h1 h2 h3;have:vs=[]:=List.eq_nil_of_length_eq_zero (by simpa using hc.1);subst this;exact⟨[],rfl,rfl,by simp,by simp,by simp,H,bm.refl _ _ _ _,rfl,rfl,fun _ _ h=>h,by simp⟩
 |c::cs,σ,σ2,xs,ok,vs,H,hx,hc,hr=>by
  simp only[St.s9] at hx;split at hx
  ·rename_i x o1 σ1 e1;split at hx
   ·rename_i av o2 gN e2;injection hx with hx;injection hx with h1 h2;injection h2 with h2 h3;subst h1 h2 h3;obtain⟨hlen,cG⟩:=hc;match vs,hlen with
    |v::vs,hlen=>
     obtain⟨pc,a1,a2,a3,a4,a5,a6,a7,a8,a9,a10⟩:=H.vV e1 (cG 0 c v rfl rfl).2;have ng:dj w G σ1.h cs vs:=dj.fW a6 (fun c' dt m hm=>hr c' (by simp[dt]) m hm) ⟨by simpa using hlen,fun j c u h1 h2=>cG (j+1) c u h1 h2⟩;obtain⟨bD,b1,b2,b3,b4,b5,b6,b7,b8,b9,lT,Km⟩:=HR.s9 a5 e2 ng (fun c' dt m hm=>by rw[a8];exact hr c' (by simp[dt]) m hm);have nV:∀dC∈bD,∀b,aZ b pc->¬aZ b dC:=by
      intro dC alx b hb aL;obtain⟨n,n1,n2,n3⟩:=Km dC alx b aL;exact a3.name b hb n n1 n2 n3.symm
     refine⟨pc::bD,by simp[a1,b1],by simp[a2,b2],fun q hq=>?_,fun i j p p' b iq hi hj hb=>?_,fun fb q hq=>?_,b6,bm.trans (fun n hn=>by rw[a8];exact hn) a6 b7,b8.trans a7,b9.trans a8,fun n b hb=>a9 n b (lT n b hb),fun q hq b hb=>?_⟩
     ·rcases List.mem_cons.1 hq with rfl|hq
      ·exact a3.less lT
      ·exact b3 q hq
     ·cases i with
      |zero=>
       simp at hi;subst hi;cases j with
       |zero=>exact absurd rfl iq
       |succ j=>exact nV p' (List.mem_of_getElem? (by simpa using hj)) b hb
      |succ i=>
       cases j with
       |zero=>
        simp at hj;subst hj;exact fun aL=>nV p (List.mem_of_getElem? (by simpa using hi)) b aL hb
       |succ j=>exact b4 i j p p' b (by omega) (by simpa using hi) (by simpa using hj) hb
     ·cases cs with
      |nil=>
       have He:bD=[]:=by
        have:=congrArg List.length b1;simp only[St.s9] at e2;injection e2 with e2;injection e2 with e2 _;rw[<-e2] at this;simpa using this
       subst He;simp at hq;subst hq;exact a4 fb
      |cons c2 Dj=>
       refine b5 fb q ?_;simpa using hq
     ·rcases List.mem_cons.1 hq with rfl|hq
      ·exact a10 b hb
      ·obtain⟨n,n1,n2,n3⟩:=Km q hq b hb;refine⟨n,?_,n2,n3⟩;cases hh:σ1.h n with
       |none=>exact absurd hh n1
       |some bb=>rw[a9 n bb hh];simp
   ·cases hx
  ·cases hx
theorem aea {t e:TypeId} {x:Operand} {i:TypeInfo} {z:Value} {sz:Nat} (ho:o.op=.buildSlice t 1 #[(0,x)]) (ht:P.underlying t=some (.slice e)) (hi:P.info? e=some i) (hz:i.zero=some z) (bV:i.size=sz) (fV:0<sz)
  (DI:sz<=16777216) (hv:(a.eval x).cells.size=sz):
  (execOp a.eval o).run P w=.ok (.value (.slice (some (ad w.heap.size 0)) 1 1)) (w.alloc (.cells (a.eval x).cells e)):=by
 have Lk:∀cs:Array Value,cs.size=1*sz->Instr.fill (fun i=>some (i*sz,sz)) cs [(0,a.eval x)]=some (a.eval x).cells:=by
  intro cs fi;have h1:=QI sz [a.eval x] 0 cs (by intro v gk;simp at gk;rw[gk];exact hv) (by simp;omega);simp only[List.zipIdx_cons,List.zipIdx_nil,List.map_cons,List.map_nil] at h1;rw[h1];congr 1;apply Array.ext';simp only[dq,Nat.zero_mul,List.take_zero,List.nil_append,Nat.zero_add,List.flatMap_cons,List.flatMap_nil,List.append_nil];rw[List.drop_eq_nil_of_le (by rw[Array.length_toList,Array.length_toList,fi,hv];omega)];simp
 have hf:=Lk ((Array.range (1*sz)).map (z.cells[·%z.cells.size]!)) (by simp);have h0:¬(1*sz=0):=by omega
 have hb:¬(16777216<1*sz):=by omega
 simp only[Nat.one_mul] at hf h0 hb;have aL:¬(16777216<sz):=by omega
 have hs0:¬(sz=0):=by omega
 simp[execOp,ho,Instr.buildSlice,run_underlying ht,sizeOf,typeInfo,hi,bV,hs0,aL,zeroValue,hz,hf,newRow,ad]
end
section
variable {B:Nat} {E:Ex} {w0 w w':World} {G G':Gh} {N:Nat} {h h':Nat->Option aq} {used used':Nat->Bool}
variable {P:Program} {o:Oper} {a:Act} {σ σ':St} {Q:Exit->Act->World->Prop}
theorem aju (r:R B E w0 N σ a w G) {n n0:Nat} {t e:TypeId} {i:TypeInfo} {x y:Operand} {mx my:MO} {sz:Nat} {l:Int} {m:Mode} {xs:List (List C)} {σ1:St} (ho:o.op=.slice t x (some y) none none) (hd:o.dst=some n) (hN:n<N)
  (fU:bU x mx=true) (fK:bU y my=true) (ht:P.underlying t=some (.slice e)) (hi:P.info? e=some i) (bV:i.size=sz) (fV:0<sz)
  (hx:σ.ev mx=.one (.sl n0 sz 0 xs.length)) (hl:(σ.ev my).dZ=some l) (h0:0<=l) (h1:l<=(xs.length:Int)) (hn:σ.h n0=some (.row true m sz xs)) (yN:(σ.del n0).ins n (.row true m sz (xs.drop l.toNat))=some σ1):
  o.wp P a w (fun a' w'=>w'=w/\(∃v,a'=a.put o.dst v)/\∃p:PB,R B E w0 N (σ1.put o.dst (.one (.sl n sz 0 (xs.length - l.toNat)))) a' w ⟨G.Im,az G.g n p⟩/\p.px=(G.g n0).px.drop l.toNat/\(p.nl=false->p.b=(G.g n0).b/\(G.g n0).nl=false)) Q:=by
 obtain⟨yV,rfl⟩:=kx yN;obtain⟨x1,x2⟩:=r.ev fU;rw[hx] at x1 x2;obtain⟨kk,ey⟩:=(r.ev fK).1.int hl;have bN:σ.h n0≠none:=by rw[hn];simp
 have gY:gE (G.g n0) sz 0 xs.length (a.eval x):=(x1.fu (by simp)).1 bN;have H:=r.hr;have hr:=H.row n0 true m sz xs hn;have n8:xs.length=(G.g n0).px.length:=by rw[hr.er];simp
 have F:=mB.MH H hn (fun _=>rfl);have hln:l.toNat<=xs.length:=by omega
 obtain⟨p,v,fw,bE,yW,eZ,hsv⟩:∃(p:PB) (v:Value),p.px=(G.g n0).px.drop l.toNat/\(execOp a.eval o).run P w=.ok (.value v) w/\(p.nl=true->p.px=[]/\p.cap=0)/\
   (p.nl=false->(G.g n0).nl=false/\p.b=(G.g n0).b/\p.o=(G.g n0).o+l.toNat*sz/\p.cap=(G.g n0).cap - l.toNat/\l.toNat<=(G.g n0).cap)/\gE p sz 0 (xs.length - l.toNat) v:=by
  rcases gY with⟨aR,hv,_,gX⟩|⟨aR,a',hv,io,ha⟩
  ·have bE:=Ib (P:=P) (w:=w) (ya:=(G.g n0).na) (len:=0) (cap:=(G.g n0).cap) (lo:=some (.int kk l)) (hi':=none) (l:=l) (hh:=0) ht hi bV (.inr ⟨kk,rfl⟩) (.inl ⟨rfl,rfl⟩) h0 (by omega) (by omega) (Nat.zero_le _);obtain⟨BL,yu⟩:=hr.nl aR;have yu:=yu rfl;have hlz:l.toNat=0:=by omega
   refine⟨⟨true,0,0,0,[],(G.g n0).na⟩,.slice (G.g n0).na 0 0,by rw[BL];simp,?_,fun _=>⟨rfl,rfl⟩,(fun h=>by cases h),.inl ⟨rfl,rfl,rfl,by omega⟩⟩;simp only[execOp,ho,hv,Option.map_none,Option.map_some,ey];rw[yu,hlz] at bE;simp only[if_true] at bE;simp[bE,yu];omega
  ·have bE:=Ib (P:=P) (w:=w) (ya:=a') (len:=xs.length) (cap:=(G.g n0).cap - 0) (lo:=some (.int kk l)) (hi':=none) (l:=l) (hh:=xs.length) ht hi bV (.inr ⟨kk,rfl⟩) (.inl ⟨rfl,rfl⟩) h0 h1 (by omega) (by omega);have pP:=ha (.inr rfl);have e2:((xs.length:Int) - l).toNat=xs.length - l.toNat:=by omega
   rw[e2,Nat.sub_zero] at bE;by_cases hc:(G.g n0).cap=l.toNat
   ·have e3:xs.length - l.toNat=0:=by omega
    rw[if_pos hc,e3] at bE;refine⟨⟨true,0,0,0,[],a'⟩,.slice a' 0 0,?_,?_,fun _=>⟨rfl,rfl⟩,(fun h=>by cases h),.inl ⟨rfl,rfl,rfl,e3⟩⟩
    ·rw[List.drop_eq_nil_of_le (by omega)]
    ·simp only[execOp,ho,hv,Option.map_none,Option.map_some,ey,Nat.sub_zero];rw[hc,Nat.sub_self] at bE;simp[bE,hc]
   ·rw[if_neg hc,pP] at bE;simp only[Option.map_some,qz,Nat.zero_mul,Nat.add_zero] at bE;refine⟨⟨false,(G.g n0).b,(G.g n0).o+l.toNat*sz,(G.g n0).cap - l.toNat,(G.g n0).px.drop l.toNat,none⟩,.slice (some (ad (G.g n0).b ((G.g n0).o+l.toNat*sz))) (xs.length - l.toNat) ((G.g n0).cap - l.toNat),rfl,?_,(fun h=>by cases h),fun _=>⟨aR,rfl,rfl,rfl,by omega⟩,.inr ⟨rfl,some (ad (G.g n0).b ((G.g n0).o+l.toNat*sz)),by simp,by simp;omega,fun _=>by simp⟩⟩;simp only[execOp,ho,hv,Option.map_none,Option.map_some,ey,Nat.sub_zero,pP,Nat.zero_mul,Nat.add_zero];simp[bE]
 have fP:∀b,bh b p.px->bh b (G.g n0).px:=fun b hb=>asA (by rw[<-fw];exact hb);have H1:HR B E w G (az σ.h n0 none) σ.used []:=H.del n0;have K1:bm w G σ.h (fun q=>σ.used q=true) w G (az σ.h n0 none):=bm.del n0 _;have Hn:HR B E w ⟨G.Im,az G.g n p⟩ (az (az σ.h n0 none) n (some (.row true m sz (xs.drop l.toNat)))) (az σ.used n true) []:=by
  refine H1.insert (w':=w) (p:=p) yV (fun _ _=>rfl) (Nat.le_refl _) (fun hf=>?_) (fun cs c q hb=>by cases hb) ?_ ?_ ?_ (fun gr m sz xs _ _ i pc b hi=>by simp at hi)
  ·obtain⟨q1,q2,q3,q4,q5⟩:=eZ hf;obtain⟨o1,o2,o3⟩:=H.own n0 bN q1;rw[q2];refine⟨⟨o1,fun q hq A8=>?_,fun q gr m' aF av hq hb=>?_⟩,o2,o3⟩
   ·obtain⟨d1,d2⟩:=ww hq;exact H.inj q n0 d1 bN d2 A8 q1
   ·exact H.qI bN q1 (nK hq).1 hb rfl
  ·refine⟨hr.pos,by rw[fw,hr.er,List.map_drop],fun h=>⟨(yW h).1,fun _=>(yW h).2⟩,fun hf=>?_,fun hf _=>?_,?_,fun _ hm k c hk=>hr.nr rfl hm _ _ (yo (by rw[<-fw];exact hk))⟩
   ·obtain⟨q1,q2,q3,q4,q5⟩:=eZ hf;obtain⟨l1,⟨l2,l3,l4⟩,l5⟩:=hr.eK q1;rw[q2,q3,q4,fw];refine⟨l1,⟨fun e he=>l2 e (List.mem_of_mem_drop he),fun k j c hk=>?_,fun k j c hk=>l4 _ _ _ (yo hk)⟩,by simp;omega⟩;have:=l3 _ _ _ (yo hk);rw[<-this];congr 2;rw[Nat.add_mul];omega
   ·obtain⟨q1,q2,q3,q4,q5⟩:=eZ hf;obtain⟨r2,cur,ee,r3,r4⟩:=hr.room q1 rfl;unfold FT;rw[q2,q3,q4];refine⟨by omega,cur,ee,r3,?_⟩;rw[r4,Nat.add_assoc,<-Nat.add_mul];congr 2;omega
   ·have hm:=hr.mode;show CN B E w _ p.px m;cases m with
    |aJ=>exact fun b hb=>hm b (fP b hb)
    |aN=>exact⟨fun b hb=>hm.1 b (fP b hb),by rw[fw];exact hm.2.drop _⟩
    |live=>exact⟨fun b hb=>hm.1 b (fP b hb),by rw[fw];exact hm.2.drop _⟩
  ·intro gr m' aF av hb iW q bo mo jd gD h0 iE b cT;injection hb with _ hb _ _;subst hb;exact F.gv iW q bo mo jd gD h0 iE b (fP b cT)
  ·intro gr aF av hb b cT;injection hb with _ hb _ _;exact⟨fun hf=>by rw[(eZ hf).2.1];exact H.qI bN (eZ hf).1 hn (fP b cT),fun q h0 A8=>F.live hb b (fP b cT) q h0 A8⟩
 have r':R B E w0 N {(σ.del n0) with h:=az (σ.del n0).h n (some (.row true m sz (xs.drop l.toNat))),used:=az (σ.del n0).used n true} a w ⟨G.Im,az G.g n p⟩:=
  r.step rfl (fun q hq=>oF n q hq) (bm.trans (u2:=fun q=>σ.used q=true) (fun _ h=>h) K1 (bm.insert H1 yV (fun _ _=>rfl))) Hn r.fr
 have qR:v.oneCell'=true:=by rcases hsv with⟨_,h,_⟩|⟨_,_,h,_⟩<;>rw[h]<;>rfl
 have pR:RC w ⟨G.Im,az G.g n p⟩ (az (az σ.h n0 none) n (some (.row true m sz (xs.drop l.toNat)))) (.sl n sz 0 (xs.length - l.toNat)) v:=fun _=>by simpa[bR] using hsv
 exact oG (v:=v) (w':=w) bE ⟨rfl,⟨v,rfl⟩,p,r'.put (RA.fC qR pR) (fun q hq=>by have fc:q=n:=hq;subst fc;exact bR _ _ _) (fun q hq=>by rw[hd] at hq;injection hq with hq;omega),fw,fun h=>⟨(eZ h).2.1,(eZ h).1⟩⟩
theorem R.sY (r:R B E w0 N σ a w G) {s:Nat} {x:aj} (hv:RA w G σ.h x (a.tmps.getD s undef)) (hr:∀m,x.ref m->σ.used m=true):R B E w0 N {σ with env:=az σ.env s x} a w G:=by
 refine⟨r.defers,r.size,fun q=>?_,fun q m hm=>?_,r.hr,r.fr,r.mT,r.vL⟩
 ·show RA w G σ.h (az σ.env s x q) _;by_cases hq:q=s
  ·subst hq;rw[bR];exact hv
  ·rw[cN _ _ _ _ hq];exact r.env q
 ·have bP:(az σ.env s x q).ref m:=hm;by_cases hq:q=s
  ·subst hq;rw[bR] at bP;exact hr m bP
  ·rw[cN _ _ _ _ hq] at bP;exact r.pC q m bP
theorem gE.eq0 {p:PB} {sz len:Nat} {v v':Value} (h1:gE p sz 0 len v) (h2:gE p sz 0 len v'):v=v':=by
 rcases h1 with⟨a1,a2,_,_⟩|⟨a1,b,a2,_,a3⟩
 ·rcases h2 with⟨_,b2,_,_⟩|⟨b1,_⟩
  ·rw[a2,b2]
  ·rw[a1] at b1;cases b1
 ·rcases h2 with⟨b1,_⟩|⟨b1,b',b2,_,b3⟩
  ·rw[a1] at b1;cases b1
  ·rw[a2,b2,a3 (.inr rfl),b3 (.inr rfl)]
theorem R.al7 (r:R B E w0 N σ a w G) {q sz cap:Nat} {x0:Option Addr} {mn:List (List PC)} (hq:σ.used q=false) (L:v8 B E w G σ.h (.list sz x0 cap mn)) (iZ:eP (mn.map fun e=>e.map PC.er)=true) (fV:0<sz):
  ∃G',R B E w0 N {σ with h:=az σ.h q (some (.row false .aN sz (mn.map fun e=>e.map PC.er))),used:=az σ.used q true} a w G'/\
   RC w G' (az σ.h q (some (.row false .aN sz (mn.map fun e=>e.map PC.er)))) (.sl q sz 0 mn.length) (PC.val (.list sz x0 cap mn)):=by
 have H:=r.hr;have cm:=vP iZ;have jY:iO mn:=by cases L.sep with|list _ _ _ _ h1 h2 h3=>exact⟨h1,h3⟩
 have gj:∀G2:Gh,CN B E w G2 mn .aN:=fun G2=>⟨fun b hb=>absurd hb (cm b),jY⟩;by_cases h0:mn=[]
 ·subst h0;refine⟨⟨G.Im,az G.g q ⟨true,0,0,cap,[],x0⟩⟩,r.step rfl (fun m hm=>oF q m hm) (bm.insert H hq (fun _ _=>rfl)) ?_ r.fr,fun _=>.inl ?_⟩
  ·exact H.insert (w':=w) (p:=⟨true,0,0,cap,[],x0⟩) hq (fun _ _=>rfl) (Nat.le_refl _) (fun h=>by cases h) (fun cs c m hb=>by cases hb) ⟨fV,rfl,fun _=>⟨rfl,fun h=>by cases h⟩,(fun h=>by cases h),(fun h=>by cases h),gj _,fun h=>by cases h⟩
    (fun gr m sz xs _ _ n' bo m' aF av _ _ b hb=>absurd hb (cm b)) (fun gr sz xs _ b hb=>absurd hb (cm b)) (fun gr m sz xs _ _ i pc b hi=>by simp at hi)
  ·simp[bR,PC.val]
 ·obtain⟨b,ob,rfl⟩:∃b ob,x0=some (ad b ob):=by
   cases L.eG with
   |nil _ _ _ _=>exact absurd rfl h0
   |cons _ b ob _ _ _ _ _ _ _ _=>exact⟨b,ob,rfl⟩
  have dw:aZ b (.list sz (some (ad b ob)) cap mn):=.here _ _ _ _ h0;obtain⟨o1,o2,o3⟩:=L.own b dw;have eH:nG w b ob sz mn/\mn.length<=cap:=by
   have hg:=L.eG;generalize gw:PC.list sz (some (ad b ob)) cap mn=p at hg;cases hg with
   |int k n=>cases gw
   |bool b=>cases gw
   |nil _ _ _ _=>injection gw with _ _ _ e4;exact absurd e4 h0
   |cons _ b' Tx _ _ q1 q2 q3 q4 q5 q6=>
    injection gw with f1 f2 f3 f4;injection f2 with f2;obtain⟨rfl,rfl⟩:=lz f2;subst f1 f3 f4;exact⟨⟨q4,q5,q6⟩,q2⟩
  refine⟨⟨G.Im,az G.g q ⟨false,b,ob,cap,mn,none⟩⟩,r.step rfl (fun m hm=>oF q m hm) (bm.insert H hq (fun _ _=>rfl)) ?_ r.fr,fun _=>.inr ?_⟩
  ·exact H.insert (w':=w) (p:=⟨false,b,ob,cap,mn,none⟩) hq (fun _ _=>rfl) (Nat.le_refl _) (fun _=>⟨⟨o1,fun m hm hl he=>L.name b dw m hm hl he.symm,fun m gr mo aF av hm=>L.row b dw m gr mo aF av hm⟩,o3,o2.lt⟩) (fun cs c m hb=>by cases hb)
    ⟨fV,rfl,(fun h=>by cases h),fun _=>⟨o2,eH.1,eH.2⟩,(fun _ h=>by cases h),gj _,fun h=>by cases h⟩
    (fun gr m sz xs _ _ n' bo m' aF av _ _ b hb=>absurd hb (cm b)) (fun gr sz xs _ b hb=>absurd hb (cm b)) (fun gr m sz xs _ _ i pc b hi=>by simp at hi)
  ·refine⟨by simp[bR],some (ad b ob),by simp[bR,PC.val],by simpa[bR] using eH.2,fun _=>by simp[bR]⟩
theorem aiV (r:R B E w0 N σ a w G) {n:Nat} {t e:TypeId} {x:Operand} {mx:MO} {i:TypeInfo} {z:Value} {sz:Nat} {ag:Bool} {cs:List ah} {es:List C} {σ1 σ2:St}
  (ho:o.op=.buildSlice t 1 #[(0,x)]) (hd:o.dst=some n) (hN:n<N) (ht:P.underlying t=some (.slice e)) (hi:P.info? e=some i) (hz:i.zero=some z) (bV:i.size=sz) (fV:0<sz) (DI:sz<=16777216)
  (hm:bU x mx=true) (fi:(σ.ev mx).cells?=some (ag,cs)) (hl:cs.length=sz) (mN:σ.s9 cs=some (es,true,σ1)) (hx:σ1.ins n (.row true .live sz [es])=some σ2):
  o.wp P a w (Nx B E w0 N (σ2.put o.dst (.one (.sl n sz 0 1)))) Q:=by
 obtain⟨hn,rfl⟩:=kx hx;obtain⟨x1,x2⟩:=r.ev hm;have cC:=x1.cells fi;obtain⟨bD,a1,a2,a3,a4,a5,H1,K1,a7,a8,a9,_⟩:=HR.s9 r.hr mN cC (fun c hc m hm=>x2 m (aj.yx fi hc hm));have eZ:bD.length=sz:=by
  have:=congrArg List.length a2;simp only[List.length_map] at this;rw[this,cC.1,hl]
 have ja:(a.eval x).cells.size=sz:=by rw[<-Array.length_toList,cC.1,hl]
 have bE:=aea (P:=P) (w:=w) ho ht hi hz bV fV DI ja;have hB:=r.fr.size;have hw:=PO w (.cells (a.eval x).cells e);have cG:∀k j c,At [bD] k j c->k=0/\bD[j]? =some c:=by
  rintro k j c ⟨e1,he,hj⟩;cases k with
  |zero=>simp at he;subst he;exact⟨rfl,hj⟩
  |succ k=>simp at he
 have hF:∀b,bh b [bD]->∃pc∈bD,aZ b pc:=by
  rintro b ⟨k,j,c,hk,hb⟩;exact⟨c,List.mem_of_getElem? (cG k j c hk).2,hb⟩
 have aaC:σ1.used n=false:=hn;have Hn:HR B E (w.alloc (.cells (a.eval x).cells e)) ⟨G.Im,az G.g n ⟨false,w.heap.size,0,1,[bD],none⟩⟩ (az σ1.h n (some (.row true .live sz [es]))) (az σ1.used n true) []:=by
  refine H1.insert (p:=⟨false,w.heap.size,0,1,[bD],none⟩) aaC hw (by simp) (fun _=>⟨H1.Ml,.inl hB,by simp⟩) (fun cs c m hb=>by cases hb) ?_ ?_ ?_ (fun gr m sz xs _ _ i pc b hi=>by simp at hi)
  ·refine⟨fV,by simp[a1],(fun hl=>by cases hl),fun _=>⟨d9.alloc _ _ _,⟨fun e he=>by simp at he;rw[he];exact eZ,fun k j c hk=>?_,fun k j c hk=>?_⟩,by simp⟩,fun _ _=>⟨by simp only[maxLen];omega,(a.eval x).cells,e,heap_alloc_new w _,by simp[ja]⟩,⟨fun b hb=>?_,fun k j c hk=>?_,fun k j c k' j' c' b hk bL aD hb=>?_⟩,fun _ _ k c hk=>?_⟩
   ·obtain⟨rfl,hj⟩:=cG k j c hk;simp only[Nat.zero_mul,Nat.zero_add];unfold ad;rw[World.cell?_alloc_new];have:(a.eval x).cells.toList[j]? =some c.val:=by rw[<-a2,List.getElem?_map,hj];rfl
    simpa using this
   ·have hg:=(a3 c (List.mem_of_getElem? (cG k j c hk).2)).eG;exact hg.congr fun b hb o=>gV (hw b (hg.lt hb)) o
   ·obtain⟨pc,bi,aL⟩:=hF b hb;obtain⟨q1,q2,q3⟩:=(a3 pc bi).own b aL;exact⟨q1,q2.congr (hw b q2.lt),q3⟩
   ·exact(a3 c (List.mem_of_getElem? (cG k j c hk).2)).sep
   ·obtain⟨rfl,hj⟩:=cG k j c hk;obtain⟨rfl,nj⟩:=cG k' j' c' bL;exact a4 j j' c c' b (fun e=>aD (by rw[e])) hj nj hb
   ·obtain⟨rfl,hj⟩:=cG k _ c hk;have oS:=a5 rfl c (by rw[hl];exact hj);exact oS.cz fun b hb arr e' he=>⟨arr,(hw b ((a3 c (List.mem_of_getElem? hj)).own b hb).2.1.lt).trans he,rfl⟩
  ·intro gr m' aF av hb iW n' bo jI jd gD h0 iE b cT;obtain⟨pc,bi,aL⟩:=hF b cT;exact(a3 pc bi).row b aL n' bo jI jd gD h0
  ·intro gr aF av hb b cT;obtain⟨pc,bi,aL⟩:=hF b cT;refine⟨fun _=>?_,fun n' h0 hl=>(a3 pc bi).name b aL n' h0 hl⟩;have:=((a3 pc bi).own b aL).2.1.lt;show b≠w.heap.size;omega
 have r':R B E w0 N {σ1 with h:=az σ1.h n (some (.row true .live sz [es])),used:=az σ1.used n true} a (w.alloc (.cells (a.eval x).cells e)) ⟨G.Im,az G.g n ⟨false,w.heap.size,0,1,[bD],none⟩⟩:=
  r.step a7 (fun q hq=>oF n q (by rw[a8];exact hq)) (bm.trans (u2:=fun q=>σ1.used q=true) (fun q hq=>by rw[a8];exact hq) K1 (bm.insert H1 aaC hw)) Hn (r.fr.grow hw (by simp) rfl rfl rfl)
 have pR:RC (w.alloc (.cells (a.eval x).cells e)) ⟨G.Im,az G.g n ⟨false,w.heap.size,0,1,[bD],none⟩⟩ (az σ1.h n (some (.row true .live sz [es]))) (.sl n sz 0 1) (.slice (some (ad w.heap.size 0)) 1 1):=
  fun _=>Or.inr ⟨by simp[bR],some (ad w.heap.size 0),by simp[bR],by simp[bR],by simp[bR]⟩
 exact oG bE ⟨_,r'.put (RA.fC rfl pR) (fun q hq=>by have fc:q=n:=hq;subst fc;exact bR _ _ _) (fun q hq=>by rw[hd] at hq;injection hq with hq;omega)⟩
theorem aiW (r:R B E w0 N σ a w G) {n s q sz len:Nat} {t e:TypeId} {x:Operand} {mx:MO} {i:TypeInfo} {z:Value} {y:C} {σ1 σ2:St}
  (ho:o.op=.buildSlice t 1 #[(0,x)]) (hd:o.dst=some n) (hN:n<N) (ht:P.underlying t=some (.slice e)) (hi:P.info? e=some i) (hz:i.zero=some z) (bV:i.size=1)
  (hm:bU x mx=true) (hx:σ.ev mx=.one (.sl q sz 0 len)) (hs:σ.env s=.one (.sl q sz 0 len)) (R9:s≠n) (mN:σ.fY (.sl q sz 0 len)=some (y,true,σ1)) (A2:σ1.ins n (.row true .aN 1 [[y]])=some σ2):
  o.wp P a w (Nx B E w0 N {(σ2.put o.dst (.one (.sl n 1 0 1))) with env:=az (σ2.put o.dst (.one (.sl n 1 0 1))).env s (.one (.c y))}) Q:=by
 obtain⟨hn,rfl⟩:=kx A2;obtain⟨x1,x2⟩:=r.ev hm;rw[hx] at x1;have x1:=x1.fu (by simp);have s1:=r.env s;rw[hs] at s1;have s1:=(s1.fu (by simp)).1;obtain⟨Im',pc,a1,a2,a3,a4,a5,K1,a7,a8,a9⟩:=r.hr.fY mN x1.1;simp only[if_true,List.nil_append] at a5;have mL:σ.h q≠none:=by
  intro hh;simp only[St.fY,hh] at mN;cases mN
 have Be:a.tmps.getD s undef=a.eval x:=gE.eq0 (s1 mL) (x1.1 mL);have qR:=x1.2;have oQ:(a.eval x).cells=#[pc.val]:=by
  rw[a2]
  revert qR
  cases a.eval x<;>intro qR<;>first|rfl|(simp[Value.oneCell'] at qR)
 have bE:=aea (P:=P) (w:=w) ho ht hi hz bV (by omega) (by omega) (by rw[oQ];rfl);have H0:HR B E w ⟨Im',G.g⟩ σ1.h σ.used []:=by
  have uF:HR B E w ⟨Im',G.g⟩ σ1.h σ.used ([]++[pc]):=by simpa using a5
  exact uF.xT
 have cG:∀k j c,At [[pc]] k j c->k=0/\j=0/\c=pc:=by
  rintro k j c ⟨e1,he,hj⟩;cases k with
  |zero=>
   simp at he;subst he;cases j with
   |zero=>simp at hj;exact⟨rfl,rfl,hj.symm⟩
   |succ j=>simp at hj
  |succ k=>simp at he
 obtain⟨G',r',hv,K3⟩:=r.newRow (m:=.aN) (sz:=1) (cap:=1) (pes:=[[pc]]) (arr:=(a.eval x).cells) (e:=e) H0 K1 a7 a8 (by rw[<-a8];exact hn) (by omega) (fun e he=>by simp at he;rw[he];rfl)
  (fun k j c hk=>by obtain⟨_,_,rfl⟩:=cG k j c hk;exact⟨a3,a4⟩) (fun k j c hk=>by obtain⟨rfl,rfl,rfl⟩:=cG k j c hk;rw[oQ];rfl) (by simp) (by simp only[maxLen];omega) (by rw[oQ];rfl)
  (.inr (HR.ada (sz:=1) (by omega) (fun e he=>by simp at he;rw[he];rfl) (by simpa using a5))) (fun h=>by cases h)
 simp only[List.map_cons,List.map_nil,a1,List.length_cons,List.length_nil] at r' hv K3;have r2:=r'.put hv (d:=o.dst) (fun k hk=>by have bL:k=n:=hk;subst bL;exact bR _ _ _) (fun k hk=>by rw[hd] at hk;injection hk with hk;omega)
 have hRC:RA w ⟨Im',G.g⟩ σ1.h (.one (.c y)) (a.eval x):=RA.fC qR ⟨pc,a1,a2,a3,a4⟩;have AO:=hRC.fW K3 (fun k hk=>absurd hk qj);refine oG bE ⟨G',r2.sY (s:=s) ?_ (fun k hk=>absurd hk qj)⟩;rw[hd,MY (by intro h;injection h with h;exact R9 h.symm),Be]
 exact AO
theorem ajq (r:R B E w0 N σ a w G) {n n0 s q sz s0 l0:Nat} {t e:TypeId} {i:TypeInfo} {x y:Operand} {mx my:MO} {xs ys:List (List C)} {σ1 σ2:St} (ho:o.op=.slice t x (some y) none none) (hd:o.dst=some n) (hN:n<N)
  (fU:bU x mx=true) (fK:bU y my=true) (ht:P.underlying t=some (.slice e)) (hi:P.info? e=some i) (bV:i.size=1)
  (hx:σ.ev mx=.one (.sl n0 1 0 xs.length)) (hl:(σ.ev my).dZ=some 1) (hn:σ.h n0=some (.row true .live 1 xs)) (hs:σ.env s=.one (.bC n0 0 1 0 s0 l0)) (R9:s≠n)
  (Bf:xs[0]? =some [.list sz ys]) (iZ:eP ys=true) (yN:(σ.del n0).ins n (.row true .live 1 (xs.drop 1))=some σ1) (A2:σ1.ins q (.row false .aN sz ys)=some σ2):
  o.wp P a w (Nx B E w0 N {(σ2.put o.dst (.one (.sl n 1 0 (xs.length - 1)))) with env:=az (σ2.put o.dst (.one (.sl n 1 0 (xs.length - 1)))).env s (.one (.sl q sz 0 ys.length))}) Q:=by
 have H:=r.hr;have bN:σ.h n0≠none:=by rw[hn];simp
 have hr:=H.row n0 true .live 1 xs hn;have s1:=r.env s;rw[hs] at s1;obtain⟨pc,p1,p2,p3⟩:=(s1.fu (by simp)).1 true xs hn;obtain⟨aR,fO,gJ⟩:=H.HQ hn p1;rw[Bf] at gJ;have gJ:some (C.list sz ys)=some pc.er:=gJ;injection gJ with gJ;have iF:=H.ac2 hn (by omega) p1;have RL:0<xs.length:=(List.getElem?_eq_some_iff.1 Bf).1;refine Oper.wp_mono (fun a' w' ⟨e1,⟨v,e2⟩,p,r1,fw,oU⟩=>?_) (aju (P:=P) (Q:=Q) r ho hd hN fU fK ht hi bV (by omega) hx hl (by omega) (by omega) hn yN);subst e1;obtain⟨yV,rfl⟩:=kx yN;obtain⟨hqu,rfl⟩:=kx A2;cases pc with
 |int kk nn=>simp[PC.er] at gJ
 |bool bb=>simp[PC.er] at gJ
 |list aF x0 cap mn=>
 rw[PC.dV] at gJ;injection gJ with g1 g2;subst g1;have fV:0<sz:=by cases fO with|nil _ _ _ h=>exact h|cons _ _ _ _ _ _ _ h _ _ _=>exact h
 have u0:∀m,az (σ.del n0).h n (some (.row true .live 1 (xs.drop 1))) m≠none->m=n\/(m≠n/\m≠n0/\σ.h m≠none):=by
  intro m hm;by_cases bJ:m=n
  ·exact .inl bJ
  ·rw[cN _ _ _ _ bJ] at hm;obtain⟨d1,d2⟩:=ww (h:=σ.h) hm;exact .inr ⟨bJ,d2,d1⟩
 have L:v8 B E w' ⟨G.Im,az G.g n p⟩ (az (σ.del n0).h n (some (.row true .live 1 (xs.drop 1)))) (.list sz x0 cap mn):=by
  refine⟨fO,iF.sep,iF.own,fun b hb m hm eQ=>?_,fun b hb m gr mo jd gD hm hF=>?_⟩
  ·rcases u0 m hm with rfl|⟨d1,d2,d3⟩
   ·simp only[bR] at eQ⊢;obtain⟨e3,e4⟩:=oU eQ;rw[e3];exact iF.name b hb n0 bN e4
   ·simp only[cN _ _ _ _ d1] at eQ⊢;exact iF.name b hb m d3 eQ
  ·have hm0:az (σ.del n0).h n (some (.row true .live 1 (xs.drop 1))) m≠none:=by rw[hm];simp
   rcases u0 m hm0 with rfl|⟨d1,d2,d3⟩
   ·simp only[bR] at hF;rw[fw] at hF;obtain⟨k,j,c,hk,hc⟩:=hF;have bL:=yo hk;refine iF.rest b hb _ _ c bL (fun e=>?_) hc;have:(1:Int).toNat+k=0:=congrArg Prod.fst e;have h1:(1:Int).toNat=1:=rfl;omega
   ·simp only[cN _ _ _ _ d1] at hF;rw[cN _ _ _ _ d1] at hm;exact iF.row b hb m gr mo jd gD d2 (nK (h:=σ.h) hm).1 hF
 have Ba:eP (mn.map fun e=>e.map PC.er)=true:=by rw[<-g2];exact iZ
 have h1:(1:Int).toNat=1:=rfl;rw[h1] at r1;rw[hd] at r1 e2⊢;obtain⟨G',r3,pR⟩:=r1.al7 (q:=q) hqu L Ba fV;rw[<-g2] at r3 pR;have vi:ys.length=mn.length:=by rw[g2];simp
 refine⟨G',?_⟩;have r4:=r3.sY (s:=s) (x:=.one (.sl q sz 0 ys.length)) (by
  rw[e2,MY (by intro h;injection h with h;exact R9 h.symm),<-p2]
  rw[vi];exact RA.fC rfl pR) (fun k hk=>by have bL:k=q:=hk;subst bL;exact bR _ _ _)
 exact r4
end
section
variable {B:Nat} {E:Ex} {w0 w w':World} {G G':Gh} {N:Nat} {h h':Nat->Option aq} {used used':Nat->Bool}
variable {P:Program} {T:aQ} {o:Oper} {a:Act} {σ σ':St} {Q:Exit->Act->World->Prop} {ops:Array Oper}
theorem HR.al2 (H:HR B E w G h used []) {n sz cap:Nat} {x:Option Addr} {xs:List (List PC)} (hg:Good w (.list sz x cap xs)) (hs:Sep (.list sz x cap xs)) (ht:CS w (.list sz x cap xs)) (oS:pJ w sz xs)
  (hl:∀b,jR b (.list sz x cap xs)->oI G h b/\d9 w b/\B<=b) (hn:used n=false):
  ∃G',HR B E w G' (az h n (some (.row true .live sz (xs.map fun e=>e.map PC.er)))) (az used n true) []/\
   bm w G h (fun n=>used n=true) w G' (az h n (some (.row true .live sz (xs.map fun e=>e.map PC.er))))/\
   RC w G' (az h n (some (.row true .live sz (xs.map fun e=>e.map PC.er)))) (.sl n sz 0 xs.length) (PC.val (.list sz x cap xs)):=by
 obtain⟨eS,io,tP⟩:=ht;have hF:∀b,bh b xs->aZ b (.list sz x cap xs):=fun b ⟨k,j,c,h1,h2⟩=>.there _ _ _ _ k j c h1 h2;have jY:iO xs:=by cases hs with|list _ _ _ _ h1 h2 h3=>exact⟨h1,h3⟩
 obtain⟨p,Lz,fw,oU,A9,R3⟩:∃p:PB,(p.nl=true->xs=[]/\(true=true->p.cap=0))/\p.px=xs/\
   (p.nl=false->oI G h p.b/\d9 w p.b/\B<=p.b/\∀b,bh b xs->b≠p.b)/\
   (p.nl=false->nG w p.b p.o sz xs/\xs.length<=p.cap/\FT w p sz)/\gE p sz 0 xs.length (PC.val (.list sz x cap xs)):=by
  by_cases wL:cap=0
  ·subst wL;have hx:xs=[]:=List.eq_nil_of_length_eq_zero (by omega);subst hx;exact⟨⟨true,0,0,0,[],x⟩,fun _=>⟨rfl,fun _=>rfl⟩,rfl,(fun hf=>by cases hf),(fun hf=>by cases hf),.inl ⟨rfl,rfl,rfl,rfl⟩⟩
  ·obtain⟨b,o,cur,e,rfl,hh,bV,wV,cm⟩:=tP.resolve_left wL;have hT:jR b (.list sz (some (ad b o)) cap xs):=.inr ⟨_,_,_,_,rfl,wL⟩;obtain⟨l1,l2,l3⟩:=hl b hT;have aD:∀b',bh b' xs->b'≠b:=fun b' ⟨k,j,c,h1,h2⟩ he=>cm k j c h1 (he▸h2);refine⟨⟨false,b,o,cap,xs,none⟩,(fun hf=>by cases hf),rfl,fun _=>⟨l1,l2,l3,aD⟩,fun _=>⟨?_,io,wV,cur,e,hh,bV⟩,.inr ⟨rfl,some (ad b o),by simp[PC.val],by simpa using io,fun _=>by simp⟩⟩;cases hg with
   |nil _ _ _ _=>exact⟨by simp,by rintro k j c ⟨e,he,_⟩;simp at he,by rintro k j c ⟨e,he,_⟩;simp at he⟩
   |cons _ _ _ _ _ h1 h2 h3 h4 h5 h6=>exact⟨h4,h5,h6⟩
 subst fw;have eH:uE B E w G true .live sz (p.px.map fun e=>e.map PC.er) p:=by
  refine⟨eS,rfl,Lz,fun hf=>⟨(oU hf).2.1,(A9 hf).1,(A9 hf).2.1⟩,fun hf _=>(A9 hf).2.2,?_,fun _ _=>oS⟩;exact⟨fun b hb=>⟨(hl b (.inl (hF b hb))).1.1,(hl b (.inl (hF b hb))).2.1,.inl (hl b (.inl (hF b hb))).2.2⟩,jY⟩
 have Hn:=H.insert (w':=w) (n:=n) (blk:=.row true .live sz (p.px.map fun e=>e.map PC.er)) (p:=p) hn (fun _ _=>rfl) (Nat.le_refl _)
  (fun hf=>⟨(oU hf).1,.inl (oU hf).2.2.1,(oU hf).2.1.lt⟩) (fun cs c q hb=>by cases hb) (by exact eH)
  (fun gr m' aF av hb hm n' bo jI jd gD h0 iE b cT=>(hl b (.inl (hF b cT))).1.2.2 n' bo jI jd gD h0)
  (fun gr aF av hb b cT=>⟨fun hf=>(oU hf).2.2.2 b cT,fun n' h0 gX he=>(hl b (.inl (hF b cT))).1.2.1 n' h0 gX he.symm⟩)
  (fun gr m' aF av hb hm i pc b hi=>by simp at hi)
 exact⟨_,Hn,bm.insert H hn (fun _ _=>rfl),fun _=>by simpa[bR] using R3⟩
theorem aja (r:R B E w0 N σ a w G) (hT:I4 P T) {d:Nat} {f:FuncId} {as:List aj} {vals:List Value} {σ1:St} (hd:o.dst=some d) (hN:d<N)
  (bE:(execOp a.eval o).run P w=.ok (.enter f vals.toArray) w) (hl:vals.length=as.length)
  (nT:∀(j:Nat) (x:aj) (v:Value),as[j]? =some x->vals[j]? =some v->RA w G σ.h x v)
  (hx:Gp T d f as σ=some σ1):o.wp P a w (Nx B E w0 N σ1) Q:=by
 unfold Gp at hx;split at hx
 ·rename_i ds M jl hM;split at hx
  ·rename_i sz xs oV;split at hx
   ·rename_i σ2 Ln;injection hx with hx;subst hx;generalize jJ (some d)=nm at Ln⊢;obtain⟨yV,rfl⟩:=kx Ln;have DE:=r.hr.lm jl hl nT;unfold Oper.wp;rw[bE];refine(hT f M hM ds _ oV w vals DE).mono fun e w' ⟨aF,cap,x0,px,p1,p2,p4,p5,p6⟩=>?_;subst p2;rw[PC.dV] at p1;injection p1 with p1 _;injection p1 with _ p1;injection p1 with p1 _;injection p1 with q1 q2;subst q1;have jC:∀b,b<w.heap.size->w'.heap[b]? =w.heap[b]? :=fun b hb=>p5.block b hb id;have H':=r.hr.grow jC p5.size;obtain⟨g1,g2,g3⟩:=p4.eG _ (List.mem_singleton.2 rfl);obtain⟨G',b1,b2,b3⟩:=H'.al2 (n:=nm) g1 g2 g3 p6 (fun b hb=>by
     obtain⟨n1,n2⟩:=p4.new _ (List.mem_singleton.2 rfl) b hb;refine⟨⟨fun hi=>?_,fun q hq kw he=>?_,fun q gr mo sz xs hq cT=>?_⟩,n2,Nat.le_trans r.fr.size n1⟩
     ·have:=r.hr.gH b hi;omega
     ·have:=(r.hr.own q hq kw).2.2;omega
     ·have:=r.hr.po hq cT;omega) yV
    rw[<-q2] at b1 b2 b3;have n8:xs.length=px.length:=by rw[q2];simp
    have K:bm w G σ.h (fun n=>σ.used n=true) w' G' (az σ.h (nm) (some (.row true .live sz xs))):=bm.trans (fun _ h=>h) (bm.world (fun b hb=>jC b (r.hr.gH b hb)) _) b2;have r2:R B E w0 N {σ with h:=az σ.h (nm) (some (.row true .live sz xs)),used:=az σ.used (nm) true} a w' G':=r.step rfl (fun q hq=>oF _ q hq) K b1 (r.fr.call p5)
    refine⟨G',?_⟩;rw[hd];exact r2.put (RA.fC rfl (by rw[n8];exact b3)) (fun q hq=>by have fc:q=nm:=hq;subst fc;exact bR _ _ _) (fun q hq=>by injection hq with hq;omega)
   ·cases hx
  ·cases hx
 ·cases hx
def Kv (P:Program) (t:TypeId) (len:Nat) (parts:Array (Nat×Operand)) (sz:Nat) (p:MO):Bool:=
 (len==1)&&decide (sz<=16777216)&&rU P t sz (fun _ _=>true)&&(match parts.toList with
  |[(0,x)]=>bU x p
  |_=>false)
def Qa (P:Program) (N:Nat) (o:Oper) (d:Nat) (c:FE):Bool:=
 decide (o.dst=some d)&&decide (d<N)&&(match o.guard with|none=>true|some _=>false)&&
 (match c,o.op with
  |.wj sz p,.buildSlice t len parts=>Kv P t len parts sz p
  |.wk p _,.buildSlice t len parts=>Kv P t len parts 1 p
  |.pop x lo _,.slice t x' (some y) none none=>bU x' x&&bU y lo&&rU P t 1 (fun _ _=>true)
  |.yt f ms,.call c=>match c.callee with
   |.value (.func g)=>(f==g)&&bS P f&&iC c.args.toList ms
   |_=>false
  |_,_=>false)
def yz (P:Program) (N:Nat) (ops:Array Oper):List Oper->List FD->Bool
 |[],[]=>true
 |o::os,.op m::l=>oM P N ops o m&&yz P N ops os l
 |o::os,.qD d c::l=>Qa P N o d c&&yz P N ops os l
 |_,_=>false
theorem XH {t:TypeId} {len:Nat} {parts:Array (Nat×Operand)} {sz:Nat} {p:MO} (h:Kv P t len parts sz p=true):
  ∃x,len=1/\parts=#[(0,x)]/\bU x p=true/\sz<=16777216/\∃e i z,P.underlying t=some (.slice e)/\P.info? e=some i/\i.zero=some z/\i.size=sz/\0<sz:=by
 simp only[Kv,Bool.and_eq_true,beq_iff_eq,decide_eq_true_eq] at h;obtain⟨⟨⟨h1,h2⟩,h3⟩,h4⟩:=h;split at h4
 ·rename_i x hp;obtain⟨e,i,z,g1,g2,g3,g4,g5,_⟩:=tx h3;exact⟨x,h1,by apply Array.ext';simpa using hp,h4,h2,e,i,z,g1,g2,g3,g4,g5⟩
 ·cases h4
theorem ai5 (r:R B E w0 N σ a w G) (DB:I4 P T) {d:Nat} {c:FE} (hc:Qa P N o d c=true) (hx:tw T d c σ=some σ'):o.guard=none/\o.wp P a w (Nx B E w0 N σ') Q:=by
 simp only[Qa,Bool.and_eq_true,decide_eq_true_eq] at hc;obtain⟨⟨⟨c1,c2⟩,c3⟩,c4⟩:=hc;have hg:o.guard=none:=by cases hg:o.guard with|none=>rfl|some g=>rw[hg] at c3;cases c3
 refine⟨hg,?_⟩;have RU:∀v,Nx B E w0 N (σ'.put none v)=Nx B E w0 N σ':=fun _=>rfl;obtain⟨dst,op,ty,pos,after,guard⟩:=o;simp only at c1 hg;subst c1 hg;cases c with
 |wj sz p=>
  cases op<;>simp only at c4<;>first|cases c4|skip
  rename_i t len parts;obtain⟨x,rfl,rfl,k3,k4,e,i,z,g1,g2,g3,g4,g5⟩:=XH c4;simp only[tw] at hx;split at hx
  ·rename_i ag cs fi;split at hx
   ·rename_i hl;split at hx
    ·rename_i es σ1 mN;split at hx
     ·rename_i σ2 hi;injection hx with hx;subst hx;exact aiV r rfl rfl c2 g1 g2 g3 g4 g5 k4 k3 fi hl mN hi
     ·cases hx
    ·cases hx
   ·cases hx
  ·cases hx
 |wk p s=>
  cases op<;>simp only at c4<;>first|cases c4|skip
  rename_i t len parts;obtain⟨x,rfl,rfl,k3,k4,e,i,z,g1,g2,g3,g4,g5⟩:=XH c4;simp only[tw] at hx;split at hx
  ·rename_i q sz lo len q' aF sJ qd e1 e2;split at hx
   ·rename_i cV;obtain⟨rfl,rfl,rfl,hs,rfl,rfl⟩:=cV;split at hx
    ·rename_i y σ1 mN;split at hx
     ·rename_i σ2 hi;injection hx with hx;subst hx;exact aiW r rfl rfl c2 g1 g2 g3 g4 k3 e1 e2 hs mN hi
     ·cases hx
    ·cases hx
   ·cases hx
  ·cases hx
 |pop x lo s=>
  cases op<;>simp only at c4<;>first|cases c4|skip
  rename_i t x' sJ hi' ko;cases sJ with
  |none=>cases c4
  |some y=>
  cases hi' with
  |some _=>cases c4
  |none=>
  cases ko with
  |some _=>cases c4
  |none=>
  simp only[Bool.and_eq_true] at c4;obtain⟨⟨k1,k2⟩,k3⟩:=c4;obtain⟨e,i,z,g1,g2,g3,g4,g5,_⟩:=tx k3;simp only[tw] at hx;split at hx
  ·rename_i n s1 l1 len l n' k rs off s0 l0 e1 e2 e3;split at hx
   ·rename_i cV;obtain⟨rfl,rfl,rfl,rfl,rfl,rfl,rfl,hs⟩:=cV;split at hx
    ·rename_i H9 xs hn;split at hx
     ·rename_i ng;obtain⟨rfl,rfl⟩:=ng;split at hx
      ·rename_i sz ys Bf;split at hx
       ·rename_i iZ;split at hx
        ·rename_i σ1 yN;split at hx
         ·rename_i σ2 A2;injection hx with hx;subst hx;exact ajq r rfl rfl c2 k1 k2 g1 g2 g4 e1 e2 hn e3 hs Bf iZ yN A2
         ·cases hx
        ·cases hx
       ·cases hx
      ·cases hx
     ·cases hx
    ·cases hx
   ·cases hx
  ·cases hx
 |yt f ms=>
  cases op<;>simp only at c4<;>first|cases c4|skip
  rename_i c;split at c4
  ·rename_i g hg;simp only[Bool.and_eq_true,beq_iff_eq] at c4;obtain⟨⟨rfl,k2⟩,k3⟩:=c4;simp only[tw] at hx;obtain⟨m1,m2⟩:=Qc k3;refine aja (vals:=c.args.toList.map a.eval) r DB rfl c2 ?_ ?_ ?_ hx
   ·obtain⟨callee,args,argTypes⟩:=c;simp only at hg;subst hg;simp[execOp,resolve,Deferred.ofValue,invoke,Act.eval,BT k2];apply Array.ext';simp
   ·simp only[List.length_map,m1]
   ·intro j x v hj hv;rw[List.getElem?_map] at hj hv;cases hm:ms[j]? with
    |none=>rw[hm] at hj;cases hj
    |some mm=>
     cases ha:c.args.toList[j]? with
     |none=>rw[ha] at hv;cases hv
     |some xx=>
      rw[hm] at hj;rw[ha] at hv;simp at hj hv;subst hj;subst hv;exact(r.ev (m2 j xx mm ha hm)).1
  ·cases c4
theorem Of (hT:jT P T) (DB:I4 P T):∀{l:List Oper} {its:List FD} {σ σ':St} {a:Act} {w:World} {G:Gh},yz P N ops l its=true->uJ T its σ=some σ'->R B E w0 N σ a w G->
  (∀a w G,R B E w0 N σ' a w G->Q .normal a w)->wpList P ops Q l a w
 |[],[],σ,σ',a,w,G,hc,hx,r,hQ=>by
  simp only[uJ] at hx;injection hx with hx;subst hx;exact hQ _ _ _ r
 |o::l,.op m::its,σ,σ',a,w,G,hc,hx,r,hQ=>by
  simp only[yz,Bool.and_eq_true] at hc;simp only[uJ] at hx;split at hx
  ·rename_i σ1 e1;unfold wpList;rcases AE (Q:=Q) r hT hc.1 e1 with⟨hw,h⟩|⟨hw,G',h⟩
   ·rw[if_pos hw];exact .inl (Oper.wp_mono (fun a' w' ⟨G',r'⟩=>Of hT DB hc.2 hx r' hQ) h)
   ·rw[if_neg (by simp[hw])];exact Of hT DB hc.2 hx h hQ
  ·cases hx
 |o::l,.qD d c::its,σ,σ',a,w,G,hc,hx,r,hQ=>by
  simp only[yz,Bool.and_eq_true] at hc;simp only[uJ] at hx;split at hx
  ·rename_i σ1 e1;obtain⟨g1,g2⟩:=ai5 (Q:=Q) r DB hc.1 e1;unfold wpList;rw[if_pos (by simp[Region.wanted,g1])];exact .inl (Oper.wp_mono (fun a' w' ⟨G',r'⟩=>Of hT DB hc.2 hx r' hQ) g2)
  ·cases hx
 |[],_::_,_,_,_,_,_,hc,_,_,_=>by simp[yz] at hc
 |_::_,[],_,_,_,_,_,hc,_,_,_=>by simp[yz] at hc
end
section
variable {B:Nat} {E:Ex} {w0 w w':World} {G G':Gh} {N:Nat} {h h':Nat->Option aq}
variable {P:Program} {T:aQ} {a:Act} {σ σ':St} {Q:Exit->Act->World->Prop}
theorem R.asi (r:R B E w0 N σ a w G) {n j:Nat} {cs:List ah} {y:ah} (hn:σ.h n=some (.box cs)) (hy:∀v,w.cell? (ad (G.g n).b ((G.g n).o+j))=some v->RC w G σ.h y v) (hyr:∀m,y.ref m->σ.used m=true):
  R B E w0 N (σ.eE n (.box (cs.set j y))) a w G:=by
 have H:=r.hr;have bN:σ.h n≠none:=by rw[hn];simp
 obtain⟨b1,b2,b3⟩:=H.box n cs hn;have hg:az G.g n (G.g n)=G.g:=IM _ _;have K:bm w G σ.h (fun n=>σ.used n=true) w ⟨G.Im,az G.g n (G.g n)⟩ (az σ.h n (some (.box (cs.set j y)))):=by
  rw[hg];refine⟨fun _ h=>h,fun _ _ _=>rfl,fun m _ hm=>⟨?_,rfl,rfl,rfl,rfl,rfl⟩,fun m gr sz xs _ hm=>?_⟩
  ·by_cases bJ:m=n
   ·subst bJ;exact bN
   ·rwa[cN _ _ _ _ bJ] at hm
  ·by_cases bJ:m=n
   ·subst bJ;rw[bR] at hm;cases hm
   ·rw[cN _ _ _ _ bJ] at hm;exact⟨⟨gr,xs,hm⟩,fun k j pc h1 h2=>⟨pc,h1,rfl,h2⟩⟩
 have Hn:=H.put (w':=w) (used':=σ.used) (n:=n) (blk:=.box (cs.set j y)) (p:=G.g n) (fun _ _ _=>rfl) (Nat.le_refl _) (fun _ _ h=>h) (fun _ h=>h) (H.jh n bN) (fun hl=>H.own n bN hl)
  (fun hl m bJ hm hml=>H.inj m n hm bN bJ hml hl) (fun hl m gr sz xs bJ hm b hb=>H.live m gr sz xs hm b hb n bN hl)
  (fun cs' c m hb hc hr=>by
   injection hb with hb;subst hb;rcases List.mem_or_eq_of_mem_set hc with hc|rfl
   ·exact H.ik n cs c m hn hc hr
   ·exact hyr m hr) K
  (by
   refine⟨b1,b2,fun i c hi=>?_⟩;rw[List.getElem?_set] at hi;split at hi
   ·rename_i iq;subst iq;split at hi
    ·rename_i cu;injection hi with hi;subst hi;obtain⟨v,v1,v2,v3⟩:=b3 j cs[j] (List.getElem?_eq_getElem cu);exact⟨v,v1,v2,(hy v v1).fW K hyr⟩
    ·cases hi
   ·obtain⟨v,v1,v2,v3⟩:=b3 i c hi;exact⟨v,v1,v2,v3.fW K fun m hm=>H.ik n cs c m hn (List.mem_of_getElem? hi) hm⟩)
  (fun gr m sz xs hb=>by cases hb) (fun gr sz xs hb=>by cases hb) (fun gr m sz xs hb=>by cases hb)
  (fun hl _ b ⟨m,gr,mo,sz,xs,_,hm,hb⟩=>H.qI bN hl hm hb)
 rw[hg] at K Hn;exact r.step rfl (fun _ h=>h) K Hn r.fr
theorem R.lr (r:R B E w0 N σ a w G) (c:Nat) (m:Mode):R B E w0 N (σ.lr c m) a w G:=by
 unfold St.lr;cases m with
 |live=>exact r
 |aN=>exact r
 |aJ=>
  simp only
  split
  ·rename_i gr rs xs hn;have hg:(⟨G.Im,az G.g c (G.g c)⟩:Gh)=G:=by
    have:az G.g c (G.g c)=G.g:=by funext q;rw[kg];split<;>simp[*]
    rw[this]
   have hr:=r.hr.row c gr .aN rs xs hn;have e0:∀q b,az σ.h c (some (.row gr .aJ rs xs)) q=some b->q≠c->σ.h q=some b:=fun q b hq aD=>by rwa[cN _ _ _ _ aD] at hq
   have ne:∀q,az σ.h c (some (.row gr .aJ rs xs)) q≠none->σ.h q≠none:=fun q hq=>by
    by_cases n4:q=c
    ·subst n4;rw[hn];simp
    ·rwa[cN _ _ _ _ n4] at hq
   have lM:∀q bo m' aF av,az σ.h c (some (.row gr .aJ rs xs)) q=some (.row bo m' aF av)->m'≠ .aJ->q≠c/\σ.h q=some (.row bo m' aF av):=fun q bo m' aF av hq hm=>by
    by_cases n4:q=c
    ·subst n4;rw[bR] at hq;injection hq with hq;injection hq with _ hq _ _;exact absurd hq.symm hm
    ·exact⟨n4,e0 q _ hq n4⟩
   have K:bm w G σ.h (fun q=>σ.used q=true) w G (az σ.h c (some (.row gr .aJ rs xs))):=
    ⟨fun _ h=>h,fun _ _ _=>rfl,fun q _ hq=>⟨ne q hq,rfl,rfl,rfl,rfl,rfl⟩,fun q bo aF av _ hq=>by
     obtain⟨h1,h2⟩:=lM q bo .live aF av hq (by simp);exact⟨⟨bo,av,h2⟩,fun k j pc a b=>⟨pc,a,rfl,b⟩⟩⟩
   have H:=r.hr;have Hn:HR B E w G (az σ.h c (some (.row gr .aJ rs xs))) σ.used []:=by
    refine⟨fun q hq=>H.jh q (ne q hq),fun q cs y p hq=>?_,fun q cs hq=>?_,fun q bo m' aF av hq=>?_,fun q hq=>H.own q (ne q hq),fun q q' hq fc=>H.inj q q' (ne q hq) (ne q' fc),H.gH,H.pU,
     fun q q' bo m' aF av Dz m2 jd gD hq fc hm fK=>H.gv q q' bo m' aF av Dz m2 jd gD (lM _ _ _ _ _ hq hm).2 (lM _ _ _ _ _ fc fK).2 hm fK,
     fun q bo aF av hq b hb q' fc=>H.live q bo aF av (lM _ _ _ _ _ hq (by simp)).2 b hb q' (ne q' fc),(by intro i pc hi;simp at hi),(by intro i j pc dC b _ hi;simp at hi),(by intro i pc q bo m' aF av b hi;simp at hi)⟩
    ·have n4:q≠c:=fun e=>by subst e;rw[bR] at hq;cases hq
     exact H.ik q cs y p (e0 q _ hq n4)
    ·have n4:q≠c:=fun e=>by subst e;rw[bR] at hq;cases hq
     obtain⟨a1,a2,a3⟩:=H.box q cs (e0 q _ hq n4);refine⟨a1,a2,fun j y hj=>?_⟩;obtain⟨v,v1,v2,v3⟩:=a3 j y hj;exact⟨v,v1,v2,v3.fW K fun p hp=>H.ik q cs y p (e0 q _ hq n4) (List.mem_of_getElem? hj) hp⟩
    ·by_cases n4:q=c
     ·subst n4;rw[bR] at hq;injection hq with hq;injection hq with h1 h2 h3 h4;subst h1 h2 h3 h4;exact⟨hr.pos,hr.er,hr.nl,hr.eK,hr.room,fun b hb=>(hr.mode.1 b hb).1,fun _ h=>by cases h⟩
     ·exact H.row q bo m' aF av (e0 q _ hq n4)
   exact r.step rfl (fun _ h=>h) K Hn r.fr
  ·exact r
theorem R.H8 (r:R B E w0 N σ a w G) {x c:Nat} {m:Mode} (hx:(σ.bw x c).map (fun σ1=>σ1.lr c m)=some σ'):∃G',R B E w0 N σ' a w G':=by
 rw[Option.map_eq_some_iff] at hx;obtain⟨σ1,e,rfl⟩:=hx;obtain⟨G',r'⟩:=r.bw e;exact⟨G',r'.lr c m⟩
theorem R.canon (r:R B E w0 N σ a w G) {x:Bool×Nat×Nat×Nat×Mode} (hx:σ.canon x=some σ'):∃G',R B E w0 N σ' a w G':=by
 obtain⟨b,n,j,c,m⟩:=x;have h9:some σ=some σ'->∃G',R B E w0 N σ' a w G':=fun h=>by injection h with h;subst h;exact⟨G,r⟩
 cases b with
 |true=>
  simp only[St.canon] at hx;split at hx
  ·rename_i cs hn;split at hx
   ·exact r.H8 hx
   ·rename_i sz hj;split at hx
    ·rename_i bV;split at hx
     ·rename_i σ1 e;injection hx with hx;subst hx;obtain⟨G1,r1,pR⟩:=r.aaW bV e;obtain⟨hu,rfl⟩:=kx e;have yV:σ.used n=true:=r.hr.jh n (by rw[hn];simp);have tM:n≠c:=fun he=>by subst he;rw[hu] at yV;cases yV
      have lG:(az σ.h c (some (.row true m sz []))) n=some (.box cs):=by rw[cN _ _ _ _ tM];exact hn
      refine⟨G1,r1.asi lG (fun v hv=>?_) (fun q hq=>?_)⟩
      ·obtain⟨v',v1,v2,v3⟩:=(r1.hr.box n cs lG).2.2 j _ hj;rw[v1] at hv;injection hv with hv;subst hv;have v3':v'=.slice none 0 0:=v3;subst v3';exact pR
      ·have fc:q=c:=hq;subst fc;exact bR _ _ _
     ·cases hx
    ·exact h9 hx
   ·exact h9 hx
  ·exact h9 hx
 |false=>
  simp only[St.canon] at hx;split at hx
  ·exact r.H8 hx
  ·rename_i sz hj;split at hx
   ·rename_i bV;split at hx
    ·rename_i σ1 e;injection hx with hx;subst hx;obtain⟨G1,r1,pR⟩:=r.aaW bV e;obtain⟨hu,rfl⟩:=kx e;have hv:=r1.env n;rw[show({σ with h:=az σ.h c (some (.row true m sz [])),used:=az σ.used c true}:St).env n=σ.env n from rfl,hj] at hv
     have gk:a.tmps.getD n undef=.slice none 0 0:=(hv.fu (by simp)).1;refine⟨G1,r1.defers,r1.size,fun s=>?_,fun s q hq=>?_,r1.hr,r1.fr,r1.mT,r1.vL⟩
     ·show RA w G1 _ (az σ.env n _ s) _;by_cases hs:s=n
      ·subst hs;rw[bR,gk];exact RA.fC rfl pR
      ·rw[cN _ _ _ _ hs];exact r1.env s
     ·have kw:(az σ.env n (.one (.sl c sz 0 0)) s).ref q:=hq;by_cases hs:s=n
      ·subst hs;rw[bR] at kw;have fc:q=c:=kw;subst fc;exact bR _ _ _
      ·rw[cN _ _ _ _ hs] at kw;exact r1.pC s q kw
    ·cases hx
   ·exact h9 hx
  ·exact h9 hx
theorem R.uH:∀{l:List (Bool×Nat×Nat×Nat×Mode)} {σ:St} {G:Gh},R B E w0 N σ a w G->σ.uH l=some σ'->∃G',R B E w0 N σ' a w G'
 |[],σ,G,r,hx=>by
  simp only[St.uH] at hx;injection hx with hx;subst hx;exact⟨G,r⟩
 |x::l,σ,G,r,hx=>by
  simp only[St.uH] at hx;split at hx
  ·rename_i σ1 e;obtain⟨G1,r1⟩:=r.canon e;exact R.uH r1 hx
  ·cases hx
theorem R.head (r:R B E w0 N σ a w G) {ke kh:List Nat} {cn:List (Bool×Nat×Nat×Nat×Mode)} (hx:σ.head ke kh cn=some σ'):∃G',R B E w0 N σ' a w G':=by
 unfold St.head at hx;split at hx
 ·rename_i σ1 e;injection hx with hx;subst hx;obtain⟨G1,r1⟩:=((r.ju ke kh).ju ke kh).uH e;exact⟨G1,r1.ju ke kh⟩
 ·cases hx
def iR (P:Program) (N:Nat):Code->jS->Bool
 |c,.join _ _ _ mc=>iR P N c mc
 |.skip,.skip=>true
 |.region _ ops lV,.gT Gq ms=>(lV==Gq)&&jW P N ops ops.toList ms&&(!lV||Kx ops.toList ms)
 |.region _ ops lV,.ub ps ms=>lV&&jW P N ops ops.toList ms&&F9 ps ops.toList ms
 |.region _ ops lV,.vM its=> !lV&&yz P N ops ops.toList its
 |.region _ ops lV,.sS Gq ps ms sp=>(lV==Gq)&&(if Gq=true then Qd P N ops ps ms sp else Qe P N ops ms sp)
 |.seq x y,.seq mx my=>iR P N x mx&&iR P N y my
 |.cond c x y,.cond mc mx my=>bU c mc&&iR P N x mx&&iR P N y my
 |.block id c,.block Sz mc=>(id==Sz)&&iR P N c mc
 |.loop c,.loop _ _ _ _ mc=>iR P N c mc
 |.exit id,.exit Sz=>id==Sz
 |.ret,.ret=>true
 |_,_=>false
def ahk (B:Nat) (E:Ex) (w0:World) (N:Nat) (Q:Exit->Act->World->Prop):tj->Prop
 |.fq σ=>∀a w G,R B E w0 N σ a w G->Q .normal a w
 |.ext id σ=>∀a w G,R B E w0 N σ a w G->Q (.exit id) a w
 |.ret σ=>∀a w G,R B E w0 N σ a w G->Q .ret a w
theorem kL (hT:jT P T) (hm:P.follows .mixedOrders=true):∀(mc:jS) {c:Code} {σ:St} {o:tj} {a:Act} {w:World} {G:Gh} {Q:Exit->Act->World->Prop},
  iR P N c mc=true->dS T mc σ=some o->R B E w0 N σ a w G->ahk B E w0 N Q o->c.wp P Q a w
 |.skip,c,σ,o,a,w,G,Q,hc,hx,r,hQ=>by
  cases c<;>simp only[iR] at hc<;>first|cases hc|skip
  simp only[dS] at hx;injection hx with hx;subst hx;exact wp_skip (hQ _ _ _ r)
 |.gT lV ms,c,σ,o,a,w,G,Q,hc,hx,r,hQ=>by
  cases c<;>simp only[iR] at hc<;>first|cases hc|skip
  simp only[Bool.and_eq_true,Bool.or_eq_true,beq_iff_eq] at hc;simp only[dS] at hx;split at hx
  ·rename_i σ1 e;injection hx with hx;subst hx;exact asq hT hm hc.1.2 (fun hd=>hc.2.resolve_left (by simp[hd])) e r hQ
  ·cases hx
 |.ub ps ms,c,σ,o,a,w,G,Q,hc,hx,r,hQ=>by
  cases c<;>simp only[iR] at hc<;>first|cases hc|skip
  simp only[Bool.and_eq_true] at hc;obtain⟨⟨hd,nf⟩,ng⟩:=hc;subst hd;simp only[dS] at hx;split at hx
  ·rename_i fs σ1 e;cases hp:sO ps fs with
   |true=>
    rw[hp] at hx;injection hx with hx;subst hx;exact asn hT hm nf ng e hp r hQ
   |false=>rw[hp] at hx;cases hx
  ·cases hx
 |.vM its,c,σ,o,a,w,G,Q,hc,hx,r,hQ=>by
  cases c<;>simp only[iR] at hc<;>first|cases hc|skip
  simp only[Bool.and_eq_true,Bool.not_eq_true'] at hc;obtain⟨hd,nf⟩:=hc;subst hd;simp only[dS] at hx;split at hx
  ·rename_i σ1 e;injection hx with hx;subst hx;exact wp_region_list (Of hT hT.atw nf e r hQ)
  ·cases hx
 |.sS Gq ps ms sp,c,σ,o,a,w,G,Q,hc,hx,r,hQ=>by
  cases c<;>simp only[iR] at hc<;>first|cases hc|skip
  simp only[Bool.and_eq_true,beq_iff_eq] at hc;obtain⟨hd,nf⟩:=hc;subst hd;rename_i lV;cases lV with
  |false=>
   simp only[Bool.false_eq_true,if_false] at nf;simp only[dS] at hx;split at hx
   ·rename_i σ1 e;split at hx
    ·rename_i σ2 e2;injection hx with hx;subst hx;exact asp hT nf e e2 r hQ
    ·cases hx
   ·cases hx
  |true=>
   simp only[if_true] at nf;simp only[dS] at hx;split at hx
   ·rename_i fs σ1 e;split at hx
    ·rename_i σ2 e2;cases hp:sO ps fs with
     |true=>
      rw[hp] at hx;injection hx with hx;subst hx;exact aso hT hm nf e hp e2 r hQ
     |false=>rw[hp] at hx;cases hx
    ·cases hx
   ·cases hx
 |.seq mx my,c,σ,o,a,w,G,Q,hc,hx,r,hQ=>by
  cases c<;>simp only[iR] at hc<;>first|cases hc|skip
  simp only[Bool.and_eq_true] at hc;simp only[dS] at hx;refine wp_seq ?_;cases e:dS T mx σ with
  |none=>rw[e] at hx;cases hx
  |some o1=>
   rw[e] at hx;cases o1 with
   |fq σ1=>exact kL hT hm mx hc.1 e r fun a w G r1=>kL hT hm my hc.2 hx r1 hQ
   |ext i σ1=>
    injection hx with hx;subst hx;exact kL hT hm mx hc.1 e r hQ
   |ret σ1=>
    injection hx with hx;subst hx;exact kL hT hm mx hc.1 e r hQ
 |.cond mc mx my,c,σ,o,a,w,G,Q,hc,hx,r,hQ=>by
  cases c<;>simp only[iR] at hc<;>first|cases hc|skip
  simp only[Bool.and_eq_true] at hc;simp only[dS] at hx;split at hx
  ·rename_i t ht;have h1:=(r.ev hc.1.1).1;rw[ht] at h1;refine wp_cond h1.C4 ?_;cases t with
   |true=>simp only[if_true] at hx⊢;exact kL hT hm mx hc.1.2 hx r hQ
   |false=>simp only[Bool.false_eq_true,if_false] at hx⊢;exact kL hT hm my hc.2 hx r hQ
  ·cases hx
 |.block id mc,c,σ,o,a,w,G,Q,hc,hx,r,hQ=>by
  cases c<;>simp only[iR] at hc<;>first|cases hc|skip
  simp only[Bool.and_eq_true,beq_iff_eq] at hc;obtain⟨rfl,hc⟩:=hc;simp only[dS] at hx;refine wp_block ?_;cases e:dS T mc σ with
  |none=>rw[e] at hx;cases hx
  |some o1=>
   rw[e] at hx;refine kL hT hm mc hc e r ?_;cases o1 with
   |fq σ1=>injection hx with hx;subst hx;exact hQ
   |ret σ1=>injection hx with hx;subst hx;exact hQ
   |ext i σ1=>
    simp only at hx;intro a w G r1;simp only[Exit.inBlock];split at hx
    ·rename_i hi;injection hx with hx;subst hx;rw[if_pos hi];exact hQ a w G r1
    ·rename_i hi;injection hx with hx;subst hx;rw[if_neg hi];exact hQ a w G r1
 |.join ke kh cn mc,c,σ,o,a,w,G,Q,hc,hx,r,hQ=>by
  have hc:iR P N c mc=true:=by cases c<;>exact hc
  simp only[dS] at hx;cases e:dS T mc σ with
  |none=>rw[e] at hx;cases hx
  |some o1=>
   rw[e] at hx;cases o1 with
   |fq σ1=>
    simp only at hx;split at hx
    ·rename_i σh e0;injection hx with hx;subst hx;exact kL hT hm mc hc e r fun a w G r1=>by
      obtain⟨G',r'⟩:=r1.head e0;exact hQ a w G' r'
    ·cases hx
   |ext i σ1=>
    injection hx with hx;subst hx;exact kL hT hm mc hc e r hQ
   |ret σ1=>
    injection hx with hx;subst hx;exact kL hT hm mc hc e r hQ
 |.loop id ke kh cn mc,c,σ,o,a,w,G,Q,hc,hx,r,hQ=>by
  cases c<;>simp only[iR] at hc<;>first|cases hc|skip
  rename_i c;simp only[dS] at hx;refine wp_loop_rounds aP ?_
  revert hx r
  generalize aP=n
  revert σ a w G
  induction n with
  |zero=>intro σ a w G hx r;simp[Eo] at hx
  |succ n ih=>
   intro σ a w G hx r;simp only[Eo] at hx;rw[rounds_succ];cases e0:σ.head ke kh cn with
   |none=>rw[e0] at hx;cases hx
   |some σh=>
    rw[e0] at hx;obtain⟨G',r'⟩:=r.head e0;cases e:dS T mc σh with
    |none=>simp only[e] at hx;cases hx
    |some o1=>
     simp only[e] at hx;refine kL hT hm mc hc e r' ?_;cases o1 with
     |fq σ1=>intro a w G r1;exact ih _ _ _ _ hx r1
     |ext i σ1=>injection hx with hx;subst hx;exact hQ
     |ret σ1=>injection hx with hx;subst hx;exact hQ
 |.exit id,c,σ,o,a,w,G,Q,hc,hx,r,hQ=>by
  cases c<;>simp only[iR] at hc<;>first|cases hc|skip
  have hid:=eq_of_beq hc;subst hid;simp only[dS] at hx;injection hx with hx;subst hx;exact wp_exit (hQ _ _ _ r)
 |.ret,c,σ,o,a,w,G,Q,hc,hx,r,hQ=>by
  cases c<;>simp only[iR] at hc<;>first|cases hc|skip
  simp only[dS] at hx;injection hx with hx;subst hx;exact wp_ret (hQ _ _ _ r)
end
inductive br where
 |tmp (t:Nat)
 |cell (t sz:Nat) (ag:Bool)
def mF (P:Program):List ResultVar->List br->Bool
 |[],[]=>true
 |.tmp t::rs,.tmp t'::ms=>(t==t')&&mF P rs ms
 |.cell a ty::rs,.cell a' sz ag::ms=>(a==a')&&Dc P ty ag sz&&mF P rs ms
 |_,_=>false
def St.qp (σ:St):List br->Option (List aj)
 |[]=>some []
 |.tmp t::ms=>match σ.qp ms with
  |some vs=>some (σ.env t::vs)
  |none=>none
 |.cell t sz ag::ms=>match σ.env t with
  |.one p=>match loadAt σ.h p sz,σ.qp ms with
   |some cs,some vs=>some (oD ag cs::vs)
   |_,_=>none
  |_=>none
def jL (h:Nat->Option aq):ah->Option (C×List Nat)
 |.c x=>if x.fk=true then some (x,[]) else none
 |.nil sz=>if 0<sz then some (.list sz [],[]) else none
 |.sl n sz 0 len=>match h n with
  |some (.row true m rs xs)=>if rs=sz/\m≠ .aJ/\len<=xs.length then some (.list sz (xs.take len),[n]) else none
  |_=>none
 |_=>none
def vO (h:Nat->Option aq):List ah->Option (List C×List Nat)
 |[]=>some ([],[])
 |c::cs=>match jL h c,vO h cs with
  |some (x,ns),some (xs,lK)=>some (x::xs,ns++lK)
  |_,_=>none
def sV (h:Nat->Option aq):List aj->Option (List Dv×List Nat)
 |[]=>some ([],[])
 |v::vs=>match v.cells? with
  |some (ag,cs)=>match vO h cs,sV h vs with
   |some (xs,ns),some (ds,lK)=>some ((if ag=true then(K.agg,xs) else(K.one,xs))::ds,ns++lK)
   |_,_=>none
  |none=>none
def St.vN (σ:St) (ms:List br):Option (List Dv):=
 match σ.qp ms with
 |some vs=>match sV σ.h vs with
  |some (ds,ns)=>if ns.Nodup then some ds else none
  |none=>none
 |none=>none
section
variable {B:Nat} {E:Ex} {w0 w w':World} {G G':Gh} {N:Nat} {h h':Nat->Option aq} {used:Nat->Bool}
variable {P:Program} {T:aQ} {a:Act} {σ σ':St}
def oP (G:Gh) (n b:Nat):Prop:=((G.g n).nl=false/\b=(G.g n).b)\/bh b (G.g n).px
theorem HR.ZZ (H:HR B E w G h used []) {n n':Nat} (aD:n≠n') {gr bo:Bool} {m m':Mode} {sz aF:Nat} {xs av:List (List C)} (h1:h n=some (.row gr m sz xs)) (h2:h n'=some (.row bo m' aF av))
  (hm:m≠ .aJ) (bP:m'≠ .aJ) {b:Nat} (hb:oP G n b):¬oP G n' b:=by
 have e1:h n≠none:=by rw[h1];simp
 have e2:h n'≠none:=by rw[h2];simp
 have own:∀{p q:Nat} {gr:Bool} {m:Mode} {sz:Nat} {xs:List (List C)},h p≠none->h q=some (.row gr m sz xs)->m≠ .aJ->(G.g p).nl=false->¬bh (G.g p).b (G.g q).px:=by
  intro p q gr m sz xs hp hq hm hl hF;have gj:=(H.row q gr m sz xs hq).mode;cases m with
  |aJ=>exact hm rfl
  |aN=>exact(H.own p hp hl).1 (gj.1 _ hF).1
  |live=>exact H.live q gr sz xs hq _ hF p hp hl rfl
 rintro(⟨l2,rfl⟩|b2)
 ·rcases hb with⟨l1,b1⟩|b1
  ·exact H.inj n n' e1 e2 aD l1 l2 b1.symm
  ·exact own e2 h1 hm l2 b1
 ·rcases hb with⟨l1,rfl⟩|b1
  ·exact own e1 h2 bP l1 b2
  ·exact H.gv n n' gr m sz xs bo m' aF av h1 h2 hm bP aD b b1 b2
structure WY (B:Nat) (w:World) (G:Gh) (h:Nat->Option aq) (ns:List Nat) (pc:PC):Prop where
 eG:Good w pc/\Sep pc/\CS w pc
 new:∀b,jR b pc->(B<=b/\d9 w b)/\∃n∈ns,oP G n b
def wa (h:Nat->Option aq) (ns:List Nat):Prop:=∀n∈ns,∃gr m sz xs,h n=some (.row gr m sz xs)/\m≠ .aJ
theorem HR.jL (H:HR B Ex.no w G h used []) {c:ah} {x:C} {ns:List Nat} {v:Value} (hx:jL h c=some (x,ns)) (hc:RC w G h c v):
  ∃pc:PC,pc.er=x/\pc.val=v/\WY B w G h ns pc/\wa h ns/\∀n sz len gr m rs xs,c=.sl n sz 0 len->h n=some (.row gr m rs xs)->∃x0 cap,pc=.list rs x0 cap ((G.g n).px.take len):=by
 have noT:∀pc:PC,(∀sz a cap xs,pc≠ .list sz a cap xs)->∀b,¬jR b pc:=by
  intro pc hp b hb;rcases hb with hb|⟨sz,o,cap,xs,rfl,_⟩
  ·cases hb with
   |here sz o cap xs h=>exact hp _ _ _ _ rfl
   |there sz a cap xs k j c h1 h2=>exact hp _ _ _ _ rfl
  ·exact hp _ _ _ _ rfl
 cases c with
 |c y=>
  simp only[Am.jL] at hx;split at hx
  ·rename_i hs;injection hx with hx;injection hx with h1 h2;subst h1 h2;obtain⟨pc,p1,p2,p3,p4⟩:=hc;have cm:∀b,¬jR b pc:=noT pc (by rintro sz a cap xs rfl;rw[<-p1] at hs;simp[PC.dV,C.fk] at hs);have tP:CS w pc:=by
    cases pc with
    |list sz a cap xs=>rw[<-p1] at hs;simp[PC.dV,C.fk] at hs
    |_=>trivial
   exact⟨pc,p1,p2,⟨⟨p3,(Sep.hY (by rw[p1];exact hs)).1,tP⟩,fun b hb=>absurd hb (cm b)⟩,(fun n hn=>by simp at hn),fun n sz len gr m rs xs e=>by cases e⟩
  ·cases hx
 |nil sz=>
  simp only[Am.jL] at hx;split at hx
  ·rename_i eS;injection hx with hx;injection hx with h1 h2;subst h1 h2;have dt:v=.slice none 0 0:=hc;subst dt;have jY:Sep (.list sz none 0 []):=by
    refine .list _ _ _ _ ?_ ?_ ?_
    ·rintro k j c ⟨e,he,_⟩;simp at he
    ·rintro b o k j c _ ⟨e,he,_⟩;simp at he
    ·rintro k j c k' j' c' b ⟨e,he,_⟩;simp at he
   refine⟨.list sz none 0 [],by simp[PC.dV],rfl,⟨⟨.nil _ _ _ eS,jY,eS,by simp,.inl rfl⟩,fun b hb=>?_⟩,(fun n hn=>by simp at hn),fun n sz len gr m rs xs e=>by cases e⟩;rcases hb with hb|⟨_,_,_,_,hb,qL⟩
   ·rw[aZ.kZ] at hb;rcases hb with⟨hb,_⟩|⟨k,j,c,⟨e,he,_⟩,_⟩
    ·exact absurd rfl hb
    ·simp at he
   ·cases hb
  ·cases hx
 |sl n sz lo len=>
  cases lo with
  |succ lo=>simp[Am.jL] at hx
  |zero=>
   simp only[Am.jL] at hx;split at hx
   ·rename_i m rs xs hn;split at hx
    ·rename_i cV;obtain⟨rfl,hm,hl⟩:=cV;injection hx with hx;injection hx with h1 h2;subst h1 h2;have bN:h n≠none:=by rw[hn];simp
     have hr:=H.row n true m rs xs hn;have hs:gE (G.g n) rs 0 len v:=hc bN;obtain⟨a1,a2,a3,a4⟩:=E5 hr hs (by omega);have qS:(∀b,bh b (G.g n).px->d9 w b/\B<=b)/\iO (G.g n).px/\(∀b,bh b (G.g n).px->(G.g n).nl=false->b≠(G.g n).b):=by
      have dW:=hr.mode;cases m with
      |aJ=>exact absurd rfl hm
      |aN=>exact⟨fun b hb=>⟨(dW.1 b hb).2.1,(dW.1 b hb).2.2.resolve_right id⟩,dW.2,fun b hb hl fA=>(H.own n bN hl).1 (fA▸(dW.1 b hb).1)⟩
      |live=>exact⟨fun b hb=>⟨(dW.1 b hb).2.1,(dW.1 b hb).2.2.resolve_right id⟩,dW.2,fun b hb hl=>H.live n true rs xs hn b hb n bN hl⟩
     obtain⟨o1,o2,o3⟩:=qS;refine⟨jM (G.g n) rs 0 len v,by simpa using a1,a2,?_,fun q hq=>?_,fun n' aF qd bo m' mw av e1 e2=>?_⟩
     ·rcases hs with⟨aR,rfl,_,rfl⟩|⟨aR,ad',rfl,io,had⟩
      ·simp only[jM] at a3⊢;have hz:(List.take 0 (List.drop 0 (G.g n).px))=[]:=by simp
       have yu:=(hr.nl aR).2 rfl;rw[hz,yu] at a3⊢;have jY:Sep (.list rs (G.g n).na 0 []):=by
        refine .list _ _ _ _ ?_ ?_ ?_
        ·rintro k j c ⟨e,he,_⟩;simp at he
        ·rintro b o k j c _ ⟨e,he,_⟩;simp at he
        ·rintro k j c k' j' c' b ⟨e,he,_⟩;simp at he
       refine⟨⟨a3,jY,hr.pos,by simp,.inl rfl⟩,fun b hb=>?_⟩;rcases hb with hb|⟨_,_,_,_,hb,qL⟩
       ·rw[aZ.kZ] at hb;rcases hb with⟨hb,_⟩|⟨k,j,c,⟨e,he,_⟩,_⟩
        ·exact absurd rfl hb
        ·simp at he
       ·injection hb with _ _ hb _;exact absurd hb.symm qL
      ·obtain⟨r2,cur,e,r3,r4⟩:=hr.room aR rfl;have e0:=had (.inr rfl);have e0':ad'=some (ad (G.g n).b (G.g n).o):=by rw[e0];simp
       subst e0';simp only[jM,Nat.sub_zero] at a3 a4⊢;have Hj:=o2.sub 0 len;have fP:∀k j c,At ((List.drop 0 (G.g n).px).take len) k j c->At (G.g n).px k j c:=fun k j c hk=>by have:=(qC hk).1;simpa using this
       refine⟨⟨a3,.list _ _ _ _ Hj.1 (fun b o k j c gi hk hb=>?_) Hj.2,hr.pos,by simp;omega,.inr ⟨_,_,cur,e,rfl,r3,r4,r2,fun k j c hk hb=>?_⟩⟩,fun b hb=>?_⟩
       ·injection gi with gi;exact o3 b ⟨_,_,_,fP _ _ _ hk,hb⟩ aR (lz gi).1.symm
       ·exact o3 _ ⟨_,_,_,fP _ _ _ hk,hb⟩ aR rfl
       ·have hf:oP G n b:=by
         rcases hb with hb|⟨_,_,_,_,hb,qL⟩
         ·exact a4 b hb
         ·injection hb with _ hb _ _;injection hb with hb;exact .inl ⟨aR,(lz hb).1.symm⟩
        refine⟨?_,n,by simp,hf⟩;rcases hf with⟨_,rfl⟩|hF
        ·exact⟨((H.own n bN aR).2.1).resolve_right id,(hr.eK aR).1⟩
        ·exact⟨(o1 b hF).2,(o1 b hF).1⟩
     ·simp at hq;subst hq;exact⟨_,_,_,_,hn,hm⟩
     ·injection e1 with e1 _ _ e3;subst e1 e3;rw[hn] at e2;injection e2 with e2;injection e2 with _ _ e2 _;subst e2;rcases hs with⟨_,rfl,_,_⟩|⟨_,a',rfl,_,_⟩
      ·exact⟨_,_,by simp only[jM,List.drop_zero];rfl⟩
      ·exact⟨_,_,by simp only[jM,List.drop_zero];rfl⟩
    ·cases hx
   ·cases hx
 |ptr _ _ _ _=>simp[Am.jL] at hx
 |dg _ _=>simp[Am.jL] at hx
 |cH _ _ _ _ _ _=>simp[Am.jL] at hx
 |bC _ _ _ _ _ _=>simp[Am.jL] at hx
 |fn _ _=>simp[Am.jL] at hx
 |db _ _ _ _ _ _=>simp[Am.jL] at hx
 |bq=>simp[Am.jL] at hx
structure uB (B:Nat) (w:World) (G:Gh) (h:Nat->Option aq) (ns:List Nat) (ps:List PC):Prop where
 each:∀pc∈ps,WY B w G h ns pc
 oN:ns.Nodup->ps.Pairwise fun p q=>∀b,jR b p->¬jR b q
theorem uB.append (H:HR B Ex.no w G h used []) {ns lK:List Nat} {ps ps':List PC} (h1:uB B w G h ns ps) (h2:uB B w G h lK ps') (n1:wa h ns) (n2:wa h lK):uB B w G h (ns++lK) (ps++ps'):=by
 refine⟨fun pc bi=>?_,fun hd=>?_⟩
 ·rcases List.mem_append.1 bi with hp|hp
  ·obtain⟨g,n⟩:=h1.each pc hp;exact⟨g,fun b hb=>⟨(n b hb).1,by obtain⟨k,hk,hf⟩:=(n b hb).2;exact⟨k,by simp[hk],hf⟩⟩⟩
  ·obtain⟨g,n⟩:=h2.each pc hp;exact⟨g,fun b hb=>⟨(n b hb).1,by obtain⟨k,hk,hf⟩:=(n b hb).2;exact⟨k,by simp[hk],hf⟩⟩⟩
 ·rw[List.nodup_append] at hd;rw[List.pairwise_append];refine⟨h1.oN hd.1,h2.oN hd.2.1,fun p hp q hq b hb aL=>?_⟩;obtain⟨k,hk,hf⟩:=((h1.each p hp).new b hb).2;obtain⟨k',bL,mb⟩:=((h2.each q hq).new b aL).2;obtain⟨_,_,_,_,e1,m1⟩:=n1 k hk;obtain⟨_,_,_,_,e2,m2⟩:=n2 k' bL;exact H.ZZ (hd.2.2 k hk k' bL) e1 e2 m1 m2 hf mb
theorem wa.append {ns lK:List Nat} (h1:wa h ns) (h2:wa h lK):wa h (ns++lK):=fun n hn=>(List.mem_append.1 hn).elim (h1 n) (h2 n)
theorem HR.vO (H:HR B Ex.no w G h used []):∀{cs:List ah} {xs:List C} {ns:List Nat} {vs:List Value},vO h cs=some (xs,ns)->dj w G h cs vs->
  ∃bD:List PC,bD.map PC.er=xs/\bD.map PC.val=vs/\uB B w G h ns bD/\wa h ns
 |[],xs,ns,vs,hx,hc=>by
  simp only[Am.vO] at hx;injection hx with hx;injection hx with h1 h2;subst h1 h2;have:vs=[]:=List.eq_nil_of_length_eq_zero (by simpa using hc.1);subst this;exact⟨[],rfl,rfl,⟨by simp,fun _=>List.Pairwise.nil⟩,fun n hn=>by simp at hn⟩
 |c::cs,xs,ns,vs,hx,hc=>by
  simp only[Am.vO] at hx;split at hx
  ·rename_i x ns1 av ns2 e1 e2;injection hx with hx;injection hx with h1 h2;subst h1 h2;obtain⟨hlen,cG⟩:=hc;match vs,hlen with
   |v::vs,hlen=>
    obtain⟨pc,a1,a2,a3,a4,_⟩:=H.jL e1 (cG 0 c v rfl rfl).2;obtain⟨bD,b1,b2,b3,b4⟩:=H.vO e2 (cs:=cs) (vs:=vs) ⟨by simpa using hlen,fun j c u h1 h2=>cG (j+1) c u h1 h2⟩;have qR:uB B w G h ns1 [pc]:=⟨fun q hq=>by simp at hq;subst hq;exact a3,fun _=>by simp⟩;exact⟨pc::bD,by simp[a1,b1],by simp[a2,b2],uB.append H qR b3 a4 b4,a4.append b4⟩
  ·cases hx
theorem HR.sV (H:HR B Ex.no w G h used []):∀{xs:List aj} {ds:List Dv} {ns:List Nat} {vs:List Value},sV h xs=some (ds,ns)->vs.length=xs.length->
  (∀(j:Nat) (x:aj) (v:Value),xs[j]? =some x->vs[j]? =some v->RA w G h x v)->
  ∃bt:List (K×List PC),bt.map (fun p=>(p.1,p.2.map PC.er))=ds/\bt.map sW=vs/\(∀p∈bt,p.1≠ .ptr/\(p.1=.one->p.2.length=1))/\uB B w G h ns (bt.flatMap (·.2))/\wa h ns
 |[],ds,ns,vs,hx,hl,hc=>by
  simp only[Am.sV] at hx;injection hx with hx;injection hx with h1 h2;subst h1 h2;have:vs=[]:=List.eq_nil_of_length_eq_zero (by simpa using hl);subst this;exact⟨[],rfl,rfl,by simp,⟨by simp,fun _=>List.Pairwise.nil⟩,fun n hn=>by simp at hn⟩
 |x::xs,ds,ns,vs,hx,hl,hc=>by
  simp only[Am.sV] at hx;split at hx
  ·rename_i ag cs lW;split at hx
   ·rename_i ys ns1 uP ns2 e1 e2;injection hx with hx;injection hx with h1 h2;subst h1 h2;match vs,hl with
    |v::vs,hl=>
     obtain⟨bD,a1,a2,a3,a4⟩:=H.vO e1 ((hc 0 x v rfl rfl).cells lW);obtain⟨bt,b1,b2,b3,b4,b5⟩:=H.sV e2 (xs:=xs) (vs:=vs) (by simpa using hl) (fun j x v h1 h2=>hc (j+1) x v h1 h2);have AO:=hc 0 x v rfl rfl;cases ag with
     |true=>
      have hv:sW (K.agg,bD)=v:=by
       cases x with
       |one c=>cases c<;>simp[aj.cells?] at lW
       |agg cs'=>
        obtain⟨us,e,_⟩:∃us:List Value,v=.agg us.toArray/\dj w G h cs' us:=AO;subst e;simp only[sW,a2];simp[Value.cells]
       |bK l=>simp[aj.cells?] at lW
      refine⟨(K.agg,bD)::bt,by simp[a1,b1],by simp[hv,b2],fun p hp=>?_,?_,a4.append b5⟩
      ·cases hp with
       |head=>exact⟨by simp,fun e=>by cases e⟩
       |tail _ hp=>exact b3 p hp
      ·simpa using uB.append H a3 b4 a4 b5
     |false=>
      have nf:∃c,x=.one c/\cs=[c]:=by
       cases x with
       |one c=>cases c<;>simp[aj.cells?] at lW<;>exact⟨_,rfl,lW.symm⟩
       |agg cs'=>simp[aj.cells?] at lW
       |bK l=>simp[aj.cells?] at lW
      obtain⟨c,rfl,rfl⟩:=nf;have fN:c≠ .bq:=by rintro rfl;simp[aj.cells?] at lW
      have h1c:=(AO.fu fN).2;have oQ:v.cells.toList=[v]:=by cases v<;>first|rfl|(simp[Value.oneCell'] at h1c)
      rw[oQ] at a2;match bD,a2 with
      |[pc],a2=>
       have hv:sW (K.one,[pc])=v:=by simpa[sW] using a2
       refine⟨(K.one,[pc])::bt,by simp[<-a1,b1],by simp[hv,b2],fun p hp=>?_,?_,a4.append b5⟩
       ·cases hp with
        |head=>exact⟨by simp,fun _=>rfl⟩
        |tail _ hp=>exact b3 p hp
       ·simpa using uB.append H a3 b4 a4 b5
   ·cases hx
  ·cases hx
end
def Ae:Dv->aj
 |(.one,[x])=>.one (.c x)
 |(.one,_)=>.one .bq
 |(.agg,xs)=>.agg (xs.map .c)
 |(.ptr,xs)=>.one (.dg xs 0)
def vo:Nat->List Dv->(Nat->aj)
 |_,[]=>yC
 |k,d::ds=>az (vo (k+1) ds) k (Ae d)
def Eb (ds:List Dv):St:={env:=vo 0 ds,h:=Dn,used:=fun n=>Nat.ble aH n}
def M7 (T:aQ) (mc:jS) (ax:List br) (ds:List Dv):Option (List Dv):=
 match dS T mc (Eb ds) with
 |some (.fq σ)=>σ.vN ax
 |some (.ret σ)=>σ.vN ax
 |_=>none
section
variable {B:Nat} {E:Ex} {w0 w w':World} {G G':Gh} {N:Nat} {h h':Nat->Option aq} {used:Nat->Bool}
variable {P:Program} {T:aQ} {a:Act} {σ σ':St} {Q:Exit->Act->World->Prop}
theorem SG:∀(ds:List Dv) (k n:Nat),vo k ds n=if k<=n then(match ds[n - k]? with|some d=>Ae d|none=>.one .bq) else .one .bq
 |[],k,n=>by simp[vo,yC]
 |d::ds,k,n=>by
  simp only[vo,kg,SG ds];by_cases h:n=k
  ·subst h;simp
  ·by_cases h2:k<=n
   ·have h3:k+1<=n:=by omega
    have h4:n - k=(n - (k+1))+1:=by omega
    simp[h,h2,h3,h4]
   ·have h3:¬k+1<=n:=by omega
    simp[h,h2,h3]
def Ra (w:World):Gh:=⟨fun b=>b<w.heap.size,fun _=>default⟩
theorem ahx {d:Dv} {v:Value} (hd:Cg w d v):RA w (Ra w) Dn (Ae d) v:=by
 have cells:∀{bD:List PC},(∀pc∈bD,Good w pc)->dj w (Ra w) Dn ((bD.map PC.er).map .c) (bD.map PC.val):=by
  intro bD hg;refine⟨by simp,fun j c u hj hu=>?_⟩;simp only[List.getElem?_map,List.map_map] at hj hu;cases hp:bD[j]? with
  |none=>rw[hp] at hj;cases hj
  |some pc=>
   rw[hp] at hj hu;simp at hj hu;subst hj;subst hu;have hgp:=hg pc (List.mem_of_getElem? hp);exact⟨PC.jP pc,pc,rfl,rfl,hgp,fun b hb=>hgp.lt hb⟩
 obtain⟨k,xs⟩:=d;cases k with
 |one=>
  obtain⟨bD,p1,p2,p3⟩:=hd;have p1:bD.map PC.er=xs:=p1;subst p1;match bD,p3 with
  |[pc],p3=>
   simp at p3;subst p3;exact RA.fC (PC.jP pc) ⟨pc,rfl,rfl,p2 pc (by simp),fun b hb=>(p2 pc (by simp)).lt hb⟩
 |agg=>
  obtain⟨bD,p1,p2,p3⟩:=hd;have p1:bD.map PC.er=xs:=p1;subst p1;exact⟨_,p3,cells p2⟩
 |ptr=>
  obtain⟨bD,b,o,p1,p2,p3,p4⟩:=hd;have p1:bD.map PC.er=xs:=p1;subst p1 p2;exact RA.fC rfl ⟨b,o,bD,by simp,rfl,p3,fun j c hj=>⟨(p4 j c hj).1,(p4 j c hj).2,fun b' aL=>(p4 j c hj).2.lt aL⟩⟩
theorem ahy {d:Dv} {m:Nat}:¬(Ae d).ref m:=by
 obtain⟨k,xs⟩:=d;cases k with
 |one=>match xs with
  |[]=>exact id
  |[x]=>exact id
  |_::_::_=>exact id
 |agg=>
  rintro⟨c,hc,h⟩;obtain⟨y,_,rfl⟩:=List.mem_map.1 hc;exact h
 |ptr=>exact id
theorem R.init {ds:List Dv} {vals:List Value} (ha:FB w ds vals) (hN:ds.length<=N):
  R w.heap.size Ex.no w N (Eb ds) {tmps:=vals.toArray++Array.replicate (N - vals.toArray.size) undef,defers:=[]} w (Ra w):=by
 obtain⟨hl,cG⟩:=ha;refine⟨rfl,by simp;omega,fun s=>?_,fun s n hn=>?_,?_,Fr.refl _ _ _ (Nat.le_refl _),fun n p b hp=>(by cases hp),fun n hn=>Nat.ble_eq_true_of_le hn⟩
 ·show RA w _ Dn (vo 0 ds s) _;rw[SG];simp only[Nat.zero_le,if_true,Nat.sub_zero];cases hs:ds[s]? with
  |none=>exact Or.inl rfl
  |some d=>
   have gY:s<vals.length:=by rw[hl];exact(List.getElem?_eq_some_iff.1 hs).1
   have hv:vals[s]? =some vals[s]:=List.getElem?_eq_getElem gY;have:(vals.toArray++Array.replicate (N - vals.toArray.size) undef).getD s undef=vals[s]:=by
    simp[Array.getD_eq_getD_getElem?,Array.getElem?_append,gY]
   rw[this];exact ahx (cG s d _ hs hv)
 ·have bu:(vo 0 ds s).ref n:=hn;rw[SG] at bu;simp only[Nat.zero_le,if_true,Nat.sub_zero] at bu;cases hs:ds[s]? with
  |none=>rw[hs] at bu;exact absurd bu id
  |some d=>rw[hs] at bu;exact absurd bu ahy
 ·have h0:∀n,(Eb ds).h n=none:=fun n=>rfl;refine⟨fun n hn=>absurd (h0 n) hn,fun m cs c n hm=>?_,fun n cs hn=>?_,fun n gr m sz xs hn=>?_,fun n hn=>absurd (h0 n) hn,fun n n' hn=>absurd (h0 n) hn,fun b hb=>hb,fun b _=>.inr (.inr trivial),
   fun n n' gr m sz xs bo m' aF av hn=>?_,fun n gr sz xs hn=>?_,?_,?_,?_⟩
  ·rw[h0] at hm;cases hm
  ·rw[h0] at hn;cases hn
  ·rw[h0] at hn;cases hn
  ·rw[h0] at hn;cases hn
  ·rw[h0] at hn;cases hn
  ·intro i pc hi;simp at hi
  ·intro i j pc dC b _ hi;simp at hi
  ·intro i pc n gr m sz xs b hi;simp at hi
theorem asU (r:R B E w0 N σ a w G) {t sz:Nat} {ag:Bool} {ty:TypeId} {p:ah} {cs:List ah} (fZ:Dc P ty ag sz=true) (hp:σ.env t=.one p) (hx:loadAt σ.h p sz=some cs):
  ∃v,(xD a.tmps (.cell t ty)).run P w=.ok v w/\RA w G σ.h (oD ag cs) v:=by
 have hv:=r.env t;have me:=r.pC t;rw[hp] at hv me;have kO:p≠ .bq:=by rintro rfl;simp[Am.loadAt] at hx
 obtain⟨b,of,vs,h1,h2,h3,h4,h5⟩:=r.hr.loadAt hx (hv.fu kO).1 (fun m hm=>me m hm);have RO:∀n:Nat,n=vs.length->(loadCells (ad b of) n).run P w=.ok vs.toArray w:=fun n hn=>by
  subst hn;exact run_loadCells_list w (ad b of) vs (fun j u hj=>by rw[qz];exact h3 j u hj)
 unfold Dc at fZ;cases hu:P.underlying ty with
 |none=>rw[hu] at fZ;simp at fZ
 |some d=>
  cases hi:P.info? ty with
  |none=>rw[hu,hi] at fZ;cases d<;>simp at fZ
  |some i=>
   rw[hu,hi] at fZ;have cf:(ag=true/\i.size=sz/\(isAgg ty).run P w=.ok true w)\/(ag=false/\sz=1/\(isAgg ty).run P w=.ok false w):=by
    cases d<;>simp at fZ<;>simp[isAgg,run_underlying hu,fZ]
   rcases cf with⟨rfl,e1,e2⟩|⟨rfl,e1,e2⟩
   ·refine⟨.agg vs.toArray,?_,vs,rfl,h4⟩;simp[xD,h1,loadVar,asAddr,e2,sizeOf,typeInfo,hi,RO i.size (by omega)]
   ·subst e1;match vs,h2 with
    |[u],_=>
     have fi:∃c,cs=[c]:=by
      have:=h4.1;match cs,this with
      |[c],_=>exact⟨c,rfl⟩
     obtain⟨c,rfl⟩:=fi;have gW:=h3 0 u rfl;simp only[Nat.add_zero] at gW;exact⟨u,by simp[xD,h1,loadVar,asAddr,e2,gW],.inr h4⟩
theorem EW (r:R B E w0 N σ a w G):∀{rs:List ResultVar} {ms:List br} {vs:List aj},mF P rs ms=true->σ.qp ms=some vs->
  ∃us:List Value,(rs.mapM (xD a.tmps)).run P w=.ok us w/\us.length=vs.length/\us.length=rs.length/\∀(j:Nat) (x:aj) (v:Value),vs[j]? =some x->us[j]? =some v->RA w G σ.h x v
 |[],[],vs,hc,hx=>by
  simp only[St.qp] at hx;injection hx with hx;subst hx;exact⟨[],by simp,rfl,rfl,by simp⟩
 |.tmp t::rs,.tmp t'::ms,vs,hc,hx=>by
  simp only[mF,Bool.and_eq_true,beq_iff_eq] at hc;obtain⟨rfl,hc⟩:=hc;simp only[St.qp] at hx;split at hx
  ·rename_i vs' e;injection hx with hx;subst hx;obtain⟨us,u1,u2,Wu,u3⟩:=EW r hc e;refine⟨a.tmps.getD t undef::us,by simp[xD,u1],by simp[u2],by simp[Wu],fun j x v hj hv=>?_⟩;cases j with
   |zero=>simp only[List.getElem?_cons_zero,Option.some.injEq] at hj hv;subst hj;subst hv;exact r.env t
   |succ j=>exact u3 j x v (by simpa using hj) (by simpa using hv)
  ·cases hx
 |.cell t ty::rs,.cell t' sz ag::ms,vs,hc,hx=>by
  simp only[mF,Bool.and_eq_true,beq_iff_eq] at hc;obtain⟨⟨rfl,fZ⟩,hc⟩:=hc;simp only[St.qp] at hx;split at hx
  ·rename_i p hp;split at hx
   ·rename_i cs vs' e1 e2;injection hx with hx;subst hx;obtain⟨us,u1,u2,Wu,u3⟩:=EW r hc e2;obtain⟨v0,v1,v2⟩:=asU r fZ hp e1;refine⟨v0::us,by simp[v1,u1],by simp[u2],by simp[Wu],fun j x v hj hv=>?_⟩;cases j with
    |zero=>simp only[List.getElem?_cons_zero,Option.some.injEq] at hj hv;subst hj;subst hv;exact v2
    |succ j=>exact u3 j x v (by simpa using hj) (by simpa using hv)
   ·cases hx
  ·cases hx
 |[],_::_,_,hc,_=>by simp[mF] at hc
 |.tmp _::_,[],_,hc,_=>by simp[mF] at hc
 |.cell _ _::_,[],_,hc,_=>by simp[mF] at hc
 |.tmp _::_,.cell _ _ _::_,_,hc,_=>by simp[mF] at hc
 |.cell _ _::_,.tmp _::_,_,hc,_=>by simp[mF] at hc
theorem arT {bt:List (K×List PC)}:EF (bt.map sW)=xG bt:=by
 match bt with
 |[]=>rfl
 |[p]=>rfl
 |p::q::bt=>rfl
theorem adY (r:R B Ex.no w0 N σ a w G) {fn:Func} {ms:List br} {ds:List Dv} (hc:mF P fn.results.toList ms=true) (hx:σ.vN ms=some ds):
  ∃bt:List (K×List PC),bt.map (fun p=>(p.1,p.2.map PC.er))=ds/\(results fn a.tmps).run P w=.ok (xG bt) w/\(∀p∈bt,p.1≠ .ptr/\(p.1=.one->p.2.length=1))/\
   wb w B (bt.flatMap (·.2)):=by
 unfold St.vN at hx;split at hx
 ·rename_i vs e1;split at hx
  ·rename_i uP ns e2;split at hx
   ·rename_i fB;injection hx with hx;subst hx;obtain⟨us,u1,u2,_,u3⟩:=EW r hc e1;obtain⟨bt,p1,p2,p3,p4,p5⟩:=r.hr.sV e2 u2 u3;refine⟨bt,p1,?_,p3,⟨fun pc bi=>(p4.each pc bi).eG,fun pc bi b hb=>((p4.each pc bi).new b hb).1,fun i j pc dC b iq hi hj hb=>?_⟩⟩
    ·rw[Ia fn a.tmps u1,<-p2,arT]
    ·have hp:=p4.oN fB;rw[List.pairwise_iff_getElem] at hp;obtain⟨li,ei⟩:=List.getElem?_eq_some_iff.1 hi;obtain⟨lj,ej⟩:=List.getElem?_eq_some_iff.1 hj;subst ei;subst ej;rcases Nat.lt_or_gt_of_ne iq with cu|cu
     ·exact hp i j li lj cu b hb
     ·exact fun aL=>hp j i lj li cu b aL hb
   ·cases hx
  ·cases hx
 ·cases hx
def EC (h:Nat->Option aq):ah->Bool
 |.sl n _ 0 _=>match h n with
  |some (.row true .live _ _)=>true
  |_=>false
 |_=>false
def St.BN (σ:St) (ms:List br):Option (List Dv):=
 match σ.qp ms with
 |some [.one c]=>match jL σ.h c with
  |some (x,_)=>if EC σ.h c=true then some [(.one,[x])] else none
  |none=>none
 |_=>none
def runN (T:aQ) (mc:jS) (ax:List br) (ds:List Dv):Option (List Dv):=
 match dS T mc (Eb ds) with
 |some (.fq σ)=>σ.BN ax
 |some (.ret σ)=>σ.BN ax
 |_=>none
theorem asw (r:R B Ex.no w0 N σ a w G) {fn:Func} {ms:List br} {ds:List Dv} (hc:mF P fn.results.toList ms=true) (hx:σ.BN ms=some ds):
  ∃(sz cap:Nat) (x0:Option Addr) (xs:List (List PC)),ds=[(.one,[(PC.list sz x0 cap xs).er])]/\(results fn a.tmps).run P w=.ok (PC.list sz x0 cap xs).val w/\wb w B [PC.list sz x0 cap xs]/\pJ w sz xs:=by
 unfold St.BN at hx;split at hx
 ·rename_i c e1;split at hx
  ·rename_i x ns e2;split at hx
   ·rename_i oS;injection hx with hx;subst hx;obtain⟨us,u1,u2,_,u3⟩:=EW r hc e1;match us,u2 with
    |[u],_=>
    have hv:=u3 0 _ u rfl rfl;have fN:c≠ .bq:=by rintro rfl;simp[Am.jL] at e2
    obtain⟨pc,a1,a2,a3,_,a5⟩:=r.hr.jL e2 (hv.fu fN).1;cases c with
    |sl n sz lo len=>
     cases lo with
     |succ lo=>simp[EC] at oS
     |zero=>
      simp only[EC] at oS;split at oS
      ·rename_i rs xs hn;obtain⟨x0,cap,bi⟩:=a5 n sz len true .live rs xs rfl hn;subst bi;refine⟨rs,cap,x0,_,by rw[a1],?_,⟨fun pc bi=>?_,fun pc bi b hb=>?_,fun i j p q b iq hi hj=>?_⟩,fun k p hk=>?_⟩
       ·rw[Ia fn a.tmps u1,a2];rfl
       ·simp at bi;subst bi;exact a3.eG
       ·simp at bi;subst bi;exact(a3.new b hb).1
       ·exfalso;cases i with
        |zero=>cases j with
         |zero=>exact iq rfl
         |succ j=>simp at hj
        |succ i=>simp at hi
       ·refine(r.hr.row n true .live rs xs hn).nr rfl rfl k p ?_;obtain⟨e,he,hj⟩:=hk;rw[List.getElem?_take] at he;split at he
        ·exact⟨e,he,hj⟩
        ·cases he
      ·cases oS
    |_=>simp[EC] at oS
   ·cases hx
  ·cases hx
 ·cases hx
theorem ap9 (hT:jT P T) (hm:P.follows .mixedOrders=true) {f:FuncId} {fn:Func} {c:Code} {mc:jS} {ms:List br} {M:List Dv->Option (List Dv)} (hf:P.funcs[f]? =some fn) (hb:fn.body=some c)
  (hc:iR P fn.ntmps c mc=true) (hr:mF P fn.results.toList ms=true) (hM:∀ds rs,M ds=some rs->ds.length<=fn.ntmps/\runN T mc ms ds=some rs):v9 P f M:=by
 intro ds rs jl w vals ha;obtain⟨hN,bE⟩:=hM ds rs jl;refine calls_of_wp hf hb ?_;have r0:=R.init (N:=fn.ntmps) ha hN;unfold runN at bE;have gF:∀{σ:St} {a:Act} {w':World} {G:Gh},σ.BN ms=some rs->R w.heap.size Ex.no w fn.ntmps σ a w' G->a.defers=[]/\∃v,(results fn a.tmps).run P w'=.ok v w'/\
   ∃(sz cap:Nat) (x0:Option Addr) (xs:List (List PC)),rs=[(.one,[(PC.list sz x0 cap xs).er])]/\(Ending.returned v)=.returned (PC.list sz x0 cap xs).val/\wb w' w.heap.size [PC.list sz x0 cap xs]/\Fr w.heap.size Ex.no w w'/\pJ w' sz xs:=by
  intro σ a w' G hx r;obtain⟨sz,cap,x0,xs,p1,p2,p3,p4⟩:=asw r hr hx;exact⟨r.defers,_,p2,sz,cap,x0,xs,p1,rfl,p3,r.fr,p4⟩
 split at bE
 ·rename_i σ e;exact kL hT hm mc hc e r0 fun a w' G r=>gF bE r
 ·rename_i σ e;exact kL hT hm mc hc e r0 fun a w' G r=>gF bE r
 ·cases bE
theorem ar8 (hT:jT P T) (hm:P.follows .mixedOrders=true) {f:FuncId} {fn:Func} {c:Code} {mc:jS} {ms:List br} {M:List Dv->Option (List Dv)} (hf:P.funcs[f]? =some fn) (hb:fn.body=some c)
  (hc:iR P fn.ntmps c mc=true) (hr:mF P fn.results.toList ms=true) (hM:∀ds rs,M ds=some rs->ds.length<=fn.ntmps/\M7 T mc ms ds=some rs):dh P f M:=by
 intro ds rs jl w vals ha;obtain⟨hN,bE⟩:=hM ds rs jl;refine calls_of_wp hf hb ?_;have r0:=R.init (N:=fn.ntmps) ha hN;unfold M7 at bE;have gF:∀{σ:St} {a:Act} {w':World} {G:Gh},σ.vN ms=some rs->R w.heap.size Ex.no w fn.ntmps σ a w' G->a.defers=[]/\∃v,(results fn a.tmps).run P w'=.ok v w'/\
   ∃bt:List (K×List PC),bt.map (fun p=>(p.1,p.2.map PC.er))=rs/\(Ending.returned v)=.returned (xG bt)/\(∀p∈bt,p.1≠ .ptr/\(p.1=.one->p.2.length=1))/\
   wb w' w.heap.size (bt.flatMap (·.2))/\Fr w.heap.size Ex.no w w':=by
  intro σ a w' G hx r;obtain⟨bt,p1,p2,p3,p4⟩:=adY r hr hx;exact⟨r.defers,_,p2,bt,p1,rfl,p3,p4,r.fr⟩
 split at bE
 ·rename_i σ e;exact kL hT hm mc hc e r0 fun a w' G r=>gF bE r
 ·rename_i σ e;exact kL hT hm mc hc e r0 fun a w' G r=>gF bE r
 ·cases bE
end

def iB:Nat->List (Option Mode)->List C->List ah
 |c,some _::fs,.list sz xs::cs=>.sl (aH+c) sz 0 xs.length::iB (c+1) fs cs
 |c,some _::fs,x::cs=>.bq::iB (c+1) fs cs
 |c,none::fs,x::cs=>.c x::iB c fs cs
 |c,[],cs=>cs.map .c
 |c,_::_,[]=>[]
def FW (c:Nat) (s:List (Option Mode)) (xs:List C):ah:=
 match s with
 |[]=>.dg xs 0
 |_::_=>match xs.getLast? with
  |some (.list sz l)=>.cH xs 0 (xs.length - 1) (aH+c) sz l.length
  |_=>.bq
def qB (c:Nat) (s:List (Option Mode)):Dv->aj
 |(.one,xs)=>match iB c s xs with
  |[x]=>.one x
  |_=>.one .bq
 |(.agg,xs)=>.agg (iB c s xs)
 |(.ptr,xs)=>.one (FW c s xs)
def nz:Nat->Nat->aK->List Dv->(Nat->aj)
 |_,_,_,[]=>yC
 |k,c,[],d::ds=>az (nz (k+1) c [] ds) k (qB c [] d)
 |k,c,s::sig,d::ds=>az (nz (k+1) (c+(ft s d.2).length) sig ds) k (qB c s d)
def lM:Mode×C->Option aq
 |(m,.list sz xs)=>some (.row false m sz xs)
 |_=>none
def oZ (sig:aK) (ds:List Dv):St:=
 {env:=nz 0 0 sig ds
  h:=fun n=>if aH<=n then((eI sig (ds.map (·.2)))[n - aH]?).bind lM else none
  used:=fun n=>Nat.ble aH n}
def St.ld (σ:St):St:={σ with h:=fun n=>if aH<=n then none else σ.h n}
def BJ (σ:St) (q:Nat) (x:Mode×C):Option C:=
 match x.2,σ.h (aH+q) with
 |.list sz xs,some (.row _ m' aF av)=>if m'=x.1/\aF=sz/\av.length=xs.length/\uR x.1 av=true/\av.map (fun e=>e.map C.sD)=xs.map (fun e=>e.map C.sD) then some (.list sz av) else none
 |_,_=>none
def vK (σ:St):Nat->List (Mode×C)->Option (List C)
 |_,[]=>some []
 |q,x::l=>match BJ σ q x,vK σ (q+1) l with
  |some y,some ys=>some (y::ys)
  |_,_=>none
def St.EP (σ:St) (ms:List br) (fl:List (Mode×C)):Option (List Dv×List C):=
 match σ.ld.vN ms,vK σ 0 fl with
 |some rs,some d7=>some (rs,d7)
 |_,_=>none
def M8 (T:aQ) (mc:jS) (ax:List br) (sig:aK) (ds:List Dv):Option (List Dv×List C):=
 match dS T mc (oZ sig ds) with
 |some (.fq σ)=>σ.EP ax (eI sig (ds.map (·.2)))
 |some (.ret σ)=>σ.EP ax (eI sig (ds.map (·.2)))
 |_=>none
section
variable {B:Nat} {E:Ex} {w0 w w':World} {G G':Gh} {N:Nat} {h h':Nat->Option aq} {used:Nat->Bool}
variable {P:Program} {T:aQ} {a:Act} {σ σ':St} {Q:Exit->Act->World->Prop}
def ox:PC->PB
 |.list _ a cap []=>⟨true,0,0,cap,[],a⟩
 |.list _ (some a) cap (e::xs)=>⟨false,a.block,a.off,cap,e::xs,none⟩
 |_=>default
theorem EH (sz:Nat) (a:Option Addr) (cap:Nat):ox (.list sz a cap [])=⟨true,0,0,cap,[],a⟩:=by
 cases a<;>rfl
theorem xz {sz b o cap:Nat} {xs:List (List PC)} (h:xs≠[]):ox (.list sz (some (ad b o)) cap xs)=⟨false,b,o,cap,xs,none⟩:=by
 cases xs with
 |nil=>exact absurd rfl h
 |cons e xs=>rfl
theorem Good.cases {w:World} {sz cap:Nat} {a:Option Addr} {xs:List (List PC)} (h:Good w (.list sz a cap xs)):xs=[]\/(xs≠[]/\xs.length<=cap/\∃b o,a=some (ad b o)):=by
 cases h with
 |nil _ _ _ h=>exact .inl rfl
 |cons _ b o _ _ h1 h2=>exact .inr ⟨h1,h2,b,o,rfl⟩
def uQ (fl:List (Mode×PC)):Ex:=
 ⟨fun b=>∃x∈fl,aZ b x.2,fun n=>if aH<=n then(fl[n - aH]?).map fun x=>ox x.2 else none,fun n p h=>(by
  by_cases hn:aH<=n
  ·exact hn
  ·rw[if_neg hn] at h;cases h),fun _=>True⟩
def nR (w:World) (fl:List (Mode×PC)):Gh:=
 ⟨fun b=>b<w.heap.size/\¬∃x∈fl,aZ b x.2,fun n=>match fl[n - aH]? with|some x=>ox x.2|none=>default⟩
def oR (fl:List (Mode×PC)):Nat->Option aq:=fun n=>if aH<=n then((fl.map fun x=>(x.1,x.2.er))[n - aH]?).bind lM else none
theorem sf {fl:List (Mode×PC)} {n:Nat} {blk:aq} (hn:oR fl n=some blk):aH<=n/\∃m sz a cap xs,fl[n - aH]? =some (m,.list sz a cap xs)/\blk=.row false m sz (xs.map fun e=>e.map PC.er):=by
 unfold oR at hn;split at hn
 ·rename_i hp;refine⟨hp,?_⟩;rw[List.getElem?_map] at hn;cases hf:fl[n - aH]? with
  |none=>rw[hf] at hn;cases hn
  |some x=>
   rw[hf] at hn;obtain⟨m,pc⟩:=x;cases pc with
   |int k i=>simp[PC.er,lM] at hn
   |bool b=>simp[PC.er,lM] at hn
   |list sz a cap xs=>
    simp[PC.dV,lM] at hn;exact⟨m,sz,a,cap,xs,rfl,hn.symm⟩
 ·cases hn
theorem jR.IK (b o sz cap:Nat) (xs:List (List PC)) (hc:cap≠0):jR b (.list sz (some (ad b o)) cap xs):=.inr ⟨_,_,_,_,rfl,hc⟩
theorem jR.row {b sz:Nat} {a:Option Addr} {cap:Nat} {xs:List (List PC)} (h:bh b xs):jR b (.list sz a cap xs):=by
 obtain⟨k,j,c,hk,hc⟩:=h;exact .inl (.there _ _ _ _ k j c hk hc)
theorem Sep.row {sz:Nat} {a:Option Addr} {cap:Nat} {xs:List (List PC)} (h:Sep (.list sz a cap xs)):iO xs:=by
 cases h with
 |list _ _ _ _ h1 h2 h3=>exact⟨h1,h3⟩
theorem Good.rowAt {sz b o cap:Nat} {xs:List (List PC)} (h:Good w (.list sz (some (ad b o)) cap xs)):nG w b o sz xs:=by
 generalize hq:PC.list sz (some (ad b o)) cap xs=q at h;cases h with
 |int k n=>cases hq
 |bool b=>cases hq
 |nil aF a ko h0=>
  injection hq with h1 h2 h3 h4;subst h4;exact⟨by simp,by rintro k j c ⟨e,he,_⟩;simp at he,by rintro k j c ⟨e,he,_⟩;simp at he⟩
 |cons aF b' o' ko av h1 h2 h3 h4 h5 h6=>
  injection hq with e1 e2 e3 e4;injection e2 with e2;obtain⟨rfl,rfl⟩:=lz e2;subst e1 e3 e4;exact⟨h4,h5,h6⟩
theorem HR.LY {fl:List (Mode×PC)} (hg:∀x∈fl,Good w x.2) (fb:∀x∈fl,Aa w x.1 x.2) (nV:fl.Pairwise fun x y=>∀b,aZ b x.2->¬aZ b y.2):
  HR w.heap.size (uQ fl) w (nR w fl) (oR fl) (fun n=>Nat.ble aH n) []:=by
 have oN:∀{i j:Nat} {x y:Mode×PC},fl[i]? =some x->fl[j]? =some y->i≠j->∀b,aZ b x.2->¬aZ b y.2:=by
  intro i j x y hi hj iq b hb aL;obtain⟨li,ei⟩:=List.getElem?_eq_some_iff.1 hi;obtain⟨lj,ej⟩:=List.getElem?_eq_some_iff.1 hj;rw[List.pairwise_iff_getElem] at nV;subst ei;subst ej;rcases Nat.lt_or_gt_of_ne iq with h|h
  ·exact nV i j li lj h b hb aL
  ·exact nV j i lj li h b aL hb
 have gg:∀{n:Nat} {x:Mode×PC},fl[n - aH]? =some x->(nR w fl).g n=ox x.2:=by intro n x h;simp only[nR,h]
 have IK:∀{x:Mode×PC},x∈fl->(ox x.2).nl=false->aZ (ox x.2).b x.2:=by
  intro x hx hl;obtain⟨sz,a,cap,xs,e,_,_,_⟩:=(fb x hx).eK;have AZ:=hg x hx;rw[e] at hl AZ⊢;rcases AZ.cases with rfl|⟨aD,_,b,o,rfl⟩
  ·rw[EH] at hl;cases hl
  ·rw[xz aD];exact .here _ _ _ _ aD
 have T6:∀{x:Mode×PC},x∈fl->∀b,bh b (ox x.2).px->aZ b x.2:=by
  intro x hx b hb;obtain⟨sz,a,cap,xs,e,_,_,_⟩:=(fb x hx).eK;have AZ:=hg x hx;rw[e] at hb AZ⊢;rcases AZ.cases with rfl|⟨aD,_,b,o,rfl⟩
  ·rw[EH] at hb;obtain⟨k,j,c,⟨e,he,_⟩,_⟩:=hb;simp at he
  ·rw[xz aD] at hb;obtain⟨k,j,c,hk,hc⟩:=hb;exact .there _ _ _ _ k j c hk hc
 have sub:∀{n n':Nat},aH<=n->aH<=n'->n≠n'->n - aH≠n' - aH:=by intro n n' h1 h2 h3;omega
 refine⟨fun n hn=>?_,fun m cs c n hm=>?_,fun n cs hn=>?_,fun n gr m sz xs hn=>?_,fun n hn hl=>?_,fun n n' hn bu aD hl eQ=>?_,fun b hb=>hb.1,fun b _=>.inr (.inr trivial),fun n n' gr m sz xs bo m' aF av hn bu _ _ aD b hb=>?_,
  fun n gr sz xs hn b hb n' bu eQ=>?_,(by intro i pc hi;simp at hi),(by intro i j pc dC b _ hi;simp at hi),(by intro i pc n gr m sz xs b hi;simp at hi)⟩
 ·cases hh:oR fl n with
  |none=>exact absurd hh hn
  |some b=>exact Nat.ble_eq_true_of_le (sf hh).1
 ·obtain⟨_,m',sz,a,cap,xs,_,e⟩:=sf hm;cases e
 ·obtain⟨_,m',sz,a,cap,xs,_,e⟩:=sf hn;cases e
 ·obtain⟨hp,m',aF,a,cap,av,hf,e⟩:=sf hn;injection e with e1 e2 e3 e4;subst e1 e2 e3 e4;have hx:(m,PC.list sz a cap av)∈fl:=List.mem_of_getElem? hf;have ok:=fb _ hx;have eG:=hg _ hx;obtain⟨jd,a2,uI,gD,e,eS,mK,sj⟩:=ok.eK;injection e with e1 e2 e3 e4;subst e1 e2 e3 e4;rw[gg hf];have T7:∀b,bh b av->aZ b (PC.list sz a cap av):=fun b ⟨k,j,c,hk,hc⟩=>.there _ _ _ _ k j c hk hc;have gj:CN w.heap.size (uQ fl) w (nR w fl) av m:=by
   have jY:=Sep.row ok.sep;cases m with
   |aJ=>cases sj
   |aN=>exact⟨fun b hb=>absurd hb (vP sj b),jY⟩
   |live=>exact⟨fun b hb=>⟨fun hi=>hi.2 ⟨_,hx,T7 b hb⟩,ok.un b (T7 b hb),.inr ⟨_,hx,T7 b hb⟩⟩,jY⟩
  rcases eG.cases with rfl|⟨aD,io,b,o,rfl⟩
  ·rw[EH];exact⟨eS,rfl,fun _=>⟨rfl,fun h=>by cases h⟩,(fun h=>by cases h),(fun h=>by cases h),gj,fun h=>by cases h⟩
  ·rw[xz aD];exact⟨eS,rfl,(fun h=>by cases h),fun _=>⟨ok.un b (.here _ _ _ _ aD),Good.rowAt eG,io⟩,(fun _ h=>by cases h),gj,fun h=>by cases h⟩
 ·cases hh:oR fl n with
  |none=>exact absurd hh hn
  |some blk=>
   obtain⟨hp,m',aF,a,cap,av,hf,e⟩:=sf hh;have hx:(m',PC.list aF a cap av)∈fl:=List.mem_of_getElem? hf;rw[gg hf] at hl⊢;have ht:=IK hx hl;exact⟨fun hi=>hi.2 ⟨_,hx,ht⟩,.inr ⟨_,hx,ht⟩,((fb _ hx).un _ ht).lt⟩
 ·cases hh:oR fl n with
  |none=>exact absurd hh hn
  |some blk=>
   cases GZ:oR fl n' with
   |none=>exact absurd GZ bu
   |some ahN=>
    obtain⟨hp,m1,ug,a1,C8,td,hf,_⟩:=sf hh;obtain⟨bB,m2,jd,a2,uI,gD,mb,_⟩:=sf GZ;rw[gg hf] at hl⊢;rw[gg mb] at eQ⊢;intro he;exact oN hf mb (sub hp bB aD) _ (IK (List.mem_of_getElem? hf) hl) (he▸IK (List.mem_of_getElem? mb) eQ)
 ·obtain⟨hp,m1,ug,a1,C8,td,hf,_⟩:=sf hn;obtain⟨bB,m2,jd,a2,uI,gD,mb,_⟩:=sf bu;rw[gg hf] at hb;rw[gg mb];exact fun aL=>oN hf mb (sub hp bB aD) b (T6 (List.mem_of_getElem? hf) b hb) (T6 (List.mem_of_getElem? mb) b aL)
 ·obtain⟨hp,m1,ug,a1,C8,td,hf,_⟩:=sf hn;rw[gg hf] at hb;cases GZ:oR fl n' with
  |none=>exact absurd GZ bu
  |some ahN=>
   obtain⟨bB,m2,jd,a2,uI,gD,mb,_⟩:=sf GZ;rw[gg mb] at eQ⊢;rintro rfl;by_cases aD:n=n'
   ·subst aD;rw[hf] at mb;injection mb with mb;injection mb with _ mb;injection mb with q1 q2 q3 q4;subst q1 q2 q3 q4;have hm:=List.mem_of_getElem? hf;obtain⟨sz,a,cap,xs,e,_,mK,_⟩:=(fb _ hm).eK;have AZ:=hg _ hm;injection e with e1 e2 e3 e4;subst e1 e2 e3 e4;rcases AZ.cases with rfl|⟨aD,_,b,o,rfl⟩
    ·rw[EH] at eQ;cases eQ
    ·rw[xz aD] at hb;exact mK b o rfl hb
   ·exact oN hf mb (sub hp bB aD) _ (T6 (List.mem_of_getElem? hf) _ hb) (IK (List.mem_of_getElem? mb) eQ)
end
section
variable {B:Nat} {E:Ex} {w0 w w':World} {G G':Gh} {N:Nat} {h h':Nat->Option aq} {used:Nat->Bool}
variable {P:Program} {T:aQ} {a:Act} {σ σ':St} {Q:Exit->Act->World->Prop}
theorem QH {α:Type}:∀{s:List (Option Mode)} {xs:List α} {x:Mode×α},x∈ft s xs->x.2∈xs
 |some m::fs,y::xs,x,h=>by
  simp only[ft,List.mem_cons] at h;rcases h with rfl|h
  ·simp
  ·exact List.mem_cons_of_mem _ (QH h)
 |none::fs,y::xs,x,h=>by
  simp only[ft] at h;exact List.mem_cons_of_mem _ (QH h)
 |[],_,x,h=>by simp[ft] at h
 |some m::fs,[],x,h=>by simp[ft] at h
 |none::fs,[],x,h=>by simp[ft] at h
theorem KZ {α:Type}:∀{sig:aK} {uj:List (List α)} {x:Mode×α},x∈eI sig uj->∃xs∈uj,x.2∈xs
 |s::sig,xs::uj,x,h=>by
  simp only[eI,List.mem_append] at h;rcases h with h|h
  ·exact⟨xs,by simp,QH h⟩
  ·obtain⟨ys,h1,h2⟩:=KZ h;exact⟨ys,by simp[h1],h2⟩
 |[],_,x,h=>by simp[eI] at h
 |s::sig,[],x,h=>by simp[eI] at h
theorem Kj {fl:List (Mode×PC)} (fb:∀x∈fl,Aa w x.1 x.2) (hg:∀x∈fl,Good w x.2):∀(c:Nat) (fs:List (Option Mode)) (ps:List PC),(∀(q:Nat) (x:Mode×PC),(ft fs ps)[q]? =some x->fl[c+q]? =some x)->(∀pc∈ps,Good w pc)->
  (∀pc∈oE fs ps,∀x∈fl,∀b,aZ b pc->¬aZ b x.2)->dj w (nR w fl) (oR fl) (iB c fs (ps.map PC.er)) (ps.map PC.val)
 |c,[],ps,hq,f8,hu=>by
  simp only[iB];refine⟨by simp,fun j x u hj n6=>?_⟩;simp only[List.getElem?_map,List.map_map] at hj n6;cases hp:ps[j]? with
  |none=>rw[hp] at hj;cases hj
  |some pc=>
   rw[hp] at hj n6;simp at hj n6;subst hj;subst n6;have hm:=List.mem_of_getElem? hp;exact⟨PC.jP pc,pc,rfl,rfl,f8 pc hm,fun b hb=>⟨(f8 pc hm).lt hb,fun⟨x,hx,eJ⟩=>hu pc (by simpa[oE] using hm) x hx b hb eJ⟩⟩
 |c,f::fs,[],hq,f8,hu=>by
  cases f<;>exact⟨rfl,by intro j c u hj;simp[iB] at hj⟩
 |c,none::fs,p::ps,hq,f8,hu=>by
  have ih:=Kj fb hg c fs ps (fun q x h=>hq q x (by simpa[ft] using h)) (fun pc h=>f8 pc (by simp[h])) (fun pc h=>hu pc (by simp[oE,h]));simp only[List.map_cons,iB];refine⟨by simp[ih.1],fun j x u hj n6=>?_⟩;cases j with
  |zero=>
   simp at hj n6;subst hj;subst n6;exact⟨PC.jP p,p,rfl,rfl,f8 p (by simp),fun b hb=>⟨(f8 p (by simp)).lt hb,fun⟨x,hx,eJ⟩=>hu p (by simp[oE]) x hx b hb eJ⟩⟩
  |succ j=>exact ih.2 j x u (by simpa using hj) (by simpa using n6)
 |c,some m::fs,p::ps,hq,f8,hu=>by
  have h0:=hq 0 (m,p) (by simp[ft]);simp only[Nat.add_zero] at h0;have sq:=List.mem_of_getElem? h0;obtain⟨sz,a,cap,xs,e,eS,mK,sj⟩:=(fb _ sq).eK;simp only at e;subst e;have ih:=Kj fb hg (c+1) fs ps (fun q x h=>by have:=hq (q+1) x (by simpa[ft] using h);rwa[show c+(q+1)=c+1+q by omega] at this) (fun pc h=>f8 pc (by simp[h])) (fun pc h=>hu pc (by simpa[oE] using h));simp only[List.map_cons,PC.dV,iB];refine⟨by simp[ih.1],fun j x u hj n6=>?_⟩;cases j with
  |zero=>
   simp at hj n6;subst hj;subst n6;refine⟨PC.jP _,fun _=>?_⟩;have GX:(nR w fl).g (aH+c)=ox (.list sz a cap xs):=by simp only[nR,Nat.add_sub_cancel_left,h0]
   rw[GX];rcases(hg _ sq).cases with rfl|⟨aD,io,b,o,rfl⟩
   ·rw[EH];exact .inl ⟨rfl,rfl,rfl,rfl⟩
   ·rw[xz aD];exact .inr ⟨rfl,some (ad b o),by simp[PC.val],by simpa using io,fun _=>by simp⟩
  |succ j=>exact ih.2 j x u (by simpa using hj) (by simpa using n6)
theorem Xf {fl:List (Mode×PC)} (fb:∀x∈fl,Aa w x.1 x.2) (hg:∀x∈fl,Good w x.2) {c:Nat} {s:List (Option Mode)} {d:Dv} {v:Value} {p:PA} (hA:vW w d v p)
  (hq:∀(q:Nat) (x:Mode×PC),(ft s p.ps)[q]? =some x->fl[c+q]? =some x) (hu:∀pc∈oE s p.ps,∀x∈fl,∀b,aZ b pc->¬aZ b x.2) (hp:p.k=.ptr->zB s p.ps.length/\∀x∈fl,¬aZ p.b x.2):
  RA w (nR w fl) (oR fl) (qB c s d) v:=by
 obtain⟨k,ps,b,o⟩:=p;obtain⟨rfl,f8,hv⟩:=hA;cases k with
 |one=>
  have hv:ps.map PC.val=[v]:=hv;have hl:=Kj fb hg c s ps hq f8 hu;rw[hv] at hl;simp only[qB];obtain⟨x,hx⟩:∃x,iB c s (ps.map PC.er)=[x]:=by
   have:=hl.1;match hh:iB c s (ps.map PC.er),this with
   |[x],_=>exact⟨x,rfl⟩
  rw[hx] at hl⊢;exact .inr hl
 |agg=>
  have hv:v=.agg (ps.map PC.val).toArray:=hv;exact⟨_,hv,Kj fb hg c s ps hq f8 hu⟩
 |ptr=>
  obtain⟨h1,h2,h3⟩:v=.pointer (some (ad b o))/\b<w.heap.size/\∀j c,ps[j]? =some c->w.cell? (ad b (o+j))=some c.val:=hv;obtain⟨hs,w4⟩:=hp rfl;subst h1;rcases hs with rfl|⟨j,hj,rfl⟩
  rotate_left
  ·obtain⟨qs,q,rfl⟩:∃qs q,ps=qs++[q]:=⟨ps.dropLast,ps.getLast (by intro e;rw[e] at hj;simp at hj),(List.dropLast_concat_getLast _).symm⟩;have jX:qs.length=j:=by
    have:(qs++[q]).length=j+1:=hj;rw[List.length_append] at this;simpa using this
   subst jX;rw[YI] at hq;rw[agU] at hu;have h0:=hq 0 (.aN,q) rfl;rw[Nat.add_zero] at h0;have sq:=List.mem_of_getElem? h0;obtain⟨sz,a,cap,xs,e,eS,mK,sj⟩:=(fb _ sq).eK;simp only at e;subst e;have e1:qB c (List.replicate qs.length none++[some .aN]) (K.ptr,(qs++[PC.list sz a cap xs]).map PC.er)=.one (.cH ((qs++[PC.list sz a cap xs]).map PC.er) 0 qs.length (aH+c) sz xs.length):=by
    have aD:List.replicate qs.length (none:Option Mode)++[some .aN]≠[]:=by simp
    simp only[qB,FW];split
    ·rename_i hh;exact absurd hh aD
    ·simp[PC.dV]
   rw[e1];have sk:=h3 qs.length (PC.list sz a cap xs) (by simp);refine RA.fC rfl ⟨b,o,qs++[PC.list sz a cap xs],by simp,rfl,⟨h2,fun⟨x,hx,eJ⟩=>w4 x hx eJ⟩,fun i c' iq hi=>?_,_,sk,PC.jP _,fun _=>?_⟩
   ·have hi':qs[i]? =some c':=by
     by_cases cu:i<qs.length
     ·rwa[List.getElem?_append_left cu] at hi
     ·have:=(List.getElem?_eq_some_iff.1 hi).1;rw[List.length_append] at this;simp at this;omega
    have hm:=List.mem_of_getElem? hi';have bP:c'∈qs++[PC.list sz a cap xs]:=List.mem_append_left _ hm;exact⟨h3 i c' hi,f8 c' bP,fun b' aL=>⟨(f8 c' bP).lt aL,fun⟨x,hx,eJ⟩=>hu c' hm x hx b' aL eJ⟩⟩
   ·have GX:(nR w fl).g (aH+c)=ox (.list sz a cap xs):=by simp only[nR,Nat.add_sub_cancel_left,h0]
    rw[GX];rcases(hg _ sq).cases with rfl|⟨aD,io,b,o,rfl⟩
    ·rw[EH];exact .inl ⟨rfl,rfl,rfl,rfl⟩
    ·rw[xz aD];exact .inr ⟨rfl,some (ad b o),by simp[PC.val],by simpa using io,fun _=>by simp⟩
  refine RA.fC rfl ⟨b,o,ps,by simp,rfl,⟨h2,fun⟨x,hx,eJ⟩=>w4 x hx eJ⟩,fun j c hj=>?_⟩;have hm:=List.mem_of_getElem? hj;exact⟨h3 j c hj,f8 c hm,fun b' aL=>⟨(f8 c hm).lt aL,fun⟨x,hx,eJ⟩=>hu c (by simpa[oE] using hm) x hx b' aL eJ⟩⟩
theorem SD {fl:List (Mode×PC)} (fb:∀x∈fl,Aa w x.1 x.2) (hg:∀x∈fl,Good w x.2):∀(ds:List Dv) (k c:Nat) (sig:aK) (vals:List Value) (pas:List PA),vals.length=ds.length->pas.length=ds.length->
  (∀(i:Nat) (d:Dv) (v:Value) (p:PA),ds[i]? =some d->vals[i]? =some v->pas[i]? =some p->vW w d v p)->(∀(q:Nat) (x:Mode×PC),(eI sig (pas.map (·.ps)))[q]? =some x->fl[c+q]? =some x)->
  (∀pc∈mz sig (pas.map (·.ps)),∀x∈fl,∀b,aZ b pc->¬aZ b x.2)->(∀p∈pas,p.k=.ptr->∀x∈fl,¬aZ p.b x.2)->(∀(i:Nat) (p:PA) (s:List (Option Mode)),pas[i]? =some p->sig[i]? =some s->p.k=.ptr->zB s p.ps.length)->
  ∀s,RA w (nR w fl) (oR fl) (nz k c sig ds s) (if k<=s then vals.getD (s - k) undef else undef)
 |[],k,c,sig,vals,pas,l1,l2,hA,hq,hu,hp,hs,s=>by simp only[nz];exact Or.inl rfl
 |d::ds,k,c,sig,v::vals,p::pas,l1,l2,hA,hq,hu,hp,hs,s=>by
  have l1':vals.length=ds.length:=by simpa using l1
  have l2':pas.length=ds.length:=by simpa using l2
  have A0:=hA 0 d v p rfl rfl rfl;have A1:=fun i d' v' p' (h1:ds[i]? =some d') (h2:vals[i]? =some v') (h3:pas[i]? =some p')=>hA (i+1) d' v' p' (by simpa using h1) (by simpa using h2) (by simpa using h3);have f8:=A0.2.1;have hd2:d.2=p.ps.map PC.er:=by rw[A0.1]
  have shift:∀x:aj,(s≠k->RA w (nR w fl) (oR fl) x (if k+1<=s then vals.getD (s - (k+1)) undef else undef))->s≠k->RA w (nR w fl) (oR fl) x (if k<=s then(v::vals).getD (s - k) undef else undef):=by
   intro x hx w7;have:=hx w7;by_cases hk:k+1<=s
   ·rw[if_pos hk] at this;rw[if_pos (by omega),show s - k=(s - (k+1))+1 by omega];simpa using this
   ·rw[if_neg hk] at this;rw[if_neg (by omega)];exact this
  cases sig with
  |nil=>
   simp only[nz];by_cases w7:s=k
   ·subst w7;rw[bR,if_pos (Nat.le_refl _)];simp only[Nat.sub_self,List.getD_cons_zero];refine Xf fb hg A0 (fun q x h=>by simp[ft] at h) (fun pc bi=>hu pc ?_) (fun e=>⟨.inl rfl,hp p (by simp) e⟩);simp only[oE] at bi;simp[mz,bi]
   ·rw[cN _ _ _ _ w7];refine shift _ (fun _=>SD fb hg ds (k+1) c [] vals pas l1' l2' A1 (fun q x h=>by simp[eI] at h) (fun pc bi=>hu pc ?_) (fun p bB=>hp p (by simp[bB])) (fun i p s _ h=>by simp at h) s) w7;simp only[mz] at bi;simp only[List.map_cons,mz,List.flatten_cons,List.mem_append];exact .inr bi
  |cons sg sig=>
   simp only[nz];have hlen:(ft sg d.2).length=(ft sg p.ps).length:=by rw[hd2,K4,List.length_map]
   by_cases w7:s=k
   ·subst w7;rw[bR,if_pos (Nat.le_refl _)];simp only[Nat.sub_self,List.getD_cons_zero];refine Xf fb hg A0 (fun q x h=>hq q x ?_) (fun pc bi=>hu pc ?_) (fun e=>⟨hs 0 p sg rfl rfl e,hp p (by simp) e⟩)
    ·simp only[List.map_cons,eI];rw[List.getElem?_append_left (List.getElem?_eq_some_iff.1 h).1];exact h
    ·simp only[List.map_cons,mz,List.mem_append];exact .inl bi
   ·rw[cN _ _ _ _ w7];refine shift _ (fun _=>SD fb hg ds (k+1) (c+(ft sg d.2).length) sig vals pas l1' l2' A1 (fun q x h=>?_) (fun pc bi=>hu pc ?_) (fun p bB=>hp p (by simp[bB])) (fun i p s h1 h2=>hs (i+1) p s (by simpa using h1) (by simpa using h2)) s) w7
    ·have:=hq ((ft sg p.ps).length+q) x (by
      simp only[List.map_cons,eI];rw[List.getElem?_append_right (Nat.le_add_right _ _),Nat.add_sub_cancel_left];exact h)
     rw[hlen,Nat.add_assoc];exact this
    ·simp only[List.map_cons,mz,List.mem_append];exact .inr bi
 |_::_,k,c,sig,[],pas,l1,l2,hA,hq,hu,hp,hs,s=>by simp at l1
 |_::_,k,c,sig,_::_,[],l1,l2,hA,hq,hu,hp,hs,s=>by simp at l2
theorem Xg {c:Nat} {s:List (Option Mode)} {d:Dv} {m:Nat} (h:(qB c s d).ref m):aH<=m:=by
 have cW:∀(cs:List C) (c:Nat) (s:List (Option Mode)),∀x∈iB c s cs,x.ref m->aH<=m:=by
  intro cs;induction cs with
  |nil=>
   intro c s x hx;cases s with
   |nil=>simp[iB] at hx
   |cons f fs=>cases f<;>simp[iB] at hx
  |cons y cs ih=>
   intro c s x hx hr;cases s with
   |nil=>
    simp only[iB,List.mem_map] at hx;obtain⟨z,_,rfl⟩:=hx;exact absurd hr id
   |cons f fs=>
    cases f with
    |none=>
     simp only[iB,List.mem_cons] at hx;rcases hx with rfl|hx
     ·exact absurd hr id
     ·exact ih _ _ _ hx hr
    |some md=>
     cases y with
     |list sz xs=>
      simp only[iB,List.mem_cons] at hx;rcases hx with rfl|hx
      ·have hr:m=aH+c:=hr;omega
      ·exact ih _ _ _ hx hr
     |int k n=>
      simp only[iB,List.mem_cons] at hx;rcases hx with rfl|hx
      ·exact absurd hr id
      ·exact ih _ _ _ hx hr
     |bool b=>
      simp only[iB,List.mem_cons] at hx;rcases hx with rfl|hx
      ·exact absurd hr id
      ·exact ih _ _ _ hx hr
 obtain⟨k,xs⟩:=d;cases k with
 |one=>
  simp only[qB] at h;match hh:iB c s xs,h with
  |[],h=>exact absurd h id
  |[x],h=>exact cW xs c s x (by rw[hh];simp) h
  |_::_::_,h=>exact absurd h id
 |agg=>
  obtain⟨x,hx,hr⟩:=h;exact cW xs c s x hx hr
 |ptr=>
  simp only[qB,FW] at h;split at h
  ·exact absurd h id
  ·split at h
   ·have h':m=aH+c:=h;omega
   ·exact absurd h id
theorem SE:∀{ds:List Dv} {k c:Nat} {sig:aK} {s m:Nat},(nz k c sig ds s).ref m->aH<=m
 |[],k,c,sig,s,m,h=>by simp only[nz] at h;exact absurd h id
 |d::ds,k,c,[],s,m,h=>by
  simp only[nz,kg] at h;split at h
  ·exact Xg h
  ·exact SE h
 |d::ds,k,c,sg::sig,s,m,h=>by
  simp only[nz,kg] at h;split at h
  ·exact Xg h
  ·exact SE h
theorem R.LY {sig:aK} {ds:List Dv} {vals:List Value} {pas:List PA} (M:yi w sig ds vals pas) (hN:ds.length<=N):
  R w.heap.size (uQ (eI sig (pas.map (·.ps)))) w N (oZ sig ds) {tmps:=vals.toArray++Array.replicate (N - vals.toArray.size) undef,defers:=[]} w (nR w (eI sig (pas.map (·.ps)))):=by
 have jl:ds.map (·.2)=(pas.map (·.ps)).map fun l=>l.map PC.er:=by
  apply List.ext_getElem?;intro i;simp only[List.getElem?_map];cases hd:ds[i]? with
  |none=>
   have:ds.length<=i:=List.getElem?_eq_none_iff.1 hd;rw[List.getElem?_eq_none (by rw[M.l2];exact this)];rfl
  |some d=>
   have hi:=(List.getElem?_eq_some_iff.1 hd).1;have hv:vals[i]? =some (vals[i]'(by rw[M.l1];exact hi)):=List.getElem?_eq_getElem _;have hp:pas[i]? =some (pas[i]'(by rw[M.l2];exact hi)):=List.getElem?_eq_getElem _;have:=(M.at_ i d _ _ hd hv hp).1;rw[hp];simp only[Option.map_some];rw[this]
 have f8:∀p∈pas,∀pc∈p.ps,Good w pc:=by
  intro p hp pc bi;obtain⟨i,hi,rfl⟩:=List.getElem_of_mem hp;have hd:ds[i]? =some (ds[i]'(by rw[<-M.l2];exact hi)):=List.getElem?_eq_getElem _;have hv:vals[i]? =some (vals[i]'(by rw[M.l1,<-M.l2];exact hi)):=List.getElem?_eq_getElem _;exact(M.at_ i _ _ _ hd hv (List.getElem?_eq_getElem hi)).2.1 pc bi
 have hg:∀x∈eI sig (pas.map (·.ps)),Good w x.2:=by
  intro x hx;obtain⟨l,hl,n8⟩:=KZ hx;obtain⟨p,hp,rfl⟩:=List.mem_map.1 hl;exact f8 p hp _ n8
 have DQ:(oZ sig ds).h=oR (eI sig (pas.map (·.ps))):=by
  funext n;simp only[oZ,oR,jl,Gy]
 refine⟨rfl,by simp[M.l1];omega,fun s=>?_,fun s n hn=>Nat.ble_eq_true_of_le (SE hn),?_,Fr.refl _ _ _ (Nat.le_refl _),fun n p b hp hb=>?_,fun n hn=>Nat.ble_eq_true_of_le hn⟩
 ·rw[DQ];have:=SD M.ok hg ds 0 0 sig vals pas M.l1 M.l2 M.at_ (fun q x h=>by rw[Nat.zero_add];exact h) M.free M.ptr M.aqI s;simp only[Nat.zero_le,if_true,Nat.sub_zero] at this;have e:(vals.toArray++Array.replicate (N - vals.toArray.size) undef).getD s undef=vals.getD s undef:=by
   simp only[Array.getD_eq_getD_getElem?,List.getD_eq_getElem?_getD];by_cases cu:s<vals.length
   ·simp[Array.getElem?_append,cu]
   ·rw[List.getElem?_eq_none (by omega)];simp only[Array.getElem?_append,List.size_toArray,cu,if_false,Array.getElem?_replicate];split<;>rfl
  rw[e];exact this
 ·rw[DQ];exact HR.LY hg M.ok M.oN
 ·rw[DQ] at hb;obtain⟨yW,m,sz,a,cap,xs,hf,e⟩:=sf hb;have bB:(if aH<=n then((eI sig (pas.map (·.ps)))[n - aH]?).map (fun x=>ox x.2) else none)=some p:=hp
  rw[if_pos yW,hf] at bB;simp at bB;subst bB;have GX:(nR w (eI sig (pas.map (·.ps)))).g n=ox (.list sz a cap xs):=by simp only[nR,hf]
  rw[GX];exact⟨rfl,rfl,rfl,rfl,rfl,fun gr aF av _ k j pc hk hL=>⟨pc,hk,rfl,hL⟩⟩
theorem TB:∀{fl:List (Mode×C)} {q:Nat} {d7:List C},vK σ q fl=some d7->d7.length=fl.length/\∀i x,fl[i]? =some x->∃o,d7[i]? =some o/\BJ σ (q+i) x=some o
 |[],q,d7,h=>by simp only[vK] at h;injection h with h;subst h;exact⟨rfl,by simp⟩
 |y::l,q,d7,h=>by
  simp only[vK] at h;split at h
  ·rename_i o os h1 h2;injection h with h;subst h;obtain⟨i1,i2⟩:=TB h2;refine⟨by simp[i1],fun i x hx=>?_⟩;cases i with
   |zero=>simp at hx;subst hx;exact⟨o,rfl,h1⟩
   |succ i=>
    obtain⟨o',e1,e2⟩:=i2 i x (by simpa using hx);exact⟨o',by simpa using e1,by rw[show q+(i+1)=q+1+i by omega];exact e2⟩
  ·cases h
theorem aqS {q:Nat} {x:Mode×C} {o:C} (h:BJ σ q x=some o):∃sz xs gr av,x.2=.list sz xs/\σ.h (aH+q)=some (.row gr x.1 sz av)/\av.length=xs.length/\uR x.1 av=true/\av.map (fun e=>e.map C.sD)=xs.map (fun e=>e.map C.sD)/\o=.list sz av:=by
 unfold BJ at h;split at h
 ·rename_i sz xs gr m' aF av h1 h2;split at h
  ·rename_i hc;obtain⟨rfl,rfl,h3,h4,h5⟩:=hc;injection h with h;exact⟨_,xs,gr,av,h1,h2,h3,h4,h5,h.symm⟩
  ·cases h
 ·cases h
theorem ain {px:List (List PC)} (hd:(px.map fun e=>e.map PC.er).all (fun e=>e.all C.uO)=true) {k j:Nat} {c:PC} (hk:At px k j c):∀sz a cap ys,c=.list sz a cap ys->∀b,¬bh b ys:=by
 rintro sz a cap ys rfl b;obtain⟨e,he,hj⟩:=hk;simp only[List.all_eq_true,List.mem_map] at hd;have h1:=hd (e.map PC.er) ⟨e,List.mem_of_getElem? he,rfl⟩ (PC.er (.list sz a cap ys)) (List.mem_map.2 ⟨_,List.mem_of_getElem? hj,rfl⟩);rw[PC.dV] at h1;exact vP h1 b
theorem PC.amf (c:PC):c.er.sD=c.ie:=by
 cases c with
 |int k n=>rfl
 |bool b=>rfl
 |list sz a cap xs=>rw[PC.dV];rfl
theorem ati {px px':List (List PC)} (hs:(px'.map fun e=>e.map PC.er).map (fun e=>e.map C.sD)=(px.map fun e=>e.map PC.er).map (fun e=>e.map C.sD)) {k j:Nat} {c:PC} (hk:At px' k j c):
  ∃c0,At px k j c0/\c0.ie=c.ie:=by
 obtain⟨e,he,hj⟩:=hk;have h1:=congrArg (fun l=>l[k]?) hs;simp only[List.getElem?_map,he,Option.map_some] at h1;cases h0:px[k]? with
 |none=>rw[h0] at h1;cases h1
 |some e0=>
  rw[h0] at h1;simp only[Option.map_some,Option.some.injEq] at h1;have h2:=congrArg (fun l=>l[j]?) h1;simp only[List.getElem?_map,hj,Option.map_some] at h2;cases h3:e0[j]? with
  |none=>rw[h3] at h2;cases h2
  |some c0=>
   rw[h3] at h2;simp only[Option.map_some,Option.some.injEq,PC.amf] at h2;exact⟨c0,⟨e0,h0,h3⟩,h2.symm⟩
theorem At.inj {α:Type} {px:List (List α)} {k j:Nat} {c c':α} (h:At px k j c) (h':At px k j c'):c=c':=by
 obtain⟨e,h1,h2⟩:=h;obtain⟨e',h3,h4⟩:=h';rw[h1] at h3;injection h3 with h3;subst h3;rw[h2] at h4;injection h4
theorem abo {px px':List (List PC)} (hd:(px.map fun e=>e.map PC.er).all (fun e=>e.all C.uO)=true)
  (hl:∀k j pc,At px k j pc->pc.ie=true->∃dC,At px' k j dC/\dC.val=pc.val/\dC.ie=true) {b:Nat} (hb:bh b px):bh b px':=by
 obtain⟨k,j,c,hk,hc⟩:=hb;cases c with
 |int k n=>exact absurd hc aZ.aqK
 |bool x=>exact absurd hc aZ.aqJ
 |list sz a cap ys=>
  have sj:=ain hd hk sz a cap ys rfl;rw[aZ.kZ] at hc;rcases hc with⟨aD,o,rfl⟩|⟨k',j',c',bL,dt⟩
  ·obtain⟨c',h1,h2,h3⟩:=hl k j _ hk rfl;cases c' with
   |int k n=>cases h3
   |bool x=>cases h3
   |list aF a' ko ys'=>
    simp only[PC.val] at h2;injection h2 with e1 e2 e3;subst e1;refine⟨k,j,_,h1,?_⟩;rw[aZ.kZ];refine .inl ⟨fun RS=>?_,o,rfl⟩;subst RS;exact aD (List.eq_nil_of_length_eq_zero e2.symm)
  ·exact absurd ⟨k',j',c',bL,dt⟩ (sj b)
end
section
variable {B:Nat} {E:Ex} {w0 w w':World} {G G':Gh} {N:Nat} {h h':Nat->Option aq} {used:Nat->Bool}
variable {P:Program} {T:aQ} {a:Act} {σ σ':St} {Q:Exit->Act->World->Prop}
theorem xw {n:Nat} {b:aq} (hn:σ.ld.h n=some b):¬aH<=n/\σ.h n=some b:=by
 unfold St.ld at hn;simp only at hn;split at hn
 ·cases hn
 ·rename_i h;exact⟨h,hn⟩
theorem EA {n:Nat} (hn:σ.ld.h n≠none):¬aH<=n/\σ.h n≠none:=by
 cases h:σ.ld.h n with
 |none=>exact absurd h hn
 |some b=>obtain⟨a,e⟩:=xw h;exact⟨a,by rw[e];simp⟩
theorem bm.ld (u:Nat->Prop):bm w G σ.h u w G σ.ld.h:=
 ⟨fun _ h=>h,fun _ _ _=>rfl,fun n _ hn=>⟨(EA hn).2,rfl,rfl,rfl,rfl,rfl⟩,fun n gr sz xs _ hn=>⟨⟨gr,xs,(xw hn).2⟩,fun k j pc h1 h2=>⟨pc,h1,rfl,h2⟩⟩⟩
theorem R.ld (r:R B E w0 N σ a w G) (hE:∀b,E b->∃n gr m sz xs,aH<=n/\σ.h n=some (.row gr m sz xs)/\m≠ .aJ/\oP G n b/\(m=.aN->¬bh b (G.g n).px)):
  R B Ex.no w N σ.ld a w G:=by
 have H:=r.hr;have K:bm w G σ.h (fun n=>σ.used n=true) w G σ.ld.h:=bm.ld _;have big:∀n,¬aH<=n->σ.h n≠none->(G.g n).nl=false->¬E (G.g n).b:=by
  intro n hn h0 hl hb;obtain⟨q,gr,m,sz,xs,hq,h1,h2,h3,h4⟩:=hE _ hb;have aD:n≠q:=fun e=>hn (e▸hq);have mL:σ.h q≠none:=by rw[h1];simp
  rcases h3 with⟨l,e⟩|h3
  ·exact H.inj n q h0 mL aD hl l e
  ·cases m with
   |aJ=>exact h2 rfl
   |aN=>exact h4 rfl h3
   |live=>exact H.live q gr sz xs h1 _ h3 n h0 hl rfl
 have Xn:∀n gr m sz xs,¬aH<=n->σ.h n=some (.row gr m sz xs)->m≠ .aJ->∀b,bh b (G.g n).px->¬E b:=by
  intro n gr m sz xs hn h0 hm b hb he;obtain⟨q,bo,m',aF,av,hq,h1,h2,h3,h4⟩:=hE _ he;have aD:n≠q:=fun e=>hn (e▸hq);exact H.ZZ aD h0 h1 hm h2 (.inr hb) h3
 refine⟨r.defers,r.size,fun s=>(r.env s).fW K fun m hm=>r.pC s m hm,r.pC,?_,Fr.refl _ _ _ r.fr.size,fun n p b hp=>(by cases hp),r.vL⟩;refine⟨fun n hn=>H.jh n (EA hn).2,fun m cs c n hm hc hr=>H.ik m cs c n (xw hm).2 hc hr,fun n cs hn=>?_,fun n gr m sz xs hn=>?_,fun n hn hl=>?_,fun n n' hn bu=>H.inj n n' (EA hn).2 (EA bu).2,
  H.gH,fun b _=>.inr (.inr trivial),fun n n' gr m sz xs bo m' aF av hn bu=>H.gv n n' gr m sz xs bo m' aF av (xw hn).2 (xw bu).2,fun n gr sz xs hn b hb n' bu=>H.live n gr sz xs (xw hn).2 b hb n' (EA bu).2,?_,?_,?_⟩
 ·obtain⟨a1,a2,a3⟩:=H.box n cs (xw hn).2;refine⟨a1,a2,fun j c hj=>?_⟩;obtain⟨v,b1,b2,b3⟩:=a3 j c hj;exact⟨v,b1,b2,b3.fW K fun q hq=>H.ik n cs c q (xw hn).2 (List.mem_of_getElem? hj) hq⟩
 ·obtain⟨hp,h0⟩:=xw hn;have hr:=H.row n gr m sz xs h0;refine⟨hr.pos,hr.er,hr.nl,hr.eK,hr.room,?_,hr.nr⟩;have hm:=hr.mode;cases m with
  |aJ=>exact hm
  |aN=>exact⟨fun b hb=>⟨(hm.1 b hb).1,(hm.1 b hb).2.1,(hm.1 b hb).2.2.imp id fun he=>absurd he (Xn n gr .aN sz xs hp h0 (by simp) b hb)⟩,hm.2⟩
  |live=>exact⟨fun b hb=>⟨(hm.1 b hb).1,(hm.1 b hb).2.1,(hm.1 b hb).2.2.imp id fun he=>absurd he (Xn n gr .live sz xs hp h0 (by simp) b hb)⟩,hm.2⟩
 ·obtain⟨hp,h0⟩:=EA hn;obtain⟨o1,o2,o3⟩:=H.own n h0 hl;exact⟨o1,o2.imp id fun he=>absurd he (big n hp h0 hl),o3⟩
 ·intro i pc hi;simp at hi
 ·intro i j pc dC b _ hi;simp at hi
 ·intro i pc n gr m sz xs b hi;simp at hi
theorem akI {m:Mode} {px:List (List PC)} (hf:uR m (px.map fun e=>e.map PC.er)=true):(m=.aN->∀b,¬bh b px)/\m≠ .aJ/\(m=.live->(px.map fun e=>e.map PC.er).all (fun e=>e.all C.uO)=true):=by
 cases m with
 |aJ=>cases hf
 |aN=>exact⟨fun _ b=>vP hf b,(by simp),fun h=>(by cases h)⟩
 |live=>exact⟨fun h=>(by cases h),(by simp),fun _=>hf⟩
theorem PK {fl:List (Mode×PC)} (fb:∀x∈fl,Aa w0 x.1 x.2) (hg:∀x∈fl,Good w0 x.2) (r:R B (uQ fl) w0 N σ a w G) {d7:List C} (ho:vK σ 0 (fl.map fun x=>(x.1,x.2.er))=some d7)
  {i:Nat} {x:Mode×PC} (hx:fl[i]? =some x):∃q o,d7[i]? =some o/\q.er=o/\th w x.1 x.2 q/\
   ∃gr sz xs,σ.h (aH+i)=some (.row gr x.1 sz xs)/\(∀b,aZ b x.2->oP G (aH+i) b)/\(x.1=.aN->∀b,¬bh b (G.g (aH+i)).px)/\x.1≠ .aJ:=by
 obtain⟨m,pc⟩:=x;have sq:=List.mem_of_getElem? hx;obtain⟨o1,o2⟩:=TB ho;obtain⟨o,e1,e2⟩:=o2 i (m,pc.er) (by rw[List.getElem?_map,hx];rfl);rw[Nat.zero_add] at e2;obtain⟨sz,xs,gr,av,f1,f2,f3,f4,f5,rfl⟩:=aqS e2;have ok:=fb _ sq;have ala:=hg _ sq;obtain⟨rG,a0,cap,BL,rfl,eS,mK,sj⟩:=ok.eK;simp only[PC.dV] at f1;injection f1 with f1a f1b;subst f1a;subst f1b;have hr:=r.hr.row _ gr m rG av f2;have nt:(uQ fl).mT (aH+i)=some (ox (.list rG a0 cap BL)):=by
  show(if aH<=aH+i then(fl[aH+i - aH]?).map (fun x=>ox x.2) else none)=_
  rw[if_pos (Nat.le_add_right _ _),Nat.add_sub_cancel_left,hx];rfl
 obtain⟨p1,p2,p3,p4,p6,p5⟩:=r.mT _ _ _ nt f2;have DO:av=(G.g (aH+i)).px.map fun e=>e.map PC.er:=hr.er;have KY:=f4;simp only at KY;rw[DO] at KY;obtain⟨q1,q2,q3⟩:=akI KY;have hlen:(G.g (aH+i)).px.length=BL.length:=by
  have:=f3;rw[DO] at this;simpa using this
 have aaA:iO (G.g (aH+i)).px:=by
  have hm:=hr.mode;cases m with
  |aJ=>exact absurd rfl q2
  |aN=>exact hm.2
  |live=>exact hm.2
 have aD:σ.h (aH+i)≠none:=by rw[f2];simp
 rcases ala.cases with rfl|⟨fw,io,b,o,rfl⟩
 ·have aay:(G.g (aH+i)).px=[]:=List.eq_nil_of_length_eq_zero (by rw[hlen];rfl);refine⟨.list rG a0 cap [],_,e1,(by rw[PC.dV,DO,aay]),⟨rfl,.nil _ _ _ eS,ok.sep,fun _ h=>h,?_,?_⟩,gr,rG,av,f2,fun b' aL=>?_,fun hm b' aL=>q1 hm b' aL,q2⟩
  ·simp only[PC.dV];rw[DO,aay] at f4;exact f4
  ·intro sz a cap xs aF a' ko gD yL tJ;have tJ:=yL.symm.trans tJ;injection tJ with h1 h2 h3 h4;refine⟨h1.symm,h2.symm,h3.symm,by rw[h4],fun _ k j c hk hL=>?_⟩;injection yL with _ _ _ h5;subst h5;obtain⟨e,he,_⟩:=hk;simp at he
  ·rw[aZ.kZ] at aL;rcases aL with⟨aL,_⟩|⟨k,j,c,⟨e,he,_⟩,_⟩
   ·exact absurd rfl aL
   ·simp at he
 ·have wU:m=.live->∀k j c,At BL k j c->c.ie=true->∃c',At (G.g (aH+i)).px k j c'/\c'.val=c.val/\c'.ie=true:=by
   rintro rfl k j c hk hL;rw[xz fw] at p5;exact p5 gr rG av rfl k j c hk hL
  rw[xz fw] at p1 p2 p3 p4;simp only at p1 p2 p3 p4;obtain⟨l1,l2,l3⟩:=hr.eK p1;rw[p2] at l1 l2;rw[p3] at l2;rw[p4] at l3;have alE:(G.g (aH+i)).px≠[]:=by
   intro h0;rw[h0] at hlen;exact fw (List.eq_nil_of_length_eq_zero hlen.symm)
  have fO:Good w (.list rG (some (ad b o)) cap (G.g (aH+i)).px):=.cons _ _ _ _ _ alE l3 eS l2.1 l2.2.1 l2.2.2;have alM:¬bh b (G.g (aH+i)).px:=by
   intro hb;cases m with
   |aJ=>exact q2 rfl
   |aN=>exact q1 rfl b hb
   |live=>exact r.hr.live _ gr rG av f2 b hb _ aD p1 p2.symm
  have akU:m=.live->∀b',bh b' (G.g (aH+i)).px->bh b' BL:=by
   rintro rfl b' aL;refine abo (px':=BL) (q3 rfl) (fun k j c hk hL=>?_) aL;rw[DO] at f5;obtain⟨c0,hk0,qK⟩:=ati f5 hk;rw[hL] at qK;obtain⟨c1,wT,jZ,hL1⟩:=wU rfl k j c0 hk0 qK;rw[At.inj wT hk] at jZ;exact⟨c0,hk0,jZ.symm,qK⟩
  refine⟨.list rG (some (ad b o)) cap (G.g (aH+i)).px,_,e1,by rw[PC.dV,DO],⟨by simp only[PC.val,hlen],fO,.list _ _ _ _ aaA.1 (fun b1 o1 k j c he hk GM=>?_) aaA.2,fun b' aL=>?_,?_,?_⟩,gr,rG,av,f2,fun b' aL=>?_,q1,q2⟩
  ·injection he with he;obtain⟨rfl,_⟩:=lz he;exact alM ⟨k,j,c,hk,GM⟩
  ·rw[aZ.kZ] at aL;rcases aL with⟨_,o',fE⟩|hF
   ·injection fE with fE;rw[<-(lz fE).1];exact .here _ _ _ _ fw
   ·cases m with
    |aJ=>exact absurd rfl q2
    |aN=>exact absurd hF (q1 rfl b')
    |live=>
     obtain⟨k,j,c,hk,hc⟩:=akU rfl b' hF;exact .there _ _ _ _ k j c hk hc
  ·simp only[PC.dV];exact KY
  ·intro sz a ko xs aF a' auC gD yL tJ;injection yL with h1 h2 h3 h4;injection tJ with g1 g2 g3 g4;subst h1 h2 h3 h4 g1 g2 g3 g4;exact⟨rfl,rfl,rfl,hlen,wU⟩
  ·rw[aZ.kZ] at aL;rcases aL with⟨_,o',fE⟩|hF
   ·injection fE with fE;exact .inl ⟨p1,by rw[p2];exact(lz fE).1.symm⟩
   ·cases m with
    |aJ=>exact absurd rfl q2
    |aN=>exact absurd hF (vP sj b')
    |live=>exact .inr (abo sj (wU rfl) hF)
theorem api (hT:jT P T) (hm:P.follows .mixedOrders=true) {f:FuncId} {fn:Func} {c:Code} {mc:jS} {ms:List br} {sig:aK} {M:List Dv->Option (List Dv×List C)} (hf:P.funcs[f]? =some fn) (hb:fn.body=some c)
  (hc:iR P fn.ntmps c mc=true) (hr:mF P fn.results.toList ms=true) (hM:∀ds rs d7,M ds=some (rs,d7)->ds.length<=fn.ntmps/\M8 T mc ms sig ds=some (rs,d7)):rQ P f sig M:=by
 intro ds rs d7 jl w vals pas ha;obtain⟨hN,bE⟩:=hM ds rs d7 jl;refine calls_of_wp hf hb ?_;have r0:=R.LY (N:=fn.ntmps) ha hN;have f8:∀p∈pas,∀pc∈p.ps,Good w pc:=by
  intro p hp pc bi;obtain⟨i,hi,rfl⟩:=List.getElem_of_mem hp;have hd:ds[i]? =some (ds[i]'(by rw[<-ha.l2];exact hi)):=List.getElem?_eq_getElem _;have hv:vals[i]? =some (vals[i]'(by rw[ha.l1,<-ha.l2];exact hi)):=List.getElem?_eq_getElem _;exact(ha.at_ i _ _ _ hd hv (List.getElem?_eq_getElem hi)).2.1 pc bi
 have hg:∀x∈eI sig (pas.map (·.ps)),Good w x.2:=by
  intro x hx;obtain⟨l,hl,n8⟩:=KZ hx;obtain⟨p,hp,rfl⟩:=List.mem_map.1 hl;exact f8 p hp _ n8
 have Rt:ds.map (·.2)=(pas.map (·.ps)).map fun l=>l.map PC.er:=by
  apply List.ext_getElem?;intro i;simp only[List.getElem?_map];cases hd:ds[i]? with
  |none=>
   have:ds.length<=i:=List.getElem?_eq_none_iff.1 hd;rw[List.getElem?_eq_none (by rw[ha.l2];exact this)];rfl
  |some d=>
   have hi:=(List.getElem?_eq_some_iff.1 hd).1;have hv:vals[i]? =some (vals[i]'(by rw[ha.l1];exact hi)):=List.getElem?_eq_getElem _;have hp:pas[i]? =some (pas[i]'(by rw[ha.l2];exact hi)):=List.getElem?_eq_getElem _;have:=(ha.at_ i d _ _ hd hv hp).1;rw[hp];simp only[Option.map_some];rw[this]
 unfold M8 at bE;rw[Rt,Gy] at bE;generalize kv:eI sig (pas.map (·.ps))=fl at bE r0 hg;have fb:=ha.ok;rw[kv] at fb;have gF:∀{σ:St} {a:Act} {w':World} {G:Gh},σ.EP ms (fl.map fun x=>(x.1,x.2.er))=some (rs,d7)->R w.heap.size (uQ fl) w fn.ntmps σ a w' G->a.defers=[]/\∃v,(results fn a.tmps).run P w'=.ok v w'/\
   ∃bt:List (K×List PC),bt.map (fun p=>(p.1,p.2.map PC.er))=rs/\(Ending.returned v)=.returned (xG bt)/\(∀p∈bt,p.1≠ .ptr/\(p.1=.one->p.2.length=1))/\
   wb w' w.heap.size (bt.flatMap (·.2))/\Fr w.heap.size (AD fl) w w'/\
   ∃qs:List PC,qs.map PC.er=d7/\qs.length=fl.length/\∀(i:Nat) (x:Mode×PC) (q:PC),fl[i]? =some x->qs[i]? =some q->th w' x.1 x.2 q:=by
  intro σ a w' G hx r;unfold St.EP at hx;split at hx
  ·rename_i mw aqT e1 e2;injection hx with hx;injection hx with j0 eJ;subst j0 eJ;have hE:∀b,(uQ fl) b->∃n gr m sz xs,aH<=n/\σ.h n=some (.row gr m sz xs)/\m≠ .aJ/\oP G n b/\(m=.aN->¬bh b (G.g n).px):=by
    rintro b ⟨x,xb,D2⟩;obtain⟨i,hi⟩:=List.getElem?_of_mem xb;obtain⟨q,o,_,_,_,gr,sz,xs,k1,k2,k3,k4⟩:=PK fb hg r e2 hi;exact⟨aH+i,gr,x.1,sz,xs,Nat.le_add_right _ _,k1,k4,k2 b D2,fun hm=>k3 hm b⟩
   obtain⟨bt,p1,p2,p3,p4⟩:=adY (r.ld hE) hr e1;obtain⟨ol,_⟩:=TB e2;have hq:∀i:Fin fl.length,∃q,aqT[i.1]? =some (PC.er q)/\th w' (fl[i.1]).1 (fl[i.1]).2 q:=by
    intro i;obtain⟨q,o,k1,k2,k3,_⟩:=PK fb hg r e2 (List.getElem?_eq_getElem i.2);exact⟨q,by rw[k1,k2],k3⟩
   refine⟨r.defers,_,p2,bt,p1,rfl,p3,p4,⟨r.fr.os,r.fr.tape,r.fr.output,r.fr.size,r.fr.block,r.fr.jO⟩,List.ofFn fun i=>Classical.choose (hq i),?_,by simp,fun i x q hi n5=>?_⟩
   ·apply List.ext_getElem?;intro i;simp only[List.getElem?_map];by_cases hi:i<fl.length
    ·rw[List.getElem?_ofFn,dif_pos hi];exact(Classical.choose_spec (hq ⟨i,hi⟩)).1.symm
    ·rw[List.getElem?_eq_none (by simp;omega),List.getElem?_eq_none (by rw[ol];simp;omega)];rfl
   ·obtain⟨hl,e⟩:=List.getElem?_eq_some_iff.1 hi;rw[List.getElem?_ofFn,dif_pos hl] at n5;injection n5 with n5;subst n5;subst e;exact(Classical.choose_spec (hq ⟨i,hl⟩)).2
  ·cases hx
 split at bE
 ·rename_i σ e;exact kL hT hm mc hc e r0 fun a w' G r=>gF bE r
 ·rename_i σ e;exact kL hT hm mc hc e r0 fun a w' G r=>gF bE r
 ·cases bE
end
def FV:Dv->aj
 |(.one,[x])=>.one (.c x)
 |(.one,_)=>.one .bq
 |(.agg,xs)=>.agg (xs.map .c)
 |(.ptr,_)=>.one (.ptr aH 0 0 0)
def vp:Nat->List Dv->(Nat->aj)
 |_,[]=>yC
 |k,d::ds=>az (vp (k+1) ds) k (FV d)
def ql:List Dv->Option (List C)
 |[]=>none
 |(.ptr,xs)::_=>some xs
 |_::ds=>ql ds
def pW (ds:List Dv):Nat->Option aq:=fun n=>match Nat.beq n aH with
 |true=>(ql ds).map fun xs=>.box (xs.map .c)
 |false=>none
def Hu (ds:List Dv):St:={env:=vp 0 ds,h:=pW ds,used:=fun n=>Nat.ble aH n}
theorem agX (ds:List Dv) (n:Nat) (hn:aH<=n):(Hu ds).used n=true:=Nat.ble_eq_true_of_le hn
def sU (h:Nat->Option aq):List aj->Option (List Dv)
 |[]=>some []
 |v::vs=>match v.cells? with
  |some (ag,cs)=>match iN h cs,sU h vs with
   |some xs,some ds=>some ((if ag=true then .agg else .one,xs)::ds)
   |_,_=>none
  |none=>none
def ER (h:Nat->Option aq):List aj->Option (List Dv)
 |[v]=>match m4 h v with
  |some (n,xs)=>if aH<=n then none else some [(.ptr,xs)]
  |none=>sU h [v]
 |vs=>sU h vs
def EE (h:Nat->Option aq):Option (List C)->Option (List C)
 |none=>some []
 |some xs=>match h aH with
  |some (.box cs)=>if cs.length=xs.length then kR cs else none
  |_=>none
def St.EQ (σ:St) (ms:List br) (ds:List Dv):Option (List Dv×List C):=
 match σ.qp ms with
 |some vs=>match ER σ.h vs,EE σ.h (ql ds) with
  |some rs,some out=>some (rs,out)
  |_,_=>none
 |none=>none
def M9 (T:aQ) (mc:jS) (ax:List br) (ds:List Dv):Option (List Dv×List C):=
 match dS T mc (Hu ds) with
 |some (.fq σ)=>σ.EQ ax ds
 |some (.ret σ)=>σ.EQ ax ds
 |_=>none
section
variable {B:Nat} {E:Ex} {w0 w w':World} {G G':Gh} {N:Nat} {h h':Nat->Option aq} {used:Nat->Bool}
variable {P:Program} {T:aQ} {a:Act} {σ σ':St} {Q:Exit->Act->World->Prop}
theorem SF:∀(ds:List Dv) (k n:Nat),vp k ds n=if k<=n then(match ds[n - k]? with|some d=>FV d|none=>.one .bq) else .one .bq
 |[],k,n=>by simp[vp,yC]
 |d::ds,k,n=>by
  simp only[vp,kg,SF ds];by_cases h:n=k
  ·subst h;simp
  ·by_cases h2:k<=n
   ·have h3:k+1<=n:=by omega
    have h4:n - k=(n - (k+1))+1:=by omega
    simp[h,h2,h3,h4]
   ·have h3:¬k+1<=n:=by omega
    simp[h,h2,h3]
theorem LX {ds:List Dv} {n:Nat} {b:aq} (hn:pW ds n=some b):n=aH/\∃xs,ql ds=some xs/\b=.box (xs.map .c):=by
 unfold pW at hn;split at hn
 ·rename_i e;have:=Nat.eq_of_beq_eq_true e;subst this;refine⟨rfl,?_⟩;cases hp:ql ds with
  |none=>rw[hp] at hn;cases hn
  |some xs=>rw[hp] at hn;injection hn with hn;exact⟨xs,rfl,hn.symm⟩
 ·cases hn
def iT:List PA->Option PA
 |[]=>none
 |p::ps=>if p.k=.ptr then some p else iT ps
theorem Gi:∀{pas:List PA} {p:PA},iT pas=some p->p∈pas/\p.k=.ptr
 |[],p,h=>by cases h
 |q::pas,p,h=>by
  unfold iT at h;split at h
  ·injection h with h;subst h;rename_i hk;exact⟨by simp,hk⟩
  ·obtain⟨h1,h2⟩:=Gi h;exact⟨by simp[h1],h2⟩
theorem KG:∀{pas:List PA},iT pas=none->∀p∈pas,p.k≠ .ptr
 |[],_,p,hp=>by cases hp
 |q::pas,h,p,hp=>by
  unfold iT at h;split at h
  ·cases h
  ·rename_i hk;cases hp with
   |head=>exact hk
   |tail _ hp=>exact KG h p hp
theorem TQ:∀{ds:List Dv} {pas:List PA},pas.length=ds.length->(∀(i:Nat) (d:Dv) (p:PA),ds[i]? =some d->pas[i]? =some p->d=(p.k,p.ps.map PC.er))->ql ds=(iT pas).map fun p=>p.ps.map PC.er
 |[],[],_,_=>rfl
 |[],_::_,hl,_=>by simp at hl
 |_::_,[],hl,_=>by simp at hl
 |d::ds,p::pas,hl,hd=>by
  have h0:=hd 0 d p rfl rfl;have ih:=TQ (ds:=ds) (pas:=pas) (by simpa using hl) (fun i d p h1 h2=>hd (i+1) d p h1 h2);subst h0;obtain⟨k,ps,b,o⟩:=p;cases k with
  |ptr=>rfl
  |one=>simpa[ql,iT] using ih
  |agg=>simpa[ql,iT] using ih
def zz (p:PA):PB:=⟨false,p.b,p.o,0,[],none⟩
def Gx (pas:List PA):Ex:=
 ⟨fun b=>∃p∈pas,p.k=.ptr/\b=p.b,fun n=>if n=aH then(iT pas).map zz else none,fun n p h=>(by
  by_cases hn:n=aH
  ·exact Nat.le_of_eq hn.symm
  ·rw[if_neg hn] at h;cases h),fun b=>∃q∈pas,∃pc∈q.ps,aZ b pc⟩
def yI (pas:List PA):Gh:=⟨fun b=>∃q∈pas,∃pc∈q.ps,aZ b pc,fun n=>match iT pas with|some p=>zz p|none=>default⟩
theorem R.al6 {ds:List Dv} {vals:List Value} {pas:List PA} (va:PH w ds vals pas) (hN:ds.length<=N):
  R w.heap.size (Gx pas) w N (Hu ds) {tmps:=vals.toArray++Array.replicate (N - vals.toArray.size) undef,defers:=[]} w (yI pas):=by
 have hl:=va.l1;have w4:ql ds=(iT pas).map fun p=>p.ps.map PC.er:=by
  refine TQ va.l2 fun i d p hd hp=>?_;have hv:vals[i]? =some (vals[i]'(by rw[va.l1];exact(List.getElem?_eq_some_iff.1 hd).1)):=List.getElem?_eq_getElem _;exact(va.at_ i d _ p hd hv hp).1
 have fO:∀q∈pas,∀pc∈q.ps,Good w pc:=by
  intro q hq pc bi;obtain⟨i,hi,rfl⟩:=List.getElem_of_mem hq;have hd:ds[i]? =some (ds[i]'(by rw[<-va.l2];exact hi)):=List.getElem?_eq_getElem _;have hv:vals[i]? =some (vals[i]'(by rw[va.l1,<-va.l2];exact hi)):=List.getElem?_eq_getElem _;exact(va.at_ i _ _ _ hd hv (List.getElem?_eq_getElem hi)).2.1 pc bi
 have aln:∀q∈pas,q.k=.ptr->IZ w q.b q.o q.ps/\∃v:Value,v∈vals/\v=.pointer (some (ad q.b q.o)):=by
  intro q hq hk;obtain⟨i,hi,rfl⟩:=List.getElem_of_mem hq;have hd:ds[i]? =some (ds[i]'(by rw[<-va.l2];exact hi)):=List.getElem?_eq_getElem _;have hv:vals[i]? =some (vals[i]'(by rw[va.l1,<-va.l2];exact hi)):=List.getElem?_eq_getElem _;have h3:=(va.at_ i _ _ _ hd hv (List.getElem?_eq_getElem hi)).2.2;rw[hk] at h3;exact⟨h3.2.2,_,List.mem_of_getElem? hv,h3.1⟩
 have cell:∀q∈pas,∀pc∈q.ps,RC w (yI pas) (pW ds) (.c pc.er) pc.val:=fun q hq pc bi=>⟨pc,rfl,rfl,fO q hq pc bi,fun b hb=>⟨q,hq,pc,bi,hb⟩⟩;have cells:∀q∈pas,dj w (yI pas) (pW ds) ((q.ps.map PC.er).map .c) (q.ps.map PC.val):=by
  intro q hq;refine⟨by simp,fun j c u hj hu=>?_⟩;simp only[List.getElem?_map,List.map_map] at hj hu;cases hp:q.ps[j]? with
  |none=>rw[hp] at hj;cases hj
  |some pc=>
   rw[hp] at hj hu;simp at hj hu;subst hj hu;exact⟨PC.jP pc,cell q hq pc (List.mem_of_getElem? hp)⟩
 refine⟨rfl,by simp;omega,fun s=>?_,fun s n hn=>?_,?_,Fr.refl _ _ _ (Nat.le_refl _),fun n p b hp hb=>?_,fun n hn=>Nat.ble_eq_true_of_le hn⟩
 ·show RA w _ (pW ds) (vp 0 ds s) _;rw[SF];simp only[Nat.zero_le,if_true,Nat.sub_zero];cases hs:ds[s]? with
  |none=>exact Or.inl rfl
  |some d=>
   have DW:=(List.getElem?_eq_some_iff.1 hs).1;have gY:s<vals.length:=by rw[hl];exact DW
   have hv:vals[s]? =some vals[s]:=List.getElem?_eq_getElem gY;obtain⟨q,hp⟩:∃q,pas[s]? =some q:=⟨_,List.getElem?_eq_getElem (by rw[va.l2];exact DW)⟩;have:(vals.toArray++Array.replicate (N - vals.toArray.size) undef).getD s undef=vals[s]:=by
    simp[Array.getD_eq_getD_getElem?,Array.getElem?_append,gY]
   rw[this];have sq:=List.mem_of_getElem? hp;obtain⟨e1,e2,e3⟩:=va.at_ s d _ q hs hv hp;generalize vals[s]=u at*
   subst e1;obtain⟨k,ps,b,o⟩:=q;cases k with
   |one=>
    have e3:ps.map PC.val=[u]:=e3;obtain⟨pc,rfl⟩:∃pc,ps=[pc]:=by
     have:=congrArg List.length e3;exact List.length_eq_one_iff.1 (by simpa using this)
    simp at e3;rw[<-e3];exact RA.fC (PC.jP pc) (cell _ sq pc (by simp))
   |agg=>exact⟨_,e3,cells _ sq⟩
   |ptr=>
    have e3:u=.pointer (some (ad b o))/\_:=e3;rw[e3.1];have hc:iT pas=some ⟨.ptr,ps,b,o⟩:=by
     cases hc:iT pas with
     |none=>exact absurd rfl (KG hc _ sq)
     |some p=>
      obtain⟨c1,c2⟩:=Gi hc;obtain⟨i,hi⟩:=List.getElem?_of_mem c1;have:=va.one i s p _ hi hp c2 rfl;subst this;rw[hi] at hp;injection hp with hp;rw[hp]
    refine RA.fC (c:=.ptr aH 0 0 0) rfl (fun _=>?_);simp[yI,hc,zz]
 ·have bu:(vp 0 ds s).ref n:=hn;rw[SF] at bu;simp only[Nat.zero_le,if_true,Nat.sub_zero] at bu;cases hs:ds[s]? with
  |none=>rw[hs] at bu;exact absurd bu id
  |some d=>
   rw[hs] at bu;obtain⟨k,xs⟩:=d;cases k with
   |one=>match xs,bu with
    |[],bu=>exact absurd bu id
    |[x],bu=>exact absurd bu id
    |_::_::_,bu=>exact absurd bu id
   |agg=>
    obtain⟨c,hc,hh⟩:=bu;obtain⟨y,_,rfl⟩:=List.mem_map.1 hc;exact absurd hh id
   |ptr=>
    have bu:n=aH:=bu;subst bu;exact agX ds aH (Nat.le_refl aH)
 ·
  have Tp:∀n gr m sz xs,pW ds n≠some (.row gr m sz xs):=fun n gr m sz xs hn=>by obtain⟨_,_,_,e⟩:=LX hn;cases e
  have nh:∀n,pW ds n≠none->n=aH/\∃p,iT pas=some p/\(yI pas).g n=zz p/\pW ds n=some (.box ((p.ps.map PC.er).map .c)):=by
   intro n hn;cases hh:pW ds n with
   |none=>exact absurd hh hn
   |some b=>
    obtain⟨rfl,xs,e1,e2⟩:=LX hh;rw[w4] at e1;cases hc:iT pas with
    |none=>rw[hc] at e1;cases e1
    |some p=>
     rw[hc] at e1;injection e1 with e1;exact⟨rfl,p,rfl,by simp[yI,hc],by rw[e2,<-e1]⟩
  refine⟨fun n hn=>?_,fun m cs c n hm hc hr=>?_,fun n cs hn=>?_,fun n gr m sz xs hn=>absurd hn (Tp _ _ _ _ _),fun n hn hlf=>?_,fun n n' hn bu aD=>?_,fun b hb=>?_,fun b hb=>.inr (.inr hb),
   fun n n' gr m sz xs bo m' aF av hn=>absurd hn (Tp _ _ _ _ _),fun n gr sz xs hn=>absurd hn (Tp _ _ _ _ _),?_,?_,?_⟩
  ·obtain⟨rfl,_⟩:=nh n hn;exact agX ds aH (Nat.le_refl aH)
  ·have bP:pW ds m=some (.box cs):=hm;obtain⟨_,xs,_,e⟩:=LX bP;injection e with e;subst e;obtain⟨x,_,rfl⟩:=List.mem_map.1 hc;exact absurd hr id
  ·have bu:pW ds n=some (.box cs):=hn;obtain⟨rfl,p,c1,c2,c3⟩:=nh n (by rw[bu];simp);rw[bu] at c3;injection c3 with c3;injection c3 with c3;subst c3;obtain⟨m1,m2⟩:=Gi c1;rw[c2];refine⟨rfl,(va.jO p m1 m2).1,fun j c hj=>?_⟩;rw[List.getElem?_map,List.getElem?_map] at hj;cases kO:p.ps[j]? with
   |none=>rw[kO] at hj;cases hj
   |some pc=>
    rw[kO] at hj;simp at hj;subst hj;exact⟨pc.val,(aln p m1 m2).1 j pc kO,PC.jP pc,cell p m1 pc (List.mem_of_getElem? kO)⟩
  ·obtain⟨rfl,p,c1,c2,c3⟩:=nh n hn;obtain⟨m1,m2⟩:=Gi c1;rw[c2];obtain⟨u1,u2⟩:=va.jO p m1 m2;exact⟨fun⟨q,hq,pc,bi,hb⟩=>u2 q hq pc bi hb,.inr ⟨p,m1,m2,rfl⟩,u1.lt⟩
  ·obtain⟨rfl,_⟩:=nh n hn;obtain⟨rfl,_⟩:=nh n' bu;exact absurd rfl aD
  ·obtain⟨q,hq,pc,bi,hb⟩:=hb;exact(fO q hq pc bi).lt hb
  ·intro i pc hi;simp at hi
  ·intro i j pc dC b _ hi;simp at hi
  ·intro i pc n gr m sz xs b hi;simp at hi
 ·have bB:(if n=aH then(iT pas).map zz else none)=some p:=hp
  split at bB
  ·rename_i hn;subst hn;cases hc:iT pas with
   |none=>rw[hc] at bB;cases bB
   |some q=>
    rw[hc] at bB;injection bB with bB;subst bB;have hg:(yI pas).g aH=zz q:=by simp[yI,hc]
    rw[hg];refine⟨rfl,rfl,rfl,rfl,rfl,fun gr sz xs aL=>?_⟩;have Rf:pW ds aH=some b:=hb;obtain⟨_,_,_,e⟩:=LX Rf;rw[e] at aL;cases aL
  ·cases bB
def PF (G:Gh) (h:Nat->Option aq) (b:Nat):Prop:=G.Im b\/∃n gr m sz xs,h n=some (.row gr m sz xs)/\tD G n b
theorem HR.ag7 (H:HR B E w G h used []):∀{cs:List ah} {xs:List C} {vs:List Value},Am.iN h cs=some xs->dj w G h cs vs->∃ps:List PC,ps.map PC.er=xs/\ps.map PC.val=vs/\∀pc∈ps,Good w pc/\∀b,aZ b pc->PF G h b
 |[],xs,vs,hx,hc=>by
  simp only[Am.iN] at hx;injection hx with hx;subst hx;have:vs=[]:=List.eq_nil_of_length_eq_zero (by simpa using hc.1);subst this;exact⟨[],rfl,rfl,by simp⟩
 |c::cs,xs,vs,hx,hc=>by
  simp only[Am.iN] at hx;split at hx
  ·rename_i x av e1 e2;injection hx with hx;subst hx;match vs,hc.1 with
   |v::vs,hl=>
    obtain⟨pc,a1,a2,a3,a4⟩:=H.WA e1 (hc.2 0 c v rfl rfl).2;obtain⟨ps,b1,b2,b3⟩:=H.ag7 (vs:=vs) e2 ⟨by simpa using hl,fun j c u h1 h2=>hc.2 (j+1) c u h1 h2⟩;refine⟨pc::ps,by simp[a1,b1],by simp[a2,b2],fun q hq=>?_⟩;cases hq with
    |head=>exact⟨a3,fun b hb=>(a4 b hb).imp id fun⟨n,gr,m,sz,xs,_,h1,h2⟩=>⟨n,gr,m,sz,xs,h1,h2⟩⟩
    |tail _ hq=>exact b3 q hq
  ·cases hx
theorem HR.sU (H:HR B E w G h used []):∀{vs:List aj} {ds:List Dv} {us:List Value},Am.sU h vs=some ds->us.length=vs.length->(∀(j:Nat) (x:aj) (v:Value),vs[j]? =some x->us[j]? =some v->RA w G h x v)->
  ∃bt:List PA,bt.map (fun p=>(p.k,p.ps.map PC.er))=ds/\bt.map BO=us/\(∀p∈bt,p.k≠ .ptr/\(p.k=.one->p.ps.length=1))/\∀p∈bt,∀pc∈p.ps,Good w pc/\∀b,aZ b pc->PF G h b
 |[],ds,us,hx,hl,hc=>by
  simp only[Am.sU] at hx;injection hx with hx;subst hx;have:us=[]:=List.eq_nil_of_length_eq_zero (by simpa using hl);subst this;exact⟨[],rfl,rfl,by simp,by simp⟩
 |x::vs,ds,us,hx,hl,hc=>by
  simp only[Am.sU] at hx;split at hx
  ·rename_i ag cs lW;split at hx
   ·rename_i xs uP e1 e2;injection hx with hx;subst hx;match us,hl with
    |v::us,hl=>
     obtain⟨bt,b1,b2,b3,b4⟩:=H.sU (us:=us) e2 (by simpa using hl) (fun j x v h1 h2=>hc (j+1) x v h1 h2);have h0:=hc 0 x v rfl rfl;have pR:∃vs:List Value,(if ag=true then v=.agg vs.toArray else vs=[v])/\dj w G h cs vs:=by
      cases x with
      |one c=>
       have Rp:ag=false/\cs=[c]:=by cases c<;>simp[aj.cells?] at lW<;>exact⟨lW.1,lW.2.symm⟩
       obtain⟨rfl,rfl⟩:=Rp;rcases h0 with h0|h0
       ·subst h0;simp[aj.cells?] at lW
       ·exact⟨[v],rfl,h0⟩
      |agg cs'=>
       simp[aj.cells?] at lW;obtain⟨rfl,rfl⟩:=lW;obtain⟨vs,e,h1⟩:∃vs:List Value,v=.agg vs.toArray/\dj w G h cs' vs:=h0;exact⟨vs,e,h1⟩
      |bK xs=>simp[aj.cells?] at lW
     obtain⟨X3,ja,cC⟩:=pR;obtain⟨ps,p1,p2,p3⟩:=H.ag7 e1 cC;refine⟨⟨if ag=true then .agg else .one,ps,0,0⟩::bt,by simp[p1,b1],?_,fun p hp=>?_,fun p hp pc bi=>?_⟩
     ·rw[List.map_cons,b2];congr 1;cases ag with
      |true=>
       simp only[if_true] at ja⊢;rw[ja,<-p2];rfl
      |false=>
       simp only[Bool.false_eq_true,if_false] at ja⊢;rw[<-p2] at ja;match ps,ja with
       |[pc],ja=>simp at ja;exact ja
     ·cases hp with
      |head=>
       cases ag with
       |true=>exact⟨by simp,fun h=>by cases h⟩
       |false=>
        simp only[Bool.false_eq_true,if_false] at ja;refine⟨by simp,fun _=>?_⟩;have:(ps.map PC.val).length=1:=by rw[p2,ja];rfl
        simpa using this
      |tail _ hp=>exact b3 p hp
     ·cases hp with
      |head=>exact p3 pc bi
      |tail _ hp=>exact b4 p hp pc bi
   ·cases hx
  ·cases hx
theorem arU {bt:List PA}:EF (bt.map BO)=BP bt:=by
 match bt with
 |[]=>rfl
 |[p]=>rfl
 |p::q::bt=>rfl
theorem auc (hT:jT P T) (hm:P.follows .mixedOrders=true) {f:FuncId} {fn:Func} {c:Code} {mc:jS} {ms:List br} {M:List Dv->Option (List Dv×List C)} (hf:P.funcs[f]? =some fn) (hb:fn.body=some c)
  (hc:iR P fn.ntmps c mc=true) (hr:mF P fn.results.toList ms=true) (hM:∀ds rs out,M ds=some (rs,out)->ds.length<=fn.ntmps/\M9 T mc ms ds=some (rs,out)):Ad P f M:=by
 intro ds rs out jl w vals pas va;obtain⟨hN,bE⟩:=hM ds rs out jl;refine calls_of_wp hf hb ?_;have r0:=R.al6 (N:=fn.ntmps) va hN;have w4:ql ds=(iT pas).map fun p=>p.ps.map PC.er:=by
  refine TQ va.l2 fun i d p hd hp=>?_;have hv:vals[i]? =some (vals[i]'(by rw[va.l1];exact(List.getElem?_eq_some_iff.1 hd).1)):=List.getElem?_eq_getElem _;exact(va.at_ i d _ p hd hv hp).1
 unfold M9 at bE;have gF:∀{σ:St} {a:Act} {w':World} {G:Gh},σ.EQ ms ds=some (rs,out)->R w.heap.size (Gx pas) w fn.ntmps σ a w' G->a.defers=[]/\∃v,(results fn a.tmps).run P w'=.ok v w'/\
   ∃(bt:List PA) (qs:List PC),bt.map (fun p=>(p.k,p.ps.map PC.er))=rs/\(Ending.returned v)=.returned (BP bt)/\qs.map PC.er=out/\PG w w' pas bt qs:=by
  intro σ a w' G hx r;have H:=r.hr;unfold St.EQ at hx;split at hx
  ·rename_i vs e1;split at hx
   ·rename_i mw TA e2 e3;injection hx with hx;injection hx with j0 eJ;subst j0 eJ;have DJ:∀p,iT pas=some p->∃cs,σ.h aH=some (.box cs)/\cs.length=p.ps.length/\kR cs=some TA/\(G.g aH).nl=false/\(G.g aH).b=p.b/\(G.g aH).o=p.o:=by
     intro p hp;rw[w4,hp] at e3;simp only[Option.map_some,EE] at e3;split at e3
     ·rename_i cs fi;split at e3
      ·rename_i hl;have nt:(Gx pas).mT aH=some (zz p):=by
        show(if aH=aH then(iT pas).map zz else none)=_
        rw[if_pos rfl,hp];rfl
       obtain⟨q1,q2,q3,_⟩:=r.mT _ _ _ nt fi;exact⟨cs,fi,by simpa using hl,e3,q1,q2,q3⟩
      ·cases e3
     ·cases e3
    have LF:∀q∈pas,q.k=.ptr->∃p,iT pas=some p/\q=p:=by
     intro q hq hk;cases hc:iT pas with
     |none=>exact absurd hk (KG hc q hq)
     |some p=>
      obtain⟨c1,c2⟩:=Gi hc;obtain⟨i,hi⟩:=List.getElem?_of_mem hq;obtain⟨j,hj⟩:=List.getElem?_of_mem c1;have:=va.one i j q p hi hj hk c2;subst this;rw[hi] at hj;injection hj with hj;exact⟨p,rfl,hj⟩
    have hE:∀b,(Gx pas) b->∃p cs,iT pas=some p/\σ.h aH=some (.box cs)/\(G.g aH).nl=false/\b=(G.g aH).b:=by
     rintro b ⟨q,hq,hk,rfl⟩;obtain⟨p,hp,rfl⟩:=LF q hq hk;obtain⟨cs,h1,_,_,h2,h3,_⟩:=DJ q hp;exact⟨q,cs,hp,h1,h2,h3.symm⟩
    have pQ:∀b,G.Im b->CT w pas b:=fun b hb=>by
     rcases H.pU b hb with h1|h1|h1
     ·exact .inl h1
     ·obtain⟨p,cs,_,h2,h3,rfl⟩:=hE b h1;exact absurd hb (H.own aH (by rw[h2];simp) h3).1
     ·exact .inr h1
    have alI:∀b,PF G σ.h b->CT w pas b/\(∀p,iT pas=some p->b≠p.b):=by
     have aD:∀b,(∀cs,σ.h aH=some (.box cs)->(G.g aH).nl=false->b≠(G.g aH).b)->∀p,iT pas=some p->b≠p.b:=fun b hb p hp=>by
      obtain⟨cs,h1,_,_,h2,h3,_⟩:=DJ p hp;rw[<-h3];exact hb cs h1 h2
     have Z4:∀b,(w.heap.size<=b\/(Gx pas) b)->(∀cs,σ.h aH=some (.box cs)->(G.g aH).nl=false->b≠(G.g aH).b)->CT w pas b:=fun b hb aD=>by
      rcases hb with hb|hb
      ·exact .inl hb
      ·obtain⟨p,cs,_,h2,h3,h4⟩:=hE b hb;exact absurd h4 (aD cs h2 h3)
     intro b hb;rcases hb with hb|⟨n,gr,m,sz,xs,hn,hft⟩
     ·exact⟨pQ b hb,aD b fun cs h1 h2 he=>(H.own aH (by rw[h1];simp) h2).1 (he▸hb)⟩
     ·have bN:σ.h n≠none:=by rw[hn];simp
      rcases hft with⟨aR,rfl⟩|hF
      ·have hd:∀cs,σ.h aH=some (.box cs)->(G.g aH).nl=false->(G.g n).b≠(G.g aH).b:=fun cs h1 h2=>
        H.inj n aH bN (by rw[h1];simp) (by rintro rfl;rw[hn] at h1;cases h1) aR h2
       exact⟨Z4 _ (H.own n bN aR).2.1 hd,aD _ hd⟩
      ·have gj:=(H.row n gr m sz xs hn).mode;cases m with
       |aJ=>exact⟨pQ b (gj b hF),aD b fun cs h1 h2 he=>(H.own aH (by rw[h1];simp) h2).1 (he▸gj b hF)⟩
       |aN=>exact⟨pQ b (gj.1 b hF).1,aD b fun cs h1 h2 he=>(H.own aH (by rw[h1];simp) h2).1 (he▸(gj.1 b hF).1)⟩
       |live=>
        have hd:∀cs,σ.h aH=some (.box cs)->(G.g aH).nl=false->b≠(G.g aH).b:=fun cs h1 h2=>H.live n gr sz xs hn b hF aH (by rw[h1];simp) h2;exact⟨Z4 b (gj.1 b hF).2.2 hd,aD b hd⟩
    obtain⟨us,u1,u2,_,u3⟩:=EW r hr e1;obtain⟨qs,q1,q2,q3⟩:∃qs:List PC,qs.map PC.er=TA/\(∀pc∈qs,Good w' pc/\∀b,aZ b pc->G.Im b)/\∀p∈pas,p.k=.ptr->IZ w' p.b p.o qs:=by
     cases hc:iT pas with
     |none=>
      rw[w4,hc] at e3;simp only[Option.map_none,EE] at e3;injection e3 with e3;subst e3;exact⟨[],rfl,by simp,fun p hp hk=>absurd hk (KG hc p hp)⟩
     |some p=>
      obtain⟨cs,h1,h2,h3,h4,h5,h6⟩:=DJ p hc;obtain⟨X3,v1,v2⟩:=H.Kq h1;obtain⟨ps,p1,p2,p3⟩:=HR.kR h3 v1;refine⟨ps,p1,p3,fun q hq hk j c hj=>?_⟩;obtain⟨p',bB,rfl⟩:=LF q hq hk;rw[hc] at bB;injection bB with bB;subst bB;rw[<-h5,<-h6];refine v2 j _ ?_;rw[<-p2,List.getElem?_map,hj];rfl
    have wO:Fr w.heap.size (Yu pas) w w':=⟨r.fr.os,r.fr.tape,r.fr.output,r.fr.size,r.fr.block,r.fr.jO⟩;have KH:∀{mw:List Dv},sU σ.h vs=some mw->∃v,(results fn a.tmps).run P w'=.ok v w'/\
      ∃(bt:List PA) (qs:List PC),bt.map (fun p=>(p.k,p.ps.map PC.er))=mw/\(Ending.returned v)=.returned (BP bt)/\qs.map PC.er=TA/\PG w w' pas bt qs:=by
     intro mw hrb;obtain⟨bt,b1,b2,b3,b4⟩:=H.sU hrb u2 u3;refine⟨_,Ia fn a.tmps u1,bt,qs,b1,by rw[<-b2,arU],q1,?_⟩;exact⟨fun p hp=>(b3 p hp).2,fun p hp hk=>absurd hk (b3 p hp).1,fun p hp pc bi=>⟨(b4 p hp pc bi).1,fun b hb=>(alI b ((b4 p hp pc bi).2 b hb)).1⟩,wO,fun pc bi=>⟨(q2 pc bi).1,fun b hb=>pQ b ((q2 pc bi).2 b hb)⟩,q3⟩
    refine⟨r.defers,?_⟩;unfold ER at e2;split at e2
    ·rename_i v0;split at e2
     ·rename_i n xs hbp;split at e2
      ·cases e2
      ·rename_i yW;injection e2 with e2;subst e2;obtain⟨sz,cs,rfl,hn,fi⟩:=PZ hbp;obtain⟨nl,un,_⟩:=H.box n cs hn;have bN:σ.h n≠none:=by rw[hn];simp
       obtain⟨o1,o2,o3⟩:=H.own n bN nl;obtain⟨X3,v1,v2⟩:=H.Kq hn;obtain⟨ps,p1,p2,p3⟩:=HR.kR fi v1;match us,u2 with
       |[u],_=>
        have hu:u=.pointer (some (ad (G.g n).b (G.g n).o)):=by
         have h0:=u3 0 _ u rfl rfl;rcases h0 with h0|h0
         ·cases h0
         ·have h1:RC w' G σ.h (.ptr n 0 sz 0) u:=(h0.2 0 _ u rfl rfl).2;simpa using(h1 bN).2
        have hB:w.heap.size<=(G.g n).b:=by
         rcases o2 with o2|o2
         ·exact o2
         ·obtain⟨p,cs',_,h2,h3,h4⟩:=hE _ o2;exact absurd h4 (H.inj n aH bN (by rw[h2];simp) (by rintro rfl;exact yW (Nat.le_refl _)) nl h3)
        refine⟨_,Ia fn a.tmps u1,[⟨.ptr,ps,(G.g n).b,(G.g n).o⟩],qs,by simp[p1],?_,q1,?_⟩
        ·rw[hu];rfl
        ·refine⟨fun p hp hk=>?_,fun p hp hk=>?_,fun p hp pc bi=>?_,wO,fun pc bi=>⟨(q2 pc bi).1,fun b hb=>pQ b ((q2 pc bi).2 b hb)⟩,q3⟩
         ·simp at hp;subst hp;cases hk
         ·simp at hp;subst hp;refine⟨rfl,hB,un,fun j c hj=>v2 j _ ?_,fun pc bi hb=>o1 ((p3 pc bi).2 _ hb),fun pc bi hb=>o1 ((q2 pc bi).2 _ hb)⟩;rw[<-p2,List.getElem?_map,hj];rfl
         ·simp at hp;subst hp;exact⟨(p3 pc bi).1,fun b hb=>pQ b ((p3 pc bi).2 b hb)⟩
     ·exact KH e2
    ·exact KH e2
   ·cases hx
  ·cases hx
 split at bE
 ·rename_i σ e;exact kL hT hm mc hc e r0 fun a w' G r=>gF bE r
 ·rename_i σ e;exact kL hT hm mc hc e r0 fun a w' G r=>gF bE r
 ·cases bE
end
def _root_.Option.ae {α β:Type} (o:Option α) (f:α->Option β):Option β:=o.bind f
def aw {α:Type} (b:Bool) (x y:α):α:=cond b x y
def cR (k:IntKind) (a b:Int):Int:=k.wrap (a+b)
def kf (k:IntKind) (a b:Int):Int:=k.wrap (a - b)
def kC (k:IntKind) (a b:Int):Int:=k.wrap (a*b)
def aqB (k:IntKind) (a:Int):Int:=k.wrap (0 - a)
def aii (k:IntKind) (a:Int):Int:=k.wrap a
def ahr (k:IntKind) (a b:Int):Int:=bits .and k a b
def orI (k:IntKind) (a b:Int):Int:=bits .or k a b
def auw (k:IntKind) (a b:Int):Int:=bits .xor k a b
def dJ (a b:Int):Bool:=a==b
def fL (a b:Int):Bool:=a !=b
def bG (a b:Int):Bool:=decide (a<b)
def jr (a b:Int):Bool:=decide (a<=b)
def eqB (a b:Bool):Bool:=a==b
def HP (a b:Bool):Bool:=a !=b
def cZ (a:Bool):Bool:= !a
def Tk (a b:Int):Int:=if a<b then b else a
def Et (a b:Int):Int:=if b<a then b else a
def aa {α:Type} (xs:List α):Nat:=xs.length
def aA (n:Nat):Int:=(n:Int)
def aI (a b:Nat):Nat:=a+b
def cK {α:Type} (xs:List α) (k:Nat):Option α:=xs[k]?
def cg {α:Type} (xs:List α) (k:Nat) (x:α):List α:=xs.set k x
def dQ {α:Type} (xs ys:List α):List α:=xs++ys
def dG {α:Type} (n:Nat) (x:α):List α:=List.replicate n x
def iM {α:Type} (xs:List α) (lo len:Nat):List α:=(xs.drop lo).take len
def dm {α:Type} (xs:List α) (i:Int):Option α:=if 0<=i then xs[i.toNat]? else none
def eY (i:Int) (len:Nat):Option Nat:=if 0<=i/\i<len then some i.toNat else none
def jN (lo hi:Int) (len:Nat):Option (Nat×Nat):=if 0<=lo/\lo<=hi/\hi<=len then some (lo.toNat,(hi - lo).toNat) else none
def cr {α:Type} (xs:List α) (lo len:Nat):Option (List α):=if lo+len<=xs.length then some ((xs.drop lo).take len) else none
def dN {α:Type} (xs:List α) (len:Nat):Option (List α):=if len<=xs.length then some (xs.take len) else none
def Aq {α:Type} (xs:List α) (lo len:Nat) (ys:List α):Option (List α):=if lo+len<=xs.length then some (xs.take lo++ys++xs.drop (lo+ys.length)) else none
def lc (a b:Int) (by_:Nat):Option Nat:=if a<=b/\0<=a/\b.toNat*by_<=dX then some a.toNat else none
def ku (n by_:Nat):Option Unit:=if n*by_<=dX then some () else none
def kE (a b:Nat):Option Unit:=if a=b then some () else none
def adu (n:Nat):Option Unit:=if 0<n then some () else none
def NY {α:Type} (xs:List α):List α:=xs.drop 1
def bn (lo len l:Nat):Option Unit:=if lo=0/\len=l then some () else none
abbrev J:=List Int
abbrev ar {α β:Type} (l:List α) (k:Option β):Option β:=(bn 0 (aa l) (aa l)).ae fun _=>k
def H7 (k:IntKind) (a b:Int):Option Int:=if b=0 then none else some (k.wrap (a.tdiv b))
def rz (a b:Int):Option Int:=if b=0 then none else some (a.tmod b)
def zI (k:IntKind) (a b:Int):Option Int:=if b<0 then none else some (k.wrap (a*2^(min b.toNat k.bits)))
def afK (k:IntKind) (a b:Int):Option Int:=if b<0 then none else some (a/(2^(min b.toNat k.bits)))
def cq {X Y:Type}:Nat->(X->Option (X⊕Y))->X->Option Y
 |0,_,_=>none
 |n+1,f,x=>match f x with
  |some (.inl x')=>cq n f x'
  |some (.inr y)=>some y
  |none=>none
def bT {X ρ:Type} (o:Option (X⊕ρ)) (k:X->Option ρ):Option ρ:=o.bind fun s=>Sum.casesOn s k some
theorem ed {α β:Type} {o:Option α} {f:α->Option β} {b:β}:o.ae f=some b↔∃a,o=some a/\f a=some b:=Option.bind_eq_some_iff
theorem Ql {α:Type} (x y:α):aw true x y=x:=rfl
theorem KC {α:Type} (x y:α):aw false x y=y:=rfl
inductive Ty where
 |int (k:IntKind)
 |bool
 |list (ts:List Ty)
instance:Inhabited Ty:=⟨.bool⟩
mutual
def Ty.beq:Ty->Ty->Bool
 |.int k,.int k'=>decide (k=k')
 |.bool,.bool=>true
 |.list ts,.list us=>Ty.tu ts us
 |_,_=>false
def Ty.tu:List Ty->List Ty->Bool
 |[],[]=>true
 |t::ts,u::us=>Ty.beq t u&&Ty.tu ts us
 |_,_=>false
end
mutual
theorem Ty.beq_eq:∀{t u:Ty},Ty.beq t u=true->t=u
 |.int k,.int k',h=>by simp[Ty.beq] at h;rw[h]
 |.bool,.bool,_=>rfl
 |.list ts,.list us,h=>by simp only[Ty.beq] at h;rw[Ty.tv h]
 |.int _,.bool,h=>by simp[Ty.beq] at h
 |.int _,.list _,h=>by simp[Ty.beq] at h
 |.bool,.int _,h=>by simp[Ty.beq] at h
 |.bool,.list _,h=>by simp[Ty.beq] at h
 |.list _,.int _,h=>by simp[Ty.beq] at h
 |.list _,.bool,h=>by simp[Ty.beq] at h
theorem Ty.tv:∀{ts us:List Ty},Ty.tu ts us=true->ts=us
 |[],[],_=>rfl
 |t::ts,u::us,h=>by simp only[Ty.tu,Bool.and_eq_true] at h;rw[Ty.beq_eq h.1,Ty.tv h.2]
 |[],_::_,h=>by simp[Ty.tu] at h
 |_::_,[],h=>by simp[Ty.tu] at h
end
mutual
def Ty.D:Ty->Type
 |.int _=>Int
 |.bool=>Bool
 |.list ts=>List (Ty.DL ts)
def Ty.DL:List Ty->Type
 |[]=>Unit
 |t::ts=>match ts with
  |[]=>Ty.D t
  |u::us=>Ty.D t×Ty.DL (u::us)
end
mutual
def Ty.er:(t:Ty)->t.D->C
 |.int k,n=>.int k n
 |.bool,b=>.bool b
 |.list ts,xs=>.list ts.length (List.map (Ty.aE ts) xs)
def Ty.aE:(ts:List Ty)->Ty.DL ts->List C
 |[],_=>[]
 |[t],x=>[Ty.er t x]
 |t::u::ts,x=>Ty.er t x.1::Ty.aE (u::ts) x.2
end
def Ty.cast (t u:Ty) (x:t.D):Option u.D:=if h:Ty.beq t u=true then some (Ty.beq_eq h▸x) else none
theorem Ty.P8 {t u:Ty} {x:t.D} {y:u.D} (h:Ty.cast t u x=some y):t.er x=u.er y:=by
 unfold Ty.cast at h;split at h
 ·rename_i he;have:=Ty.beq_eq he;subst this;injection h with h;rw[<-h]
 ·cases h
def Ty.C9 (ts us:List Ty) (x:Ty.DL ts):Option (Ty.DL us):=if h:Ty.tu ts us=true then some (Ty.tv h▸x) else none
theorem Ty.Dp:∀(ts:List Ty) (x:Ty.DL ts),(Ty.aE ts x).length=ts.length
 |[],_=>rfl
 |[t],_=>rfl
 |t::u::ts,x=>by simp only[Ty.aE,List.length_cons,Ty.Dp (u::ts) x.2]
def Ty.fk:Ty->Bool
 |.list _=>false
 |_=>true
theorem Ty.xN (t:Ty) (x:t.D):(t.er x).fk=t.fk:=by cases t<;>rfl
def Ty.fG (ts:List Ty):Bool:=ts.all Ty.fk
theorem Ty.Ij:∀(ts:List Ty) (x:Ty.DL ts),Am.fG (Ty.aE ts x)=Ty.fG ts
 |[],_=>rfl
 |[t],x=>by simp[Am.fG,Ty.aE,Ty.fG];exact Ty.xN t x
 |t::u::ts,x=>by
  have:=Ty.Ij (u::ts) x.2;simp only[Am.fG,Ty.fG] at this;simp only[Am.fG,Ty.fG,Ty.aE,List.all_cons,Ty.xN] at this⊢;rw[this]
inductive SC where
 |v (t:Ty) (x:t.D)
 |nil (ts:List Ty)
 |ptr (n k sz off:Nat)
 |dg (ts:List Ty) (x:Ty.DL ts) (off:Nat)
 |sl (n sz lo len:Nat)
 |bC (n k aB off sz len:Nat)
 |db (n k aB off sz i:Nat)
 |cH (ts:List Ty) (x:Ty.DL ts) (off j n sz len:Nat)
 |fn (f:FuncId) (cP:List SC)
 |bq
instance:Inhabited SC:=⟨.bq⟩
mutual
def SC.er:SC->ah
 |.v t x=>.c (t.er x)
 |.nil ts=>.nil ts.length
 |.ptr n k sz off=>.ptr n k sz off
 |.dg ts x off=>.dg (Ty.aE ts x) off
 |.sl n sz lo len=>.sl n sz lo len
 |.bC n k aB off sz len=>.bC n k aB off sz len
 |.db n k aB off sz i=>.db n k aB off sz i
 |.cH ts x off j n sz len=>.cH (Ty.aE ts x) off j n sz len
 |.fn f cP=>.fn f (SC.KT cP)
 |.bq=>.bq
def SC.KT:List SC->List ah
 |[]=>[]
 |c::cs=>SC.er c::SC.KT cs
end
theorem SC.Ay (cs:List SC):SC.KT cs=cs.map SC.er:=by
 induction cs with
 |nil=>rfl
 |cons c cs ih=>simp[SC.KT,ih]
inductive SB where
 |box (cs:List SC)
 |row (gr:Bool) (m:Mode) (ts:List Ty) (xs:List (Ty.DL ts))
def SB.er:SB->aq
 |.box cs=>.box (cs.map SC.er)
 |.row gr m ts xs=>.row gr m ts.length (List.map (Ty.aE ts) xs)
inductive SV where
 |one (c:SC)
 |agg (cs:List SC)
 |bK (xs:List (Bool×List SC))
instance:Inhabited SV:=⟨.one .bq⟩
def SV.er:SV->aj
 |.one c=>.one c.er
 |.agg cs=>.agg (cs.map SC.er)
 |.bK xs=>.bK (xs.map fun x=>(x.1,x.2.map SC.er))
structure af where
 env:Nat->SV
 h:Nat->Option SB
 used:Nat->Bool
def r7 (env:Nat->SV):Nat->aj:=fun s=>(env s).er
def dd (h:Nat->Option SB):Nat->Option aq:=fun n=>(h n).map SB.er
def af.er (σ:af):St:={env:=r7 σ.env,h:=dd σ.h,used:=σ.used}
theorem wD (env:Nat->SV) (n:Nat) (v:SV):r7 (az env n v)=az (r7 env) n v.er:=by
 funext s;simp only[r7,kg];split<;>rfl
theorem KR (h:Nat->Option SB) (n:Nat) (v:Option SB):dd (az h n v)=az (dd h) n (v.map SB.er):=by
 funext s;simp only[dd,kg];split<;>rfl
def af.put (σ:af) (d:Option Nat) (v:SV):af:=
 match d with
 |some n=>{σ with env:=az σ.env n v}
 |none=>σ
def af.ins (σ:af) (n:Nat) (b:SB):Option af:=
 match σ.used n with
 |true=>none
 |false=>some {σ with h:=az σ.h n (some b),used:=az σ.used n true}
def af.eE (σ:af) (n:Nat) (b:SB):af:={σ with h:=az σ.h n (some b)}
def af.del (σ:af) (n:Nat):af:={σ with h:=az σ.h n none}
theorem af.dY (σ:af) (d:Option Nat) (v:SV):(σ.put d v).er=σ.er.put d v.er:=by
 cases d with
 |none=>rfl
 |some n=>simp only[af.put,af.er,St.put,wD]
theorem af.oO {σ σ1:af} {n:Nat} {b:SB} (h:σ.ins n b=some σ1):σ.er.ins n b.er=some σ1.er:=by
 unfold af.ins at h;split at h
 ·cases h
 ·rename_i hu;injection h with h;subst h;simp[St.ins,af.er,hu,KR]
theorem af.pO (σ:af) (n:Nat) (b:SB):(σ.eE n b).er=σ.er.eE n b.er:=by
 simp[af.eE,af.er,St.eE,KR]
theorem af.Ax (σ:af) (n:Nat):(σ.del n).er=σ.er.del n:=by
 simp[af.del,af.er,St.del,KR]
def Ty.cells:(ts:List Ty)->Ty.DL ts->List SC
 |[],_=>[]
 |[t],x=>[.v t x]
 |t::u::ts,x=>.v t x.1::Ty.cells (u::ts) x.2
theorem Ty.kK:∀(ts:List Ty) (x:Ty.DL ts),(Ty.cells ts x).map SC.er=(Ty.aE ts x).map .c
 |[],_=>rfl
 |[t],x=>rfl
 |t::u::ts,x=>by simp only[Ty.cells,Ty.aE,List.map_cons,Ty.kK (u::ts) x.2];rfl
def S9 (n k rs off:Nat) (t:Ty) (x:t.D):SC:=
 match t,x with
 |.list ts,xs=>.bC n k rs off ts.length (aa (α:=Ty.DL ts) xs)
 |.int k',x=>.v (.int k') x
 |.bool,x=>.v .bool x
def Ty.live (n k rs:Nat):Nat->(ts:List Ty)->Ty.DL ts->List SC
 |_,[],_=>[]
 |off,[t],x=>[S9 n k rs off t x]
 |off,t::u::ts,x=>S9 n k rs off t x.1::Ty.live n k rs (off+1) (u::ts) x.2
theorem abi (n k rs off:Nat) (t:Ty) (x:t.D) (l:List C):iJ n k rs off (t.er x::l)=(S9 n k rs off t x).er::iJ n k rs (off+1) l:=by
 cases t with
 |int k'=>rfl
 |bool=>rfl
 |list ts=>
  exact congrArg (fun m=>ah.bC n k rs off ts.length m::iJ n k rs (off+1) l) (List.length_map (Ty.aE ts))
theorem Ty.abn (n k rs:Nat):∀(off:Nat) (ts:List Ty) (x:Ty.DL ts),(Ty.live n k rs off ts x).map SC.er=iJ n k rs off (Ty.aE ts x)
 |_,[],_=>rfl
 |off,[t],x=>(abi n k rs off t x []).symm
 |off,t::u::ts,x=>by simp only[Ty.live,Ty.aE,abi,List.map_cons,Ty.abn n k rs (off+1) (u::ts) x.2]
theorem abj (n k rs:Nat):∀(j off:Nat) (l:List C),(iJ n k rs off l).drop j=iJ n k rs (off+j) (l.drop j)
 |0,off,l=>by simp
 |j+1,off,[]=>by simp[iJ]
 |j+1,off,c::l=>by
  have ih:=abj n k rs j (off+1) l;rw[show off+1+j=off+(j+1) by omega] at ih;cases c<;>simpa[iJ] using ih
theorem abm (n k rs:Nat):∀(j off:Nat) (l:List C),(iJ n k rs off l).take j=iJ n k rs off (l.take j)
 |0,off,l=>by simp[iJ]
 |j+1,off,[]=>by simp[iJ]
 |j+1,off,c::l=>by cases c<;>simp[iJ,abm n k rs j (off+1) l]
theorem abk (n k rs:Nat):∀(off:Nat) (l:List C),(iJ n k rs off l).length=l.length
 |off,[]=>rfl
 |off,c::l=>by cases c<;>simp[iJ,abk n k rs (off+1) l]
theorem atL (n k rs off sz:Nat) (l:List C):sub (iJ n k rs 0 l) off sz=(sub l off sz).map (iJ n k rs off):=by
 unfold sub;rw[abk];split
 ·simp[abj,abm]
 ·rfl
theorem s8 {α β:Type} (f:α->β) (l:List α) (off sz:Nat):sub (l.map f) off sz=(sub l off sz).map (List.map f):=by
 unfold sub;rw[List.length_map];split
 ·simp[List.map_drop,List.map_take]
 ·rfl
def Ap (t:Ty):(ts:List Ty)->t.D->Ty.DL ts->Ty.DL (t::ts)
 |[],x,_=>x
 |_::_,x,y=>(x,y)
theorem Qm (t:Ty) (ts:List Ty) (x:t.D) (y:Ty.DL ts):Ty.aE (t::ts) (Ap t ts x y)=t.er x::Ty.aE ts y:=by cases ts<;>rfl
def rn:(ts:List Ty)->List ((t:Ty)×t.D)->Option (Ty.DL ts)
 |[],[]=>some ()
 |t::ts,c::cs=>match Ty.cast c.1 t c.2,rn ts cs with
  |some y,some z=>some (Ap t ts y z)
  |_,_=>none
 |_,_=>none
def dk (l:List ((t:Ty)×t.D)):List C:=l.map fun x=>x.1.er x.2
theorem xv:∀{ts:List Ty} {cs:List ((t:Ty)×t.D)} {y:Ty.DL ts},rn ts cs=some y->Ty.aE ts y=dk cs
 |[],[],y,h=>rfl
 |t::ts,c::cs,y,h=>by
  simp only[rn] at h;split at h
  ·rename_i y1 z h1 h2;injection h with h;subst h;have:=xv h2;simp only[dk] at this;simp only[Qm,dk,List.map_cons,Ty.P8 h1,this]
  ·cases h
 |[],_::_,y,h=>by simp[rn] at h
 |t::ts,[],y,h=>by simp[rn] at h
def Ty.gO:(ts:List Ty)->Ty.DL ts->List ((t:Ty)×t.D)
 |[],_=>[]
 |[t],x=>[⟨t,x⟩]
 |t::u::ts,x=>⟨t,x.1⟩::Ty.gO (u::ts) x.2
theorem Ty.pN:∀(ts:List Ty) (x:Ty.DL ts),dk (Ty.gO ts x)=Ty.aE ts x
 |[],_=>rfl
 |[t],x=>rfl
 |t::u::ts,x=>by
  have:=Ty.pN (u::ts) x.2;simp only[dk] at this;simp only[Ty.gO,Ty.aE,dk,List.map_cons,this]
def eM {ρ:Type} (b:Bool) (x:Option ρ):Option ρ:=match b with|true=>x|false=>none
def cv {ρ:Type} (a b:Nat) (x:Option ρ):Option ρ:=match Nat.beq a b with|true=>x|false=>none
theorem bZ {ρ:Type} {b:Bool} {x:Option ρ} {r:ρ} (h:eM b x=some r):b=true/\x=some r:=by
 cases b with
 |true=>exact⟨rfl,h⟩
 |false=>cases h
theorem aO {ρ:Type} {a b:Nat} {x:Option ρ} {r:ρ} (h:cv a b x=some r):a=b/\x=some r:=by
 unfold cv at h;split at h
 ·rename_i e;exact⟨Nat.eq_of_beq_eq_true e,h⟩
 ·cases h
abbrev TD:=(t:Ty)×t.D
inductive cQ where
 |t (n:Nat)
 |k (v:SV)
def cQ.er:cQ->MO
 |.t n=>.t n
 |.k v=>.k v.er
def af.ev (σ:af):cQ->SV
 |.t n=>σ.env n
 |.k v=>v
theorem af.dT (σ:af) (x:cQ):σ.er.ev x.er=(σ.ev x).er:=by cases x<;>rfl
def SV.cells?:SV->Option (Bool×List SC)
 |.one .bq=>none
 |.one c=>some (false,[c])
 |.agg cs=>some (true,cs)
 |.bK _=>none
theorem SV.kK {v:SV} {b:Bool} {cs:List SC} (h:v.cells?=some (b,cs)):v.er.cells?=some (b,cs.map SC.er):=by
 cases v with
 |one c=>cases c<;>simp[SV.cells?] at h<;>(obtain⟨rfl,rfl⟩:=h;rfl)
 |agg cs'=>simp[SV.cells?] at h;obtain⟨rfl,rfl⟩:=h;rfl
 |bK xs=>simp[SV.cells?] at h
def Cc:Bool->List SC->SV
 |true,cs=>.agg cs
 |false,[c]=>.one c
 |false,_=>.one .bq
theorem Fo (b:Bool) (cs:List SC):(Cc b cs).er=oD b (cs.map SC.er):=by
 cases b with
 |true=>rfl
 |false=>match cs with
  |[]=>rfl
  |[c]=>rfl
  |_::_::_=>rfl
section
variable {ρ:Type}
def Kp (op:BinOp) (k:IntKind) (a b:Int) (c:(t:Ty)->t.D->Option ρ):Option ρ:=
 match op with
 |.add=>c (.int k) (cR k a b)
 |.sub=>c (.int k) (kf k a b)
 |.mul=>c (.int k) (kC k a b)
 |.quo=>(H7 k a b).ae fun x=>c (.int k) x
 |.rem=>(rz a b).ae fun x=>c (.int k) x
 |.and=>c (.int k) (ahr k a b)
 |.or=>c (.int k) (orI k a b)
 |.xor=>c (.int k) (auw k a b)
 |.eql=>c .bool (dJ a b)
 |.neq=>c .bool (fL a b)
 |.lss=>c .bool (bG a b)
 |.leq=>c .bool (jr a b)
 |.gtr=>c .bool (bG b a)
 |.geq=>c .bool (jr b a)
 |_=>none
theorem ahL {op:BinOp} {k:IntKind} {a b:Int} {c:(t:Ty)->t.D->Option ρ} {r:ρ} (h:Kp op k a b c=some r):
    ∃(t:Ty) (x:t.D),C3 op k a b=some (t.er x)/\c t x=some r:=by
  cases op<;>first
    |exact⟨.int k,_,rfl,h⟩
    |exact⟨.bool,_,rfl,h⟩
    |(simp only[Kp,H7,rz,ed] at h
      obtain⟨x,h1,h2⟩:=h;split at h1
      · cases h1
      · rename_i hb;injection h1 with h1;subst h1;exact⟨.int k,_,by simp[C3,hb,Ty.er],h2⟩)
    |(simp[Kp] at h)
def Nm (op:BinOp) (k:IntKind) (a b:Int) (c:(t:Ty)->t.D->Option ρ):Option ρ:=
 match op with
 |.shl=>(zI k a b).ae fun x=>c (.int k) x
 |.shr=>(afK k a b).ae fun x=>c (.int k) x
 |_=>none
theorem ath {op:BinOp} {k:IntKind} {a b:Int} {c:(t:Ty)->t.D->Option ρ} {r:ρ} (h:Nm op k a b c=some r):
    ∃(t:Ty) (x:t.D),Ip op k a b=some (t.er x)/\c t x=some r:=by
  cases op<;>first
    |(simp only[Nm,zI,afK,ed] at h
      obtain⟨x,h1,h2⟩:=h;split at h1
      · cases h1
      · rename_i hb;injection h1 with h1;subst h1;exact⟨.int k,_,by simp[Ip,hb,Ty.er],h2⟩)
    |(simp[Nm] at h)
def P1 (op:BinOp) (x y:SV) (c:(t:Ty)->t.D->Option ρ):Option ρ:=
 match x,y with
 |.one (.v (.int k) a),.one (.v (.int k') b)=>match BinOp.Bm op with
  |true=>Nm op k a b c
  |false=>match decide (k=k') with
   |true=>Kp op k a b c
   |false=>none
 |_,_=>none
theorem ahM {op:BinOp} {x y:SV} {c:(t:Ty)->t.D->Option ρ} {r:ρ} (h:P1 op x y c=some r):
  ∃(t:Ty) (z:t.D),yr op x.er y.er=some (t.er z)/\c t z=some r:=by
 unfold P1 at h;split at h
 ·rename_i k a k' b;split at h
  ·rename_i e;obtain⟨t,z,h1,h2⟩:=ath h;exact⟨t,z,by simp[SV.er,SC.er,Ty.er,yr,e];exact h1,h2⟩
  ·rename_i e;split at h
   ·rename_i hk;have hk:=of_decide_eq_true hk;obtain⟨t,z,h1,h2⟩:=ahL h;exact⟨t,z,by simp[SV.er,SC.er,Ty.er,yr,e,hk];subst hk;exact h1,h2⟩
   ·cases h
 ·cases h
def P0 (op:BinOp) (x y:SV) (c:(t:Ty)->t.D->Option ρ):Option ρ:=
 match x,y with
 |.one (.v .bool a),.one (.v .bool b)=>match op with
  |.eql=>c .bool (eqB a b)
  |.neq=>c .bool (HP a b)
  |_=>none
 |_,_=>none
theorem ahK {op:BinOp} {x y:SV} {c:(t:Ty)->t.D->Option ρ} {r:ρ} (h:P0 op x y c=some r):
  ∃(t:Ty) (z:t.D),C2 op x.er y.er=some (t.er z)/\c t z=some r:=by
 unfold P0 at h;split at h
 ·rename_i a b;split at h
  ·exact⟨.bool,_,rfl,h⟩
  ·exact⟨.bool,_,rfl,h⟩
  ·cases h
 ·cases h
def Wv (op:UnOp) (x:SV) (c:(t:Ty)->t.D->Option ρ):Option ρ:=
 match x with
 |.one (.v .bool a)=>match op with
  |.not=>c .bool (cZ a)
  |_=>none
 |.one (.v (.int k) a)=>match op with
  |.neg=>c (.int k) (aqB k a)
  |_=>none
 |_=>none
theorem at6 {op:UnOp} {x:SV} {c:(t:Ty)->t.D->Option ρ} {r:ρ} (h:Wv op x c=some r):
  ∃(t:Ty) (z:t.D),Fq op x.er=some (t.er z)/\c t z=some r:=by
 unfold Wv at h;split at h
 ·rename_i a;split at h
  ·exact⟨.bool,_,rfl,h⟩
  ·cases h
 ·rename_i k a;split at h
  ·exact⟨.int k,_,rfl,h⟩
  ·cases h
 ·cases h
def SV.dZ:SV->Option Int
 |.one (.v (.int k) n)=>some n
 |_=>none
theorem SV.zb {v:SV} {n:Int} (h:v.dZ=some n):v.er.dZ=some n:=by
 unfold SV.dZ at h;split at h
 ·injection h with h;subst h;rfl
 ·cases h
def Iv (h:Nat->Option SB) (p:SC) (sz:Nat) (c:List SC->Option ρ):Option ρ:=
 match p with
 |.ptr n k aB off=>match h n with
  |some (.box cs)=>cv k 0 (match sub cs off sz with|some l=>c l|none=>none)
  |some (.row _ m ts xs)=>cv aB ts.length ((cK xs k).ae fun e=>
   match sub (match m with|.live=>Ty.live n k ts.length 0 ts e|_=>Ty.cells ts e) off sz with
   |some l=>c l
   |none=>none)
  |none=>none
 |.dg ts x off=>match sub (Ty.cells ts x) off sz with|some l=>c l|none=>none
 |.cH ts x off j n s len=>match Nat.beq off j&&Nat.beq sz 1 with
  |true=>c [.sl n s 0 len]
  |false=>eM (Nat.ble (off+sz) j) (match sub (Ty.cells ts x) off sz with|some l=>c l|none=>none)
 |.db n kk aB off s i=>match h n with
  |some (.row _ .live ts xs)=>cv ts.length aB ((cK xs kk).ae fun e=>match(Ty.gO ts e)[off]? with
   |some ⟨.list us,ys⟩=>cv us.length s (cv sz s (eM (Ty.fG us) ((cK (α:=Ty.DL us) ys i).ae fun y=>c (Ty.cells us y))))
   |_=>none)
  |_=>none
 |_=>none
theorem aac {ts:List Ty} {ys:List (Ty.DL ts)} {i:Nat} {y:Ty.DL ts} (h:cK ys i=some y):(List.map (Ty.aE ts) ys)[i]? =some (Ty.aE ts y):=by
 have h0:ys[i]? =some y:=h;rw[List.getElem?_map,h0];rfl
theorem aqL {us:List Ty} {L:List (List C)} {i:Nat} {y:Ty.DL us} (h:L[i]? =some (Ty.aE us y)) (hs:Ty.fG us=true):
  (match L[i]? with|some e=>if Am.fG e=true then some (e.map .c) else none|none=>none)=some ((Ty.cells us y).map SC.er):=by
 rw[h];simp only[Ty.Ij,hs,if_true,Ty.kK]
theorem ail:∀{ts:List Ty} {e:Ty.DL ts} {off:Nat} {x:TD},(Ty.gO ts e)[off]? =some x->(Ty.aE ts e)[off]? =some (x.1.er x.2):=by
 intro ts e off x h;rw[<-Ty.pN,dk,List.getElem?_map,h];rfl
theorem VH {h:Nat->Option SB} {p:SC} {sz:Nat} {c:List SC->Option ρ} {r:ρ} (hx:Iv h p sz c=some r):
  ∃l,loadAt (dd h) p.er sz=some (l.map SC.er)/\c l=some r:=by
 unfold Iv at hx;split at hx
 ·rename_i n k aB off;split at hx
  ·rename_i cs hn;have bg:=(aO hx).1;replace hx:=(aO hx).2;subst bg;split at hx
   ·rename_i l e;refine⟨l,?_,hx⟩;simp[SC.er,loadAt,dd,hn,SB.er,s8,e]
   ·cases hx
  ·rename_i gr m ts xs hn;have bg:=(aO hx).1;replace hx:=(aO hx).2;subst bg;rw[ed] at hx;obtain⟨e,he,hx⟩:=hx
   replace he:xs[k]? =some e:=he
   split at hx
   ·rename_i l hl;refine⟨l,?_,hx⟩;have iV:(List.map (Ty.aE ts) xs)[k]? =some (Ty.aE ts e):=by rw[List.getElem?_map,he];rfl
    simp only[SC.er,loadAt,dd,hn,Option.map_some,SB.er,if_true,iV];cases m with
    |live=>
     simp only at hl;have:=congrArg (Option.map (List.map SC.er)) hl;rw[<-s8,Ty.abn,atL] at this;cases hs:sub (Ty.aE ts e) off sz with
     |none=>rw[hs] at this;cases this
     |some l'=>rw[hs] at this;simpa using this
    |aN=>
     simp only at hl;have:=congrArg (Option.map (List.map SC.er)) hl;rw[<-s8,Ty.kK,s8] at this;cases hs:sub (Ty.aE ts e) off sz with
     |none=>rw[hs] at this;cases this
     |some l'=>rw[hs] at this;simpa using this
    |aJ=>
     simp only at hl;have:=congrArg (Option.map (List.map SC.er)) hl;rw[<-s8,Ty.kK,s8] at this;cases hs:sub (Ty.aE ts e) off sz with
     |none=>rw[hs] at this;cases this
     |some l'=>rw[hs] at this;simpa using this
   ·cases hx
  ·cases hx
 ·rename_i ts x off;split at hx
  ·rename_i l hl;refine⟨l,?_,hx⟩;have:=congrArg (Option.map (List.map SC.er)) hl;rw[<-s8,Ty.kK,s8] at this;simpa[SC.er,loadAt] using this
  ·cases hx
 ·rename_i ts x off j n s len;split at hx
  ·rename_i hc;simp only[Bool.and_eq_true] at hc;have h1:=Nat.eq_of_beq_eq_true hc.1;have h2:=Nat.eq_of_beq_eq_true hc.2;subst h1 h2;exact⟨_,by simp[SC.er,loadAt],hx⟩
  ·rename_i hc;have aD:¬(off=j/\sz=1):=by
    rintro⟨rfl,rfl⟩;simp at hc
   have hb:=(bZ hx).1;replace hx:=(bZ hx).2;have gG:=Nat.le_of_ble_eq_true hb;split at hx
   ·rename_i l hl;refine⟨l,?_,hx⟩;have:=congrArg (Option.map (List.map SC.er)) hl;rw[<-s8,Ty.kK,s8] at this;simp only[SC.er,loadAt];rw[if_neg aD,if_pos gG];cases hs:sub (Ty.aE ts x) off sz with
    |none=>rw[hs] at this;cases this
    |some l'=>rw[hs] at this;simpa using this
   ·cases hx
 ·rename_i n kk aB off s i;split at hx
  ·rename_i gr ts xs hn;have bg:=(aO hx).1;replace hx:=(aO hx).2;subst bg;rw[ed] at hx;obtain⟨e,he,hx⟩:=hx
   replace he:xs[kk]? =some e:=he
   split at hx
   ·rename_i us ys hd;have bg:=(aO hx).1;replace hx:=(aO hx).2;subst bg;have bg:=(aO hx).1;replace hx:=(aO hx).2;subst bg;have hs:=(bZ hx).1;replace hx:=(bZ hx).2;rw[ed] at hx;obtain⟨y,hy,hx⟩:=hx;have hy2:(List.map (Ty.aE us) ys)[i]? =some (Ty.aE us y):=aac (ts:=us) (ys:=ys) hy;refine⟨Ty.cells us y,?_,hx⟩;have iV:=ail hd;simp only[SC.er,loadAt,dd,hn,Option.map_some,SB.er,if_true,List.getElem?_map,he,Option.bind_some,iV,Ty.er,and_self];exact aqL hy2 hs
   ·cases hx
  ·cases hx
 ·cases hx
theorem KI:∀{ts:List Ty} {e:Ty.DL ts} {off:Nat} {x:TD},(Ty.gO ts e)[off]? =some x->(Ty.aE ts e)[off]? =some (x.1.er x.2):=by
 intro ts e off x h;rw[<-Ty.pN,dk,List.getElem?_map,h];rfl
def xS (h:Nat->Option SB) (c:SC) (k:(t:Ty)->t.D->Option ρ):Option ρ:=
 match c with
 |.v t x=>k t x
 |.nil ts=>match ts with
  |[]=>none
  |t::us=>k (.list (t::us)) ([]:List (Ty.DL (t::us)))
 |.sl n sz lo len=>match h n with
  |some (.row _ _ ts xs)=>cv ts.length sz ((cr xs lo len).ae fun ys=>k (.list ts) ys)
  |_=>none
 |.bC n kk aB off sz len=>match h n with
  |some (.row _ .live ts xs)=>cv ts.length aB ((cK xs kk).ae fun e=>match(Ty.gO ts e)[off]? with
   |some ⟨t,x⟩=>k t x
   |none=>none)
  |_=>none
 |_=>none
theorem aha {ts:List Ty} {xs ys:List (Ty.DL ts)} {lo len:Nat} (h:cr xs lo len=some ys):lo+len<=xs.length/\((List.map (Ty.aE ts) xs).drop lo).take len=List.map (Ty.aE ts) ys:=by
 unfold cr at h;split at h
 ·rename_i hl;injection h with h;subst h;exact⟨hl,by simp[List.map_drop,List.map_take]⟩
 ·cases h
theorem B9 {h:Nat->Option SB} {c:SC} {k:(t:Ty)->t.D->Option ρ} {r:ρ} (hx:xS h c k=some r):
  ∃(t:Ty) (x:t.D),cO (dd h) c.er=some (t.er x)/\k t x=some r:=by
 unfold xS at hx;split at hx
 ·exact⟨_,_,rfl,hx⟩
 ·split at hx
  ·cases hx
  ·rename_i t us;exact⟨.list (t::us),[],by simp[SC.er,cO,Ty.er],hx⟩
 ·rename_i n sz lo len;split at hx
  ·rename_i gr m ts xs hn;have bg:=(aO hx).1;replace hx:=(aO hx).2;subst bg;rw[ed] at hx;obtain⟨ys,hw,hx⟩:=hx;obtain⟨w1,w2⟩:=aha hw;refine⟨.list ts,ys,?_,hx⟩;simp only[SC.er,cO,dd,hn,Option.map_some,SB.er,List.length_map,Ty.er,w2,w1,and_self,if_true]
  ·cases hx
 ·rename_i n kk aB off sz len;split at hx
  ·rename_i gr ts xs hn;have bg:=(aO hx).1;replace hx:=(aO hx).2;subst bg;rw[ed] at hx;obtain⟨e,he,hx⟩:=hx
   replace he:xs[kk]? =some e:=he
   split at hx
   ·rename_i t x hd;refine⟨t,x,?_,hx⟩;have:=KI hd;simp only[SC.er,cO,dd,hn,Option.map_some,SB.er,if_true,List.getElem?_map,he,Option.bind_some,this]
   ·cases hx
  ·cases hx
 ·cases hx
def Ca (h:Nat->Option SB):List SC->(List TD->Option ρ)->Option ρ
 |[],k=>k []
 |c::cs,k=>xS h c fun t x=>Ca h cs fun l=>k (⟨t,x⟩::l)
theorem IF {h:Nat->Option SB}:∀{cs:List SC} {k:List TD->Option ρ} {r:ρ},Ca h cs k=some r->
  ∃l,iN (dd h) (cs.map SC.er)=some (dk l)/\k l=some r
 |[],k,r,hx=>⟨[],rfl,hx⟩
 |c::cs,k,r,hx=>by
  simp only[Ca] at hx;obtain⟨t,x,h1,h2⟩:=B9 hx;obtain⟨l,h3,h4⟩:=IF h2;exact⟨⟨t,x⟩::l,by simp[iN,h1,h3,dk],h4⟩
abbrev ci:=K×List TD
def ci.er (d:ci):Dv:=(d.1,dk d.2)
def Wa (h:Nat->Option SB) (v:SV) (k:ci->Option ρ):Option ρ:=
 match v with
 |.one (.ptr n kk sz off)=>match h n with
  |some (.box cs)=>cv kk 0 (cv off 0 (Ca h cs fun l=>k (.ptr,l)))
  |_=>none
 |.one (.dg ts x off)=>cv off 0 (k (.ptr,Ty.gO ts x))
 |.one c=>xS h c fun t x=>k (.one,[⟨t,x⟩])
 |.agg cs=>Ca h cs fun l=>k (.agg,l)
 |.bK _=>none
theorem atP {h:Nat->Option SB} {v:SV} {k:ci->Option ρ} {r:ρ} (hx:Wa h v k=some r):
  ∃d:ci,je (dd h) v.er=some d.er/\k d=some r:=by
 unfold Wa at hx;split at hx
 ·rename_i n kk sz off;split at hx
  ·rename_i cs hn;have bg:=(aO hx).1;replace hx:=(aO hx).2;subst bg;have bg:=(aO hx).1;replace hx:=(aO hx).2;subst bg;obtain⟨l,h1,h2⟩:=IF hx;exact⟨(.ptr,l),by simp[SV.er,SC.er,je,dd,hn,SB.er];exact⟨_,h1,rfl⟩,h2⟩
  ·cases hx
 ·rename_i ts x off;have bg:=(aO hx).1;replace hx:=(aO hx).2;subst bg;exact⟨(.ptr,Ty.gO ts x),by simp[SV.er,SC.er,je,ci.er,Ty.pN],hx⟩
 ·rename_i c hp hd;obtain⟨t,x,h1,h2⟩:=B9 hx;refine⟨(.one,[⟨t,x⟩]),?_,h2⟩;cases c with
  |ptr n kk sz off=>exact absurd rfl (hp n kk sz off)
  |dg ts x off=>exact absurd rfl (hd ts x off)
  |v t' x'=>simp only[SV.er,SC.er,je] at h1⊢;rw[h1];rfl
  |nil ts=>simp only[SV.er,SC.er,je] at h1⊢;rw[h1];rfl
  |sl n sz lo len=>simp only[SV.er,SC.er,je] at h1⊢;rw[h1];rfl
  |bC n a b c' d e=>simp only[SV.er,SC.er,je] at h1⊢;rw[h1];rfl
  |db n a b c' d e=>simp only[SV.er,SC.er,je] at h1⊢;rw[h1];rfl
  |cH ts x a b n c' d=>simp only[SV.er,SC.er,je] at h1⊢;rw[h1];rfl
  |fn f cP=>simp only[SV.er,SC.er,je] at h1⊢;rw[h1];rfl
  |bq=>simp only[SV.er,SC.er,je] at h1⊢;rw[h1];rfl
 ·obtain⟨l,h1,h2⟩:=IF hx;exact⟨(.agg,l),by simp[SV.er,je,h1,ci.er],h2⟩
 ·cases hx
def Fi (h:Nat->Option SB):List SV->(List ci->Option ρ)->Option ρ
 |[],k=>k []
 |v::vs,k=>Wa h v fun d=>Fi h vs fun l=>k (d::l)
theorem NV {h:Nat->Option SB}:∀{vs:List SV} {k:List ci->Option ρ} {r:ρ},Fi h vs k=some r->
  ∃l,lm (dd h) (vs.map SV.er)=some (l.map ci.er)/\k l=some r
 |[],k,r,hx=>⟨[],rfl,hx⟩
 |v::vs,k,r,hx=>by
  simp only[Fi] at hx;obtain⟨d,h1,h2⟩:=atP hx;obtain⟨l,h3,h4⟩:=NV h2;exact⟨d::l,by simp[lm,h1,h3],h4⟩
def Mode.own:Mode->Bool
 |.aJ=>false
 |_=>true
theorem Mode.aqV (m:Mode):decide (m≠ .aJ)=m.own:=by cases m<;>rfl
def NP (σ:af) (c:SC) (k:(t:Ty)->t.D->Bool->af->Option ρ):Option ρ:=
 match c with
 |.v t x=>k t x t.fk σ
 |.nil ts=>match ts with
  |[]=>none
  |t::us=>k (.list (t::us)) ([]:List (Ty.DL (t::us))) true σ
 |.sl n sz lo len=>match σ.h n with
  |some (.row _ m ts xs)=>cv ts.length sz (cv lo 0 ((dN xs len).ae fun ys=>k (.list ts) ys m.own (σ.del n)))
  |_=>none
 |_=>none
theorem Wn {ts:List Ty} {xs ys:List (Ty.DL ts)} {len:Nat} (h:dN xs len=some ys):len<=xs.length/\(List.map (Ty.aE ts) xs).take len=List.map (Ty.aE ts) ys:=by
 unfold dN at h;split at h
 ·rename_i hl;injection h with h;subst h;exact⟨hl,by simp[List.map_take]⟩
 ·cases h
theorem agr {σ:af} {c:SC} {k:(t:Ty)->t.D->Bool->af->Option ρ} {r:ρ} (hx:NP σ c k=some r):
  ∃(t:Ty) (x:t.D) (o:Bool) (σ1:af),σ.er.fY c.er=some (t.er x,o,σ1.er)/\k t x o σ1=some r:=by
 unfold NP at hx;split at hx
 ·rename_i t x;exact⟨_,_,_,_,by simp only[SC.er,St.fY,Ty.xN],hx⟩
 ·split at hx
  ·cases hx
  ·rename_i t us;exact⟨.list (t::us),[],true,σ,by simp[SC.er,St.fY,Ty.er],hx⟩
 ·rename_i n sz lo len;split at hx
  ·rename_i gr m ts xs hn;have bg:=(aO hx).1;replace hx:=(aO hx).2;subst bg;have bg:=(aO hx).1;replace hx:=(aO hx).2;subst bg;rw[ed] at hx;obtain⟨ys,hw,hx⟩:=hx;obtain⟨w1,w2⟩:=Wn hw;refine⟨.list ts,ys,m.own,σ.del n,?_,hx⟩;have bu:σ.er.h n=some (.row gr m ts.length (List.map (Ty.aE ts) xs)):=by simp[af.er,dd,hn,SB.er]
   simp only[SC.er,St.fY,bu,List.length_map,w1,w2,and_self,if_true,Ty.er,af.Ax,Mode.aqV]
  ·cases hx
 ·cases hx
def B7 (σ:af):List SC->(List TD->Bool->af->Option ρ)->Option ρ
 |[],k=>k [] true σ
 |c::cs,k=>NP σ c fun t x o σ1=>B7 σ1 cs fun l o' σ2=>k (⟨t,x⟩::l) (o&&o') σ2
theorem IE:∀{cs:List SC} {σ:af} {k:List TD->Bool->af->Option ρ} {r:ρ},B7 σ cs k=some r->
  ∃(l:List TD) (o:Bool) (σ1:af),σ.er.gC (cs.map SC.er)=some (dk l,o,σ1.er)/\k l o σ1=some r
 |[],σ,k,r,hx=>⟨[],true,σ,rfl,hx⟩
 |c::cs,σ,k,r,hx=>by
  simp only[B7] at hx;obtain⟨t,x,o,σ1,h1,h2⟩:=agr hx;obtain⟨l,o',σ2,h3,h4⟩:=IE h2;exact⟨⟨t,x⟩::l,o&&o',σ2,by simp[St.gC,h1,h3,dk],h4⟩
def NQ (ts:List Ty) (σ:af):List SV->(List (Ty.DL ts)->Bool->af->Option ρ)->Option ρ
 |[],k=>k [] true σ
 |v::vs,k=>match v.cells? with
  |some (_,cs)=>B7 σ cs fun l o σ1=>match rn ts l with
   |some e=>NQ ts σ1 vs fun es o' σ2=>k (e::es) (o&&o') σ2
   |none=>none
  |none=>none
theorem agO:∀{cs:List ah} {σ σ1:St} {l:List C} {o:Bool},σ.gC cs=some (l,o,σ1)->l.length=cs.length
 |[],σ,σ1,l,o,h=>by simp[St.gC] at h;rw[h.1];rfl
 |c::cs,σ,σ1,l,o,h=>by
  simp only[St.gC] at h;split at h
  ·split at h
   ·rename_i e2;injection h with h;injection h with h h2;subst h;simp[agO e2]
   ·cases h
  ·cases h
theorem ags {ts:List Ty}:∀{vs:List SV} {σ:af} {k:List (Ty.DL ts)->Bool->af->Option ρ} {r:ρ},NQ ts σ vs k=some r->
  ∃(es:List (Ty.DL ts)) (o:Bool) (σ1:af),σ.er.mV ts.length (vs.map SV.er)=some (List.map (Ty.aE ts) es,o,σ1.er)/\k es o σ1=some r
 |[],σ,k,r,hx=>⟨[],true,σ,rfl,hx⟩
 |v::vs,σ,k,r,hx=>by
  simp only[NQ] at hx;split at hx
  ·rename_i b cs hc;obtain⟨l,o,σ1,h1,h2⟩:=IE hx;split at h2
   ·rename_i e he;obtain⟨es,o',σ2,h3,h4⟩:=ags h2;have hl:(cs.map SC.er).length=ts.length:=by
     have a:=agO h1;rw[<-xv he,Ty.Dp] at a;exact a.symm
    refine⟨e::es,o&&o',σ2,?_,h4⟩;simp only[List.map_cons,St.mV,SV.kK hc,hl,if_true,h1,h3,xv he]
   ·cases h2
  ·cases hx
end
end Go.Am
