/- AmP, AmQ: parts of the proof. No condition. -/
import Derived.Test.YtfkfmbhknekkdaaAm21
set_option linter.unusedVariables false
set_option linter.unusedSimpArgs false
section
namespace Go.Am
theorem ae.ah8 {c:ae} {m:Nat}:m∈c.pY↔c.gu m:=by
 cases c<;>simp[ae.pY,ae.gu]
theorem ae.Cx {c:ae} {m:Nat}:m∈c.nm↔c.ref m:=by
 cases c with
 |fn f bM=>simp[ae.nm,ae.ref,List.mem_flatMap,ae.ah8]
 |_=>simp[ae.nm,ae.pY,ae.ref,ae.gu]
theorem ai.wV {v:ai} {m:Nat}:m∈v.fM↔v.ref m:=by
 cases v with
 |one c=>exact ae.Cx
 |agg cs=>simp[ai.fM,ai.ref,List.mem_flatMap,ae.Cx]
 |aY xs=>simp only[ai.fM,ai.ref,List.mem_flatMap,ae.Cx]
theorem nA {op:aw} {ev:MO->ai} {n:Nat}:n∈op.gT ev↔∃a∈op.args,(ev a).ref n:=by
 simp[aw.gT,List.mem_flatMap,ai.wV]
theorem Gp {op:aw} {ev:MO->ai} {h:Nat->Option ak} {n:Nat} (hn:n∈op.gT ev):n∈op.kl ev h:=by
 unfold aw.kl
 cases op.Cf with
 |true=>exact List.mem_append.2 (.inl hn)
 |false=>exact hn
theorem ZC {op:aw} {ev:MO->ai} {h:Nat->Option ak} {ws:List Nat} (hw:op.iV ev h=some ws) {n:Nat} (hn:n∈ws):n∈op.gT ev:=by
 cases op<;>simp only[aw.iV] at hw<;>first|(cases hw;cases hn)|(cases hw;done)|skip
 case store sz x v=>
  split at hw
  ·rename_i q _ _ _ hx
   have hq:q∈(aw.store sz x v).gT ev:=nA.2 ⟨x,by simp[aw.args],by rw[hx];exact rfl⟩
   split at hw
   ·injection hw with hw;subst hw;simp at hn;subst hn;exact hq
   ·injection hw with hw;subst hw
    rcases List.mem_cons.1 hn with rfl|hn
    ·exact hq
    ·exact nA.2 ⟨v,by simp[aw.args],ai.wV.1 hn⟩
   ·cases hw
  ·rename_i q _ _ _ _ _ hx
   have hq:q∈(aw.store sz x v).gT ev:=nA.2 ⟨x,by simp[aw.args],by rw[hx];exact rfl⟩
   injection hw with hw;subst hw;simp at hn;subst hn;exact hq
  ·cases hw
 case copy sz x y=>
  split at hw
  ·rename_i q _ _ _ hx
   injection hw with hw;subst hw;simp at hn;subst hn
   exact nA.2 ⟨x,by simp[aw.args],by rw[hx];exact rfl⟩
  ·cases hw
 case jz z x=>
  split at hw
  ·rename_i q _ _ _ hx
   injection hw with hw;subst hw;simp at hn;subst hn
   exact nA.2 ⟨x,by simp[aw.args],by rw[hx];exact rfl⟩
  ·cases hw
 case gA sz ps=>
  injection hw with hw
  subst hw
  obtain⟨a,ha,hn⟩:=List.mem_flatMap.1 hn
  exact nA.2 ⟨a,ha,ai.wV.1 hn⟩
 case iu f xs=>
  injection hw with hw
  subst hw
  obtain⟨a,ha,hn⟩:=List.mem_flatMap.1 hn
  exact nA.2 ⟨a,ha,ai.wV.1 hn⟩
 case append fl sz by_ x y=>
  injection hw with hw
  subst hw
  rcases List.mem_append.1 hn with hn|hn
  ·exact nA.2 ⟨x,by simp[aw.args],ai.wV.1 hn⟩
  ·exact nA.2 ⟨y,by simp[aw.args],ai.wV.1 hn⟩
def St.cX (σ:St):List (Nat×Option ak)->St
 |[]=>σ
 |(n,b)::l=>St.cX {σ with h:=aq σ.h n b} l
def dg (h:Nat->Option ak):List (Nat×Option ak)->(Nat->Option ak)
 |[]=>h
 |(n,b)::l=>dg (aq h n b) l
theorem jM:∀(l:List (Nat×Option ak)) (σ:St),σ.cX l={σ with h:=dg σ.h l}
 |[],σ=>rfl
 |(n,b)::l,σ=>by simp only[St.cX,dg];rw[jM l]
theorem lQ:∀{l:List (Nat×Option ak)} {h:Nat->Option ak} {n:Nat},(∀p∈l,p.1≠n)->dg h l n=h n
 |[],h,n,_=>rfl
 |(m,b)::l,h,n,hn=>by
  simp only[dg]
  rw[lQ fun p hp=>hn p (List.mem_cons_of_mem _ hp)]
  exact cd _ _ _ _ (fun e=>hn (m,b) (by simp) e.symm)
theorem alh (h:Nat->Option ak) (l l':List (Nat×Option ak)):dg h (l++l')=dg (dg h l) l':=by
 induction l generalizing h with
 |nil=>rfl
 |cons x l ih=>obtain⟨n,b⟩:=x;exact ih _
theorem An (σ:St) (l l':List (Nat×Option ak)):σ.cX (l++l')=(σ.cX l).cX l':=by
 simp only[jM,alh]
theorem Df:∀{l:List (Nat×Option ak)} {h h':Nat->Option ak} {n:Nat},(∃p∈l,p.1=n)->dg h l n=dg h' l n
 |[],h,h',n,hn=>by obtain⟨p,hp,_⟩:=hn;cases hp
 |(m,b)::l,h,h',n,hn=>by
  simp only[dg]
  by_cases hl:∃p∈l,p.1=n
  ·exact Df hl
  ·have cq:∀p∈l,p.1≠n:=fun p hp e=>hl ⟨p,hp,e⟩
   rw[lQ cq,lQ cq]
   obtain⟨p,hp,e⟩:=hn
   rcases List.mem_cons.1 hp with rfl|hp
   ·simp only at e;subst e;rw[bu,bu]
   ·exact absurd e (cq p hp)
theorem Zq {u v:List (Nat×Option ak)} (hd:∀p∈u,∀q∈v,p.1≠q.1) (h:Nat->Option ak):dg (dg h u) v=dg (dg h v) u:=by
 funext n
 by_cases hu:∃p∈u,p.1=n
 ·obtain⟨p,hp,rfl⟩:=hu
  rw[lQ (l:=v) fun q hq e=>hd p hp q hq e.symm]
  exact Df ⟨p,hp,rfl⟩
 ·rw[lQ (l:=u) (h:=dg h v) fun p hp e=>hu ⟨p,hp,e⟩]
  by_cases hv:∃q∈v,q.1=n
  ·exact Df hv
  ·rw[lQ fun q hq e=>hv ⟨q,hq,e⟩,lQ fun p hp e=>hu ⟨p,hp,e⟩,lQ fun q hq e=>hv ⟨q,hq,e⟩]
theorem alj {u v:List (Nat×Option ak)} (hd:∀p∈u,∀q∈v,p.1≠q.1) (σ:St):(σ.cX u).cX v=(σ.cX v).cX u:=by
 simp only[jM,Zq hd]
theorem Zr (σ:St) (e:Nat->ai) (l:List (Nat×Option ak)):(σ.we e).cX l=(σ.cX l).we e:=by
 simp only[jM];rfl
theorem ali {l:List (Nat×Option ak)} {h:Nat->Option ak} {n:Nat} {b:Option ak} (hn:∀p∈l,p.1≠n):dg (aq h n b) l=aq (dg h l) n b:=by
 have:=Zq (u:=l) (v:=[(n,b)]) (fun p hp q hq=>by simp at hq;subst hq;exact hn p hp) h
 exact this.symm
theorem afg {σ σ1:St} {l:List (Nat×Option ak)} {n:Nat} {b:ak} (hl:∀p∈l,σ.used p.1=true) (h:σ.ins n b=some σ1):(σ.cX l).ins n b=some (σ1.cX l):=by
 obtain⟨u1,rfl⟩:=j8 h
 unfold St.ins
 rw[jM,jM]
 rw[if_neg (show¬σ.used n=true by rw[u1];simp)]
 simp only
 rw[ali fun p hp e=>by rw[<-e,hl p hp] at u1;cases u1]
theorem Cd:∀{A:List (Nat×ak)} {σ σ1:St} {l:List (Nat×Option ak)},(∀p∈l,σ.used p.1=true)->σ.cu A=some σ1->(σ.cX l).cu A=some (σ1.cX l)
 |[],σ,σ1,l,hl,h=>by
  simp only[St.cu] at h⊢
  injection h with h
  rw[h]
 |(n,b)::A,σ,σ1,l,hl,h=>by
  simp only[St.cu] at h⊢
  split at h
  ·rename_i iF e
   rw[afg hl e]
   obtain⟨u1,rfl⟩:=j8 e
   exact Cd (fun p hp=>oT _ _ (hl p hp)) h
  ·cases h
theorem V0:∀{A:List (Nat×ak)} {σ σ':St},σ.used=σ'.used->(σ.cu A).isSome=true->(σ'.cu A).isSome=true
 |[],σ,σ',hu,h=>rfl
 |(n,b)::A,σ,σ',hu,h=>by
  simp only[St.cu,St.ins] at h⊢
  rw[<-hu]
  split at h
  ·rename_i iF e
   split at e
   ·cases e
   ·rename_i hn
    injection e with e
    subst e
    rw[if_neg hn]
    simp only
    exact V0 (by rfl) h
  ·cases h
theorem LP {A:List (Nat×ak)} {σ B:St} {l:List (Nat×Option ak)} (hl:∀p∈l,σ.used p.1=true) (h:(σ.cX l).cu A=some B):∃B',σ.cu A=some B'/\B=B'.cX l:=by
 have hs:(σ.cu A).isSome=true:=V0 (A:=A) (σ:=σ.cX l) (σ':=σ) (by rw[jM]) (by rw[h];rfl)
 cases e:σ.cu A with
 |none=>rw[e] at hs;cases hs
 |some B'=>
  refine⟨B',rfl,?_⟩
  have:=Cd hl e
  rw[h] at this
  injection this
abbrev Us:=List (Nat×Option ak)
def qh (h:Nat->Option ak):ae->Option (C×Bool×Us)
 |.c x=>some (x,x.dX,[])
 |.nil sz=>if 0<sz then some (.list sz [],true,[]) else none
 |.sl n sz lo len=>
  match h n with
  |some (.row _ m rs xs)=>if rs=sz/\lo=0/\len<=xs.length then some (.list sz (xs.take len),decide (m≠ .aF),[(n,none)]) else none
  |_=>none
 |_=>none
def iD (h:Nat->Option ak):List ae->Option (List C×Bool×Us)
 |[]=>some ([],true,[])
 |c::cs=>match qh h c with
  |some (x,o,u)=>match iD (dg h u) cs with
   |some (xs,o',u')=>some (x::xs,o&&o',u++u')
   |none=>none
  |none=>none
def mM (sz:Nat) (h:Nat->Option ak):List ai->Option (List (List C)×Bool×Us)
 |[]=>some ([],true,[])
 |v::vs=>match v.cells? with
  |some (_,cs)=>if cs.length=sz then
   match iD h cs with
   |some (e,o,u)=>match mM sz (dg h u) vs with
    |some (es,o',u')=>some (e::es,o&&o',u++u')
    |none=>none
   |none=>none
   else none
  |none=>none
theorem Dg (σ:St) (l:Us):(σ.cX l).h=dg σ.h l:=by rw[jM]
theorem ala (σ:St) (c:ae):σ.fe c=(qh σ.h c).map fun x=>(x.1,x.2.1,σ.cX x.2.2):=by
 cases c with
 |sl n sz lo len=>
  simp only[St.fe,qh]
  cases σ.h n with
  |none=>rfl
  |some b=>cases b with
   |box cs=>rfl
   |row gr m rs xs=>simp only;split<;>rfl
 |nil sz=>simp only[St.fe,qh];split<;>rfl
 |_=>rfl
theorem HA:∀(cs:List ae) (σ:St),σ.eS cs=(iD σ.h cs).map fun x=>(x.1,x.2.1,σ.cX x.2.2)
 |[],σ=>rfl
 |c::cs,σ=>by
  simp only[St.eS,iD,ala]
  cases qh σ.h c with
  |none=>rfl
  |some x=>
   obtain⟨x,o,u⟩:=x
   simp only[Option.map_some,HA cs,Dg]
   cases iD (dg σ.h u) cs with
   |none=>rfl
   |some y=>obtain⟨xs,o',u'⟩:=y;simp only[Option.map_some,An]
theorem Zd (sz:Nat):∀(vs:List ai) (σ:St),σ.jK sz vs=(mM sz σ.h vs).map fun x=>(x.1,x.2.1,σ.cX x.2.2)
 |[],σ=>rfl
 |v::vs,σ=>by
  simp only[St.jK,mM]
  cases v.cells? with
  |none=>rfl
  |some x=>
   obtain⟨b,cs⟩:=x
   simp only
   split
   ·rw[HA]
    cases iD σ.h cs with
    |none=>rfl
    |some y=>
     obtain⟨e,o,u⟩:=y
     simp only[Option.map_some,Zd sz vs,Dg]
     cases mM sz (dg σ.h u) vs with
     |none=>rfl
     |some y=>obtain⟨es,o',u'⟩:=y;simp only[Option.map_some,An]
   ·rfl
theorem ak8 {h:Nat->Option ak} {c:ae} {x:C} {o:Bool} {u:Us} (e:qh h c=some (x,o,u)):∀q∈u,q.1∈c.nm:=by
 unfold qh at e
 split at e
 ·injection e with e;injection e with _ e;injection e with _ e;subst e;intro q hq;cases hq
 ·split at e
  ·injection e with e;injection e with _ e;injection e with _ e;subst e;intro q hq;cases hq
  ·cases e
 ·split at e
  ·split at e
   ·injection e with e;injection e with _ e;injection e with _ e;subst e;intro q hq;simp at hq;subst hq;simp[ae.nm,ae.pY]
   ·cases e
  ·cases e
 ·cases e
theorem Hz:∀{cs:List ae} {h:Nat->Option ak} {xs:List C} {o:Bool} {u:Us},iD h cs=some (xs,o,u)->∀q∈u,q.1∈cs.flatMap ae.nm
 |[],h,xs,o,u,e=>by
  simp only[iD] at e
  injection e with e;injection e with _ e;injection e with _ e;subst e;intro q hq;cases hq
 |c::cs,h,xs,o,u,e=>by
  simp only[iD] at e
  split at e
  ·rename_i x o1 u1 e1
   split at e
   ·rename_i gw o2 u2 e2
    injection e with e;injection e with _ e;injection e with _ e;subst e
    intro q hq
    rw[List.flatMap_cons]
    rcases List.mem_append.1 hq with hq|hq
    ·exact List.mem_append.2 (.inl (ak8 e1 q hq))
    ·exact List.mem_append.2 (.inr (Hz e2 q hq))
   ·cases e
  ·cases e
theorem yd {v:ai} {b:Bool} {cs:List ae} (h:v.cells?=some (b,cs)):cs.flatMap ae.nm=v.fM:=by
 cases v with
 |one c=>cases c<;>simp[ai.cells?] at h<;>(obtain⟨_,rfl⟩:=h;simp[ai.fM])
 |agg cs'=>simp[ai.cells?] at h;obtain⟨_,rfl⟩:=h;rfl
 |aY xs=>simp[ai.cells?] at h
theorem Zc {sz:Nat}:∀{vs:List ai} {h:Nat->Option ak} {xs:List (List C)} {o:Bool} {u:Us},mM sz h vs=some (xs,o,u)->∀q∈u,q.1∈vs.flatMap ai.fM
 |[],h,xs,o,u,e=>by
  simp only[mM] at e
  injection e with e;injection e with _ e;injection e with _ e;subst e;intro q hq;cases hq
 |v::vs,h,xs,o,u,e=>by
  simp only[mM] at e
  split at e
  ·rename_i b cs hv
   split at e
   ·split at e
    ·rename_i x o1 u1 e1
     split at e
     ·rename_i gw o2 u2 e2
      injection e with e;injection e with _ e;injection e with _ e;subst e
      intro q hq
      rw[List.flatMap_cons]
      rcases List.mem_append.1 hq with hq|hq
      ·exact List.mem_append.2 (.inl (yd hv▸Hz e1 q hq))
      ·exact List.mem_append.2 (.inr (Zc e2 q hq))
     ·cases e
    ·cases e
   ·cases e
  ·cases e
theorem De {h h':Nat->Option ak} {n:Nat} (hh:h' n=h n) (u:Us):dg h' u n=dg h u n:=by
 by_cases hu:∃p∈u,p.1=n
 ·exact Df hu
 ·rw[lQ fun p hp e=>hu ⟨p,hp,e⟩,lQ fun p hp e=>hu ⟨p,hp,e⟩,hh]
theorem ak7 {h h':Nat->Option ak} {c:ae} (hh:∀n∈c.nm,h' n=h n):qh h' c=qh h c:=by
 cases c with
 |sl n sz lo len=>simp only[qh];rw[hh n (by simp[ae.nm,ae.pY])]
 |_=>rfl
theorem Hy:∀{cs:List ae} {h h':Nat->Option ak},(∀n∈cs.flatMap ae.nm,h' n=h n)->iD h' cs=iD h cs
 |[],h,h',_=>rfl
 |c::cs,h,h',hh=>by
  simp only[iD]
  rw[ak7 fun n hn=>hh n (by rw[List.flatMap_cons];exact List.mem_append.2 (.inl hn))]
  cases qh h c with
  |none=>rfl
  |some x=>
   obtain⟨x,o,u⟩:=x
   simp only
   rw[Hy (cs:=cs) (h:=dg h u) (h':=dg h' u) fun n hn=>De (hh n (by rw[List.flatMap_cons];exact List.mem_append.2 (.inr hn))) u]
theorem Zb {sz:Nat}:∀{vs:List ai} {h h':Nat->Option ak},(∀n∈vs.flatMap ai.fM,h' n=h n)->mM sz h' vs=mM sz h vs
 |[],h,h',_=>rfl
 |v::vs,h,h',hh=>by
  simp only[mM]
  cases hv:v.cells? with
  |none=>rfl
  |some x=>
   obtain⟨b,cs⟩:=x
   simp only
   rw[Hy (cs:=cs) fun n hn=>hh n (by rw[List.flatMap_cons];exact List.mem_append.2 (.inl (yd hv▸hn)))]
   cases iD h cs with
   |none=>rfl
   |some y=>
    obtain⟨e,o,u⟩:=y
    simp only
    rw[Zb (vs:=vs) (h:=dg h u) (h':=dg h' u) fun n hn=>De (hh n (by rw[List.flatMap_cons];exact List.mem_append.2 (.inr hn))) u]
def vb (h:Nat->Option ak) (n:Nat) (gr:Bool) (m:Mode) (rs:Nat) (xs:List (List C)) (k off:Nat) (e:List C) (vs:List ae):Option Us:=
 match sub e off vs.length with
 |none=>none
 |some eQ=>match iD h vs with
  |none=>none
  |some (cs,o,u)=>
   if m=.live then
    if eW cs=true/\eW eQ=true/\(dg h u n).isSome=true then some (u++[(n,some (.row gr m rs (xs.set k (bY e off cs))))]) else none
   else if(dg h u n).isSome=true then some (u++[(n,some (.row gr (if o=true then m else .aF) rs (xs.set k (bY e off cs))))])
   else none
theorem akU (σ:St) (n:Nat) (gr:Bool) (m:Mode) (rs:Nat) (xs:List (List C)) (k off:Nat) (e:List C) (vs:List ae):
  k7 σ n gr m rs xs k off e vs=(vb σ.h n gr m rs xs k off e vs).map fun u=>σ.cX u:=by
 unfold k7 vb
 cases sub e off vs.length with
 |none=>rfl
 |some eQ=>
  simp only[HA]
  cases iD σ.h vs with
  |none=>rfl
  |some x=>
   obtain⟨cs,o,u⟩:=x
   simp only[Option.map_some,Dg]
   repeat' split
   all_goals first|rfl|(simp only[Option.map_some,An];rfl)
def tB (h:Nat->Option ak) (sz:Nat):ai->Option (List (List C)×Mode×List (Nat×Option ak))
 |.one (.nil _)=>some ([],.aj,[])
 |.one (.sl a s 0 len)=>match h a with
  |some (.row true m rs xs)=>if rs=sz/\s=sz/\len=xs.length then some (xs,m,[(a,none)]) else none
  |_=>none
 |_=>none
def rU (fl:Bool) (h:Nat->Option ak) (sz:Nat) (m:Mode):ai->Option (List (List C)×Mode×List (Nat×Option ak))
  |.one (.nil _)=>some ([],m,[])
  |.one (.c (.list s ys))=>if s=sz then(if(fl&&fB ys)=true then some (ys,m,[]) else if m=.live then none else some (ys,.aF,[])) else none
  |.one (.sl b s lo len)=>match h b with
   |some (.row _ m' rs ys)=>if rs=sz/\s=sz/\lo+len<=ys.length then
       (if(fl&&fB ((ys.drop lo).take len))=true then some ((ys.drop lo).take len,m,[])
        else if lo=0/\len=ys.length then(if m=m' then some (ys,m,[(b,none)]) else if m=.live\/m'=.live then none else some (ys,.aF,[(b,none)])) else none)
    else none
   |_=>none
  |_=>none
theorem Z4 (σ:St) (sz:Nat) (v:ai):nM σ sz v=(tB σ.h sz v).map fun x=>(x.1,x.2.1,σ.cX x.2.2):=by
 cases v with
 |one v=>cases v with
  |sl a s lo len=>cases lo with
   |zero=>
    simp only[nM,tB]
    cases σ.h a with
    |none=>rfl
    |some b=>cases b with
     |box cs=>rfl
     |row gr m rs xs=>cases gr with
      |true=>simp only;split<;>rfl
      |false=>rfl
   |succ lo=>rfl
  |_=>rfl
 |_=>rfl
theorem Z6 (fl:Bool) (σ:St) (sz:Nat) (m:Mode) (v:ai):jR fl σ sz m v=(rU fl σ.h sz m v).map fun x=>(x.1,x.2.1,σ.cX x.2.2):=by
 cases v with
 |one v=>cases v with
  |sl b s lo len=>
   simp only[jR,rU]
   cases σ.h b with
   |none=>rfl
   |some b=>cases b with
    |box cs=>rfl
    |row gr m rs xs=>
     simp only
     repeat' split
     all_goals rfl
  |c x=>cases x with
   |list s ys=>
    simp only[jR,rU]
    repeat' split
    all_goals rfl
   |_=>rfl
  |_=>rfl
 |_=>rfl
def jS (h:Nat->Option ak):List ai->Option (List Dv×List Nat×Us)
 |[]=>some ([],[],[])
 |v::vs=>match ku h v with
  |some (n,xs)=>match jS h vs with
   |some (ds,ns,u)=>some ((.ptr,xs)::ds,n::ns,u)
   |none=>none
  |none=>match v.cells? with
   |some (ag,cs)=>match iD h cs with
    |some (xs,_,u)=>match jS (dg h u) vs with
     |some (ds,ns,u')=>some ((if ag=true then .agg else .one,xs)::ds,ns,u++u')
     |none=>none
    |none=>none
   |none=>none
theorem IJ:∀(vs:List ai) (σ:St),σ.fY vs=(jS σ.h vs).map fun x=>(x.1,x.2.1,σ.cX x.2.2)
 |[],σ=>rfl
 |v::vs,σ=>by
  simp only[St.fY,jS]
  cases ku σ.h v with
  |some x=>
   obtain⟨n,xs⟩:=x
   simp only[IJ vs σ]
   cases jS σ.h vs<;>rfl
  |none=>
   simp only
   cases v.cells? with
   |none=>rfl
   |some x=>
    obtain⟨ag,cs⟩:=x
    simp only
    rw[HA]
    cases iD σ.h cs with
    |none=>rfl
    |some y=>
     obtain⟨e,o,u⟩:=y
     simp only[Option.map_some,IJ vs,Dg]
     cases jS (dg σ.h u) vs with
     |none=>rfl
     |some y=>obtain⟨ds,ns,u'⟩:=y;simp only[Option.map_some,An]
theorem aai {h:Nat->Option ak} {v:ai} {n:Nat} {xs:List C} (e:ku h v=some (n,xs)):n∈v.fM:=by
 obtain⟨sz,cs,rfl,_⟩:=Rk e
 simp[ai.fM,ae.nm,ae.pY]
theorem Ei:∀{vs:List ai} {h:Nat->Option ak} {ds:List Dv} {ns:List Nat} {u:Us},jS h vs=some (ds,ns,u)->(∀q∈u,q.1∈vs.flatMap ai.fM)/\∀n∈ns,n∈vs.flatMap ai.fM
 |[],h,ds,ns,u,e=>by
  simp only[jS] at e
  injection e with e;injection e with _ e;injection e with e1 e;subst e e1;exact⟨fun q hq=>(by cases hq),fun q hq=>(by cases hq)⟩
 |v::vs,h,ds,ns,u,e=>by
  simp only[jS] at e
  split at e
  ·rename_i n xs hp
   split at e
   ·rename_i r9 iQ u' e2
    injection e with e;injection e with _ e;injection e with e1 e;subst e e1
    obtain⟨i1,i2⟩:=Ei e2
    rw[List.flatMap_cons]
    refine⟨fun q hq=>List.mem_append.2 (.inr (i1 q hq)),fun m hm=>?_⟩
    rcases List.mem_cons.1 hm with rfl|hm
    ·exact List.mem_append.2 (.inl (aai hp))
    ·exact List.mem_append.2 (.inr (i2 m hm))
   ·cases e
  ·split at e
   ·rename_i b cs hv
    split at e
    ·rename_i x o1 u1 e1
     split at e
     ·rename_i ds2 Xj u2 e2
      injection e with e;injection e with _ e;injection e with e3 e;subst e e3
      obtain⟨i1,i2⟩:=Ei e2
      rw[List.flatMap_cons]
      refine⟨fun q hq=>?_,fun m hm=>List.mem_append.2 (.inr (i2 m hm))⟩
      rcases List.mem_append.1 hq with hq|hq
      ·exact List.mem_append.2 (.inl (yd hv▸Hz e1 q hq))
      ·exact List.mem_append.2 (.inr (i1 q hq))
     ·cases e
    ·cases e
   ·cases e
theorem aah {h h':Nat->Option ak} {v:ai} (hh:∀n∈v.fM,h' n=h n):ku h' v=ku h v:=by
 cases v with
 |one c=>cases c with
  |ptr n k sz off=>simp only[ku];rw[hh n (by simp[ai.fM,ae.nm,ae.pY])]
  |_=>rfl
 |_=>rfl
theorem IH:∀{vs:List ai} {h h':Nat->Option ak},(∀n∈vs.flatMap ai.fM,h' n=h n)->jS h' vs=jS h vs
 |[],h,h',_=>rfl
 |v::vs,h,h',hh=>by
  have h1:∀n∈v.fM,h' n=h n:=fun n hn=>hh n (by rw[List.flatMap_cons];exact List.mem_append.2 (.inl hn))
  have h2:∀n∈vs.flatMap ai.fM,h' n=h n:=fun n hn=>hh n (by rw[List.flatMap_cons];exact List.mem_append.2 (.inr hn))
  simp only[jS]
  rw[aah h1]
  cases ku h v with
  |some x=>
   obtain⟨n,xs⟩:=x
   simp only
   rw[IH h2]
  |none=>
   simp only
   cases hv:v.cells? with
   |none=>rfl
   |some x=>
    obtain⟨b,cs⟩:=x
    simp only
    rw[Hy (cs:=cs) fun n hn=>h1 n (yd hv▸hn)]
    cases iD h cs with
    |none=>rfl
    |some y=>
     obtain⟨e,o,u⟩:=y
     simp only
     rw[IH (vs:=vs) (h:=dg h u) (h':=dg h' u) fun n hn=>De (h2 n hn) u]
def sU (h:Nat->Option ak):List Nat->List C->Option Us
 |[],[]=>some []
 |[n],out=>match h n with
  |some (.box cs)=>if cs.length=out.length then some [(n,some (.box (out.map .c)))] else none
  |_=>none
 |_,_=>none
theorem aji (σ:St) (ns:List Nat) (out:List C):σ.oD ns out=(sU σ.h ns out).map σ.cX:=by
 match ns,out with
 |[],[]=>rfl
 |[],_::_=>rfl
 |[n],out=>
  simp only[St.oD,sU]
  cases σ.h n with
  |none=>rfl
  |some b=>
   cases b with
   |box cs=>simp only;split<;>rfl
   |row gr m rs xs=>rfl
 |_::_::_,out=>rfl
theorem ajh {h:Nat->Option ak} {ns:List Nat} {out:List C} {u:Us} (e:sU h ns out=some u):∀q∈u,q.1∈ns:=by
 unfold sU at e
 split at e
 ·injection e with e;subst e;intro q hq;cases hq
 ·split at e
  ·split at e
   ·injection e with e;subst e;intro q hq;simp at hq;subst hq;simp
   ·cases e
  ·cases e
 ·cases e
theorem ajg {h h':Nat->Option ak} {ns:List Nat} {out:List C} (hh:∀n∈ns,h' n=h n):sU h' ns out=sU h ns out:=by
 match ns,out with
 |[],[]=>rfl
 |[],_::_=>rfl
 |[n],out=>simp only[sU];rw[hh n (by simp)]
 |_::_::_,out=>rfl
def xY (d:Option Nat):List Dv->Option (ai×List (Nat×ak))
 |[(.ptr,cs)]=>match d with
  |some q=>some (.one (.ptr q 0 0 0),[(q,.box (cs.map .c))])
  |none=>none
 |rs=>match fO rs with
  |some ls=>some (iR ls,[])
  |none=>none
theorem aaj (σ:St) (d:Option Nat) (rs:List Dv):nN σ d rs=(xY d rs).bind fun x=>(σ.cu x.2).map (·.put d x.1):=by
 unfold nN
 split
 ·cases d with
  |none=>rfl
  |some q=>
   simp only[xY,Option.bind_some,St.cu]
   cases σ.ins q _<;>rfl
 ·rename_i av
  have e:xY d rs=match fO rs with
    |some ls=>some (iR ls,[])
    |none=>none:=by
   unfold xY
   split
   ·exact absurd rfl (av _)
   ·rfl
  rw[e]
  cases fO rs with
  |none=>rfl
  |some ls=>rfl
abbrev Iz:=ai×List (Nat×Option ak)×List (Nat×ak)
def eo (T:aA) (d:Option Nat) (op:aw) (ev:MO->ai) (h:Nat->Option ak):Option Iz:=
 match op with
 |.store sz x v=>match ev x,(ev v).cells? with
  |.one (.ptr n k au off),some (_,vs)=>if vs.length=sz then
   match h n with
   |some (.box cs)=>if k=0/\off+sz<=cs.length then some (.one .bg,[(n,some (.box (bY cs off vs)))],[]) else none
   |some (.row gr m rs xs)=>if au=rs then
    match xs[k]? with
    |some e=>match vb h n gr m rs xs k off e vs with
     |some u=>some (.one .bg,u,[])
     |none=>none
    |none=>none
    else none
   |none=>none
   else none
  |.one (.cH n k au off s i),some (_,vs)=>if vs.length=sz then
   match h n with
   |some (.row gr .live rs xs)=>if au=rs then
    match s9 xs k off s i vs with
    |some ao=>some (.one .bg,[(n,some (.row gr .live rs ao))],[])
    |none=>none
    else none
   |_=>none
   else none
  |_,_=>none
 |.gA sz ps=>match d,mM sz h (ps.map ev) with
  |some n,some (es,o,u)=>some (.one (.sl n sz 0 es.length),u,[(n,.row true (if o=true then .aj else .aF) sz es)])
  |_,_=>none
 |.append fl sz by_ x y=>match d with
  |none=>none
  |some n=>match tB h sz (ev x) with
   |none=>none
   |some (xs,m,u1)=>match rU fl (dg h u1) sz m (ev y) with
    |none=>none
    |some (ys,m2,u2)=>if(xs.length+ys.length)*by_<=fL then some (.one (.sl n sz 0 (xs.length+ys.length)),u1++u2,[(n,.row true m2 sz (xs++ys))]) else none
 |.iu f xs=>match jS h (xs.map ev),aA.jb T.vs f with
  |some (ds,ns,u),some M=>match M ds with
   |some (rs,out)=>match sU (dg h u) ns out,xY d rs with
    |some u',some (v,is)=>some (v,u++u',is)
    |_,_=>none
   |none=>none
  |_,_=>none
 |.copy sz x y=>match ev x,ev y with
  |.one (.sl n s lo len),.one c=>match h n,bS h c with
   |some (.row gr m rs xs),some (.list s' ys)=>if sz=1/\s=1/\rs=1/\s'=1/\m≠ .aF/\fB xs=true/\fB ys=true/\lo+len<=xs.length then
    some (.one (.c (.int .i64 (Nat.min ys.length len:Nat))),[(n,some (.row gr m 1 (bY xs lo (ys.take len))))],[]) else none
   |_,_=>none
  |_,_=>none
 |.jz z x=>match ev x with
  |.one (.sl n s lo len)=>match h n with
   |some (.row gr m rs xs)=>if s=1/\rs=1/\z.dX=true/\m≠ .aF/\fB xs=true/\lo+len<=xs.length then
    some (.aY [],[(n,some (.row gr m 1 (bY xs lo (List.replicate len [z]))))],[]) else none
   |_=>none
  |_=>none
 |op=>(rd T d op ev h).map fun x=>(x.1,[],x.2)
def tN (d:Option Nat) (σ:St) (p:Iz):Option St:=((σ.cX p.2.1).cu p.2.2).map (·.put d p.1)
theorem EY {T:aA} {d:Option Nat} {op:aw} {σ:St} {ws:List Nat} (hw:op.iV σ.ev σ.h=some ws) (hd:∀sz x v,op=.store sz x v->d=none):
  exec T d op σ=(eo T d op σ.ev σ.h).bind (tN d σ):=by
 by_cases hc:op.dq<=1
 ·rw[mZ T d op σ hc]
  have:eo T d op σ.ev σ.h=(rd T d op σ.ev σ.h).map fun x=>(x.1,[],x.2):=by
   cases op<;>first|rfl|(simp[aw.dq] at hc)
  rw[this]
  cases rd T d op σ.ev σ.h with
  |none=>rfl
  |some x=>rfl
 ·cases op<;>simp[aw.dq] at hc<;>simp only[aw.iV] at hw
  case iZ=>cases hw
  case kB=>cases hw
  case kz=>cases hw
  case copy sz x y=>
   simp only[exec,eo]
   cases σ.ev x with
   |one p=>cases p with
    |sl n s lo len=>
     cases σ.ev y with
     |one c=>
      simp only
      cases σ.h n with
      |none=>rfl
      |some b=>cases b with
       |box cs=>rfl
       |row gr m rs xs=>
        cases bS σ.h c with
        |none=>rfl
        |some q=>cases q with
         |list s' ys=>
          simp only
          split<;>rfl
         |_=>rfl
     |_=>rfl
    |_=>rfl
   |_=>rfl
  case jz z x=>
   simp only[exec,eo]
   cases σ.ev x with
   |one p=>cases p with
    |sl n s lo len=>
     simp only
     cases σ.h n with
     |none=>rfl
     |some b=>cases b with
      |box cs=>rfl
      |row gr m rs xs=>
       simp only
       split<;>rfl
    |_=>rfl
   |_=>rfl
  case tail=>cases hw
  case mC=>cases hw
  case iu f xs=>
   simp only[exec,eo,nT,IJ]
   cases jS σ.h (xs.map σ.ev) with
   |none=>rfl
   |some x=>
    obtain⟨ds,ns,u⟩:=x
    simp only[Option.map_some]
    cases aA.jb T.vs f with
    |none=>rfl
    |some M=>
     simp only
     cases M ds with
     |none=>rfl
     |some z=>
      obtain⟨rs,out⟩:=z
      simp only[aji,Dg]
      cases sU (dg σ.h u) ns out with
      |none=>rfl
      |some u'=>
       simp only[Option.map_some,aaj]
       cases xY d rs with
       |none=>rfl
       |some z=>
        obtain⟨v,is⟩:=z
        simp only[Option.bind_some,tN,An]
  case gA sz ps=>
   simp only[exec,eo]
   rw[Zd]
   cases d with
   |none=>rfl
   |some n=>
    cases mM sz σ.h (ps.map σ.ev) with
    |none=>rfl
    |some x=>
     obtain⟨es,o,u⟩:=x
     simp only[Option.map_some,Option.bind_some,tN,St.cu]
     cases (σ.cX u).ins n (.row true (if o=true then .aj else .aF) sz es)<;>rfl
  case append fl sz by_ x y=>
   simp only[exec,eo,Z4]
   cases d with
   |none=>rfl
   |some n=>
    simp only
    cases tB σ.h sz (σ.ev x) with
    |none=>rfl
    |some z=>
     obtain⟨xs,m,u1⟩:=z
     simp only[Option.map_some,Z6]
     have hh:(σ.cX u1).h=dg σ.h u1:=by rw[jM]
     rw[hh]
     cases rU fl (dg σ.h u1) sz m (σ.ev y) with
     |none=>rfl
     |some z=>
      obtain⟨ys,m2,u2⟩:=z
      simp only[Option.map_some]
      split
      ·simp only[Option.bind_some,tN,An,St.cu]
       cases ((σ.cX u1).cX u2).ins n (.row true m2 sz (xs++ys))<;>rfl
      ·rfl
  case store sz x v=>
   have hd:=hd sz x v rfl
   subst hd
   simp only[exec,eo]
   split at hw
   ·rename_i n k au off hx
    simp only[hx]
    cases hv:(σ.ev v).cells? with
    |none=>rfl
    |some y=>
     obtain⟨ag,vs⟩:=y
     simp only
     split
     ·split at hw
      ·rename_i cs hn
       simp only[hn]
       split
       ·rfl
       ·rfl
      ·rename_i gr m rs xs hn
       simp only[hn]
       split
       ·cases xs[k]? with
        |none=>rfl
        |some e=>
         simp only
         rw[akU]
         cases vb σ.h n gr m rs xs k off e vs with
         |none=>rfl
         |some b=>rfl
       ·rfl
      ·cases hw
     ·rfl
   ·rename_i n k au off s i hx
    simp only[hx]
    cases hv:(σ.ev v).cells? with
    |none=>rfl
    |some y=>
     obtain⟨ag,vs⟩:=y
     simp only
     split
     ·cases σ.h n with
      |none=>rfl
      |some b=>cases b with
       |box cs=>rfl
       |row gr m rs xs=>cases m with
        |live=>
         simp only
         split
         ·cases s9 xs k off s i vs<;>rfl
         ·rfl
        |_=>rfl
     ·rfl
   ·cases hw
theorem Q2 {T:aA} {d:Option Nat} {op:aw} {ev:MO->ai} {h:Nat->Option ak} {ws:List Nat} {p:Iz} (hw:op.iV ev h=some ws) (ha:eo T d op ev h=some p):∀q∈p.2.1,q.1∈ws:=by
 by_cases hc:op.dq<=1
 ·have:eo T d op ev h=(rd T d op ev h).map fun x=>(x.1,[],x.2):=by
   cases op<;>first|rfl|(simp[aw.dq] at hc)
  rw[this,Option.map_eq_some_iff] at ha
  obtain⟨x,_,rfl⟩:=ha
  intro q hq
  cases hq
 ·cases op<;>simp[aw.dq] at hc<;>simp only[aw.iV] at hw
  case iZ=>cases hw
  case kB=>cases hw
  case kz=>cases hw
  case copy sz x y=>
   simp only[eo] at ha
   split at ha
   ·rename_i n s lo len c hx hy
    simp only[hx] at hw
    injection hw with hw
    subst hw
    repeat' split at ha
    all_goals first|cases ha|skip
    intro q hq
    simp at hq
    subst hq
    simp
   ·cases ha
  case jz z x=>
   simp only[eo] at ha
   split at ha
   ·rename_i n s lo len hx
    simp only[hx] at hw
    injection hw with hw
    subst hw
    repeat' split at ha
    all_goals first|cases ha|skip
    intro q hq
    simp at hq
    subst hq
    simp
   ·cases ha
  case tail=>cases hw
  case mC=>cases hw
  case iu f xs=>
   injection hw with hw
   subst hw
   simp only[eo] at ha
   split at ha
   ·rename_i ds ns u M e1 e2
    split at ha
    ·rename_i rs out e3
     split at ha
     ·rename_i u' v is e4 e5
      injection ha with ha;subst ha
      obtain⟨i1,i2⟩:=Ei e1
      intro q hq
      rw[List.flatMap_map] at i1 i2
      rcases List.mem_append.1 hq with hq|hq
      ·exact i1 q hq
      ·exact i2 _ (ajh e4 q hq)
     ·cases ha
    ·cases ha
   ·cases ha
  case gA sz ps=>
   injection hw with hw
   subst hw
   simp only[eo] at ha
   split at ha
   ·rename_i n es o u e
    injection ha with ha;subst ha
    intro q hq
    have:=Zc e q hq
    rw[List.flatMap_map] at this
    exact this
   ·cases ha
  case append fl sz by_ x y=>
   injection hw with hw
   subst hw
   simp only[eo] at ha
   split at ha
   ·cases ha
   ·split at ha
    ·cases ha
    ·rename_i xs m u1 e1
     split at ha
     ·cases ha
     ·rename_i ys m2 u2 e2
      split at ha
      ·injection ha with ha
       subst ha
       intro q hq
       rcases List.mem_append.1 hq with sE|sE
       ·clear hq
        refine List.mem_append.2 (.inl ?_)
        unfold tB at e1
        split at e1
        ·injection e1 with e1;injection e1 with _ e1;injection e1 with _ e1;subst e1;cases sE
        ·rename_i a s len hv
         split at e1
         ·split at e1
          ·injection e1 with e1;injection e1 with _ e1;injection e1 with _ e1;subst e1
           simp at sE;subst sE;simp[ai.fM,ae.nm,ae.pY,hv]
          ·cases e1
         ·cases e1
        ·cases e1
       ·clear hq
        refine List.mem_append.2 (.inr ?_)
        have yI:∀(b:Nat),u2=[]\/u2=[(b,none)]->b∈(ev y).fM->q.1∈(ev y).fM:=by
         intro b hb hm
         rcases hb with hb|hb
         ·subst hb;cases sE
         ·subst hb;simp at sE;subst sE;exact hm
        unfold rU at e2
        split at e2
        ·injection e2 with e2;injection e2 with _ e2;injection e2 with _ e2;subst e2;cases sE
        ·repeat' split at e2
         all_goals first|cases e2|skip
         all_goals (cases sE)
        ·rename_i b s lo len hv
         have hm:b∈(ev y).fM:=by simp[hv,ai.fM,ae.nm,ae.pY]
         refine yI b ?_ hm
         repeat' split at e2
         all_goals first|cases e2|skip
         all_goals first|exact .inl rfl|exact .inr rfl
        ·cases e2
      ·cases ha
  case store sz x v=>
   simp only[eo] at ha
   split at ha
   ·rename_i n k au off b vs hx hv
    simp only[hx] at hw
    split at ha
    ·split at ha
     ·rename_i cs hn
      simp only[hn] at hw
      split at ha
      ·injection ha with ha;subst ha;injection hw with hw;subst hw
       intro q hq;simp at hq;subst hq;simp
      ·cases ha
     ·rename_i gr m rs xs hn
      simp only[hn] at hw
      injection hw with hw
      subst hw
      split at ha
      ·split at ha
       ·split at ha
        ·rename_i u e0
         injection ha with ha;subst ha
         intro q hq
         have hq:q∈u:=hq
         have two:∀(u1:Us) (bb:Option ak),u=u1++[(n,bb)]->(∀q∈u1,q.1∈vs.flatMap ae.nm)->q.1∈n::(ev v).fM:=by
          intro u1 bb he yZ
          rw[he] at hq
          rcases List.mem_append.1 hq with hq|hq
          ·exact List.mem_cons_of_mem _ (yd hv▸yZ q hq)
          ·simp at hq;subst hq;simp
         unfold vb at e0
         split at e0
         ·cases e0
         ·split at e0
          ·cases e0
          ·rename_i cs o u1 e1
           have yZ:=Hz e1
           repeat' split at e0
           all_goals first|(injection e0 with e0;exact two _ _ e0.symm yZ)|cases e0
        ·cases ha
       ·cases ha
      ·cases ha
     ·cases ha
    ·cases ha
   ·rename_i n k au off s i b vs hx hv
    simp only[hx] at hw
    injection hw with hw
    subst hw
    repeat' split at ha
    all_goals first|cases ha|skip
    intro q hq
    simp at hq
    subst hq
    simp
   ·cases ha
section
variable {T:aA} {d:Option Nat} {op:aw} {ev ev':MO->ai} {h h':Nat->Option ak}
theorem Cw (aW:∀x∈op.args,ev' x=ev x):op.gT ev'=op.gT ev:=by
 unfold aw.gT
 generalize op.args=l at aW
 induction l with
 |nil=>rfl
 |cons x l ih=>simp only[List.flatMap_cons];rw[aW x (by simp),ih fun y hy=>aW y (List.mem_cons_of_mem _ hy)]
theorem Rq:∀{l:List Nat} (_:∀n∈l,h' n=h n),x7 h' l=x7 h l
 |[],_=>rfl
 |n::l,hh=>by
  have:=Rq (l:=l) fun m hm=>hh m (List.mem_cons_of_mem _ hm)
  simp only[x7,List.flatMap_cons] at this⊢
  rw[hh n (by simp),this]
theorem NL (aW:∀x∈op.args,ev' x=ev x) (hh:∀n∈op.gT ev,h' n=h n):op.kl ev' h'=op.kl ev h:=by
 unfold aw.kl
 rw[Cw aW,Rq hh]
theorem HO (aW:∀x∈op.args,ev' x=ev x) (hh:∀n∈op.gT ev,h' n=h n):op.iV ev' h'=op.iV ev h:=by
 cases op<;>first|rfl|skip
 case store sz x v=>
  have h1:=aW x (by simp[aw.args])
  have h2:=aW v (by simp[aw.args])
  simp only[aw.iV,h1,h2]
  cases hv:ev x with
  |one p=>cases p with
   |ptr n k au off=>simp only;rw[hh n (nA.2 ⟨x,by simp[aw.args],by rw[hv];exact rfl⟩)]
   |_=>rfl
  |_=>rfl
 case copy sz x y=>
  simp only[aw.iV,aW x (by simp[aw.args])]
 case jz z x=>
  simp only[aw.iV,aW x (by simp[aw.args])]
 case iu f xs=>
  have:=Cw (op:=.iu f xs) aW
  simp only[aw.gT,aw.args] at this
  simp only[aw.iV,this]
 case gA sz ps=>
  have:=Cw (op:=.gA sz ps) aW
  simp only[aw.gT,aw.args] at this
  simp only[aw.iV,this]
 case append fl sz by_ x y=>
  simp only[aw.iV,aW x (by simp[aw.args]),aW y (by simp[aw.args])]
theorem Q1 (aW:∀x∈op.args,ev' x=ev x) (hh:∀n∈op.kl ev h,h' n=h n):eo T d op ev' h'=eo T d op ev h:=by
 have Fm:∀n∈op.gT ev,h' n=h n:=fun n hn=>hh n (Gp hn)
 have hn:∀a∈op.args,∀n,(ev a).ref n->h' n=h n:=fun a ha n hr=>Fm n (nA.2 ⟨a,ha,hr⟩)
 have gen:rd T d op ev' h'=rd T d op ev h:=by
  rw[zM T d op _ aW]
  refine XK (u:=fun n=>h' n=h n) (vv:=fun n=>n∈op.gT ev) T d op ev (fun n hn=>hn) (fun hc m cs c n hm hb eF hr=>?_) (fun x hx m hm=>hn x hx m hm) (fun x hx m hm=>nA.2 ⟨x,hx,hm⟩)
  refine hh n ?_
  unfold aw.kl
  rw[hc]
  refine List.mem_append.2 (.inr ?_)
  unfold x7
  rw[List.mem_flatMap]
  exact⟨m,hm,by rw[hb];exact List.mem_flatMap.2 ⟨c,eF,ae.Cx.2 hr⟩⟩
 cases op<;>first|(simp only[eo];rw[gen];done)|skip
 case store sz x v=>
  have h1:=aW x (by simp[aw.args])
  have h2:=aW v (by simp[aw.args])
  simp only[eo,h1,h2]
  have h3:=hn x (by simp[aw.args])
  cases hv:ev x with
  |one p=>cases p with
   |ptr n k au off=>
    rw[hv] at h3
    have h3:=h3 n rfl
    have h5:=hn v (by simp[aw.args])
    cases hc:(ev v).cells? with
    |none=>rfl
    |some y=>
     obtain⟨b,vs⟩:=y
     have h6:∀gr m rs xs e,vb h' n gr m rs xs k off e vs=vb h n gr m rs xs k off e vs:=by
      intro gr m rs xs e
      have h7:iD h' vs=iD h vs:=Hy fun q hq=>h5 q (ai.wV.1 (yd hc▸hq))
      unfold vb
      rw[h7]
      cases iD h vs with
      |none=>rfl
      |some y=>
       obtain⟨cs,o,u⟩:=y
       simp only[De h3 u]
     simp only[h3,h6]
   |cH n k au off s i=>
    rw[hv] at h3
    have h3:=h3 n rfl
    cases hc:(ev v).cells? with
    |none=>rfl
    |some y=>
     simp only[h3]
   |_=>cases (ev v).cells?<;>rfl
  |_=>cases (ev v).cells?<;>rfl
 case copy sz x y=>
  have h1:=aW x (by simp[aw.args])
  have h2:=aW y (by simp[aw.args])
  have h3:=hn x (by simp[aw.args])
  have h4:=hn y (by simp[aw.args])
  simp only[eo,h1,h2]
  cases hv:ev x with
  |one p=>cases p with
   |sl n s lo len=>
    rw[hv] at h3
    have h3:=h3 n rfl
    cases hc:ev y with
    |one c=>
     rw[hc] at h4
     have h5:bS h' c=bS h c:=xv (u:=fun n=>h' n=h n) (fun n hn=>hn) fun m hm=>h4 m (ae.uQ hm)
     simp only[h3,h5]
    |_=>rfl
   |_=>rfl
  |_=>rfl
 case jz z x=>
  have h1:=aW x (by simp[aw.args])
  have h3:=hn x (by simp[aw.args])
  simp only[eo,h1]
  cases hv:ev x with
  |one p=>cases p with
   |sl n s lo len=>
    rw[hv] at h3
    have h3:=h3 n rfl
    simp only[h3]
   |_=>rfl
  |_=>rfl
 case iu f xs=>
  have hl:xs.map ev'=xs.map ev:=List.map_congr_left aW
  have h2:jS h' (xs.map ev)=jS h (xs.map ev):=IH fun n bC=>by
   rw[List.flatMap_map] at bC
   exact Fm n bC
  simp only[eo,hl,h2]
  cases e1:jS h (xs.map ev) with
  |none=>rfl
  |some x=>
   obtain⟨ds,ns,u⟩:=x
   try simp only
   cases aA.jb T.vs f with
   |none=>rfl
   |some M=>
    try simp only
    cases M ds with
    |none=>rfl
    |some z=>
     obtain⟨rs,out⟩:=z
     try simp only
     rw[ajg (h:=dg h u) (h':=dg h' u) fun n bC=>De (Fm n (by
      have:=(Ei e1).2 n bC
      rw[List.flatMap_map] at this
      exact this)) u]
 case gA sz ps=>
  have hl:ps.map ev'=ps.map ev:=List.map_congr_left aW
  have h2:mM sz h' (ps.map ev)=mM sz h (ps.map ev):=Zb fun n bC=>by
   rw[List.flatMap_map] at bC
   exact Fm n bC
  simp only[eo,hl,h2]
 case append fl sz by_ x y=>
  have h1:=aW x (by simp[aw.args])
  have h2:=aW y (by simp[aw.args])
  have h3:=hn x (by simp[aw.args])
  have h4:=hn y (by simp[aw.args])
  have e1:tB h' sz (ev x)=tB h sz (ev x):=by
   cases hv:ev x with
   |one p=>cases p with
    |sl a s lo len=>
     rw[hv] at h3
     cases lo with
     |zero=>simp only[tB,h3 a rfl]
     |succ lo=>rfl
    |_=>rfl
   |_=>rfl
  have e2:∀(us:List (Nat×Option ak)) (m:Mode),rU fl (dg h' us) sz m (ev y)=rU fl (dg h us) sz m (ev y):=by
   intro us m
   cases hv:ev y with
   |one p=>cases p with
    |sl b s lo len=>
     rw[hv] at h4
     have hb:dg h' us b=dg h us b:=by
      by_cases hu:∃p∈us,p.1=b
      ·exact Df hu
      ·rw[lQ fun p hp e=>hu ⟨p,hp,e⟩,lQ fun p hp e=>hu ⟨p,hp,e⟩]
       exact h4 b rfl
     simp only[rU,hb]
    |c x=>cases x<;>rfl
    |_=>rfl
   |_=>rfl
  simp only[eo,h1,h2,e1,e2]
end
theorem Jj {f g:List Nat×List Nat} (h:A8 f g=true) {n:Nat} (h1:n∈f.2) (h2:n∈g.1):False:=by
 simp only[A8,Bool.and_eq_true,List.all_eq_true] at h
 have:=h.1 n h1
 simp[h2] at this
theorem aaY {f g:List Nat×List Nat} (h:A8 f g=true) {n:Nat} (h1:n∈g.2) (h2:n∈f.1):False:=by
 simp only[A8,Bool.and_eq_true,List.all_eq_true] at h
 have:=h.2 n h1
 simp[h2] at this
theorem zE {σ:St} (W:Wf σ) {op:aw} (hf:∀a∈op.args,a.flat=true) {n:Nat} (hn:n∈op.gT σ.ev):σ.used n=true:=by
 obtain⟨a,ha,hr⟩:=nA.1 hn
 exact W.arg (hf a ha) n hr
theorem XI {σ:St} (W:Wf σ) {op:aw} (hf:∀a∈op.args,a.flat=true) {n:Nat} (hn:n∈op.kl σ.ev σ.h):σ.used n=true:=by
 unfold aw.kl at hn
 cases hc:op.Cf with
 |true=>
  rw[hc] at hn
  rcases List.mem_append.1 hn with hn|hn
  ·exact zE W hf hn
  ·unfold x7 at hn
   rw[List.mem_flatMap] at hn
   obtain⟨m,hm,hn⟩:=hn
   split at hn
   ·rename_i cs hb
    obtain⟨c,hc,hr⟩:=List.mem_flatMap.1 hn
    exact W.box m cs c n hb hc (ae.Cx.1 hr)
   ·cases hn
 |false=>rw[hc] at hn;exact zE W hf hn
section
variable {T:aA} {dx dy:Option Nat} {x y:aw} {σ σ1 σ2:St}
theorem Tu (W:Wf σ) (jf:∀n,dx=some n->MO.t n∉y.args) (wh:∀a∈y.args,a.flat=true) (sv:∀sz p v,x=.store sz p v->dx=none)
  (hc:x.dq<=1\/y.dq=0) (h1:exec T dx x σ=some σ1):y.fp σ1=y.fp σ:=by
 have pN:=tM sv h1
 have aW:∀a∈y.args,σ1.ev a=σ.ev a:=fun a ha=>by
  cases a with
  |t n=>show σ1.env n=σ.env n;rw[pN];exact oE fun mb=>jf n mb ha
  |k v=>rfl
 rcases hc with hc|hc
 ·rw[mZ T dx x σ hc] at h1
  have hh:∀n∈y.gT σ.ev,σ1.h n=σ.h n:=by
   intro n hn
   cases hr:rd T dx x σ.ev σ.h with
   |none=>rw[hr] at h1;cases h1
   |some p=>
    rw[hr] at h1
    simp only[Option.bind_some,fin,Option.map_eq_some_iff] at h1
    obtain⟨A,hA,rfl⟩:=h1
    have:(A.put dx p.1).h=A.h:=by cases dx<;>rfl
    rw[this]
    exact((wK hA).1 n (zE W wh hn)).2
  unfold aw.fp
  rw[HO aW hh,NL aW hh]
 ·unfold aw.fp
  have c1:y.Cf=false:=by cases y<;>first|rfl|(simp[aw.dq] at hc)
  have w:∀ev h,y.iV ev h=some []:=by intro ev h;cases y<;>first|rfl|(simp[aw.dq] at hc)
  simp only[w,aw.kl,c1,cond_false,Cw aW]
theorem aaP (W:Wf σ) (hd:∀n,dx=some n->dy≠some n) (jf:∀n,dx=some n->MO.t n∉y.args) (qX:∀n,dy=some n->MO.t n∉x.args)
  (Fk:∀a∈x.args,a.flat=true) (wh:∀a∈y.args,a.flat=true)
  (sv:∀sz p v,x=.store sz p v->dx=none) (BE:∀sz p v,y=.store sz p v->dy=none) (hk:A9 (x.fp σ) (y.fp σ1)=true)
  (h1:exec T dx x σ=some σ1) (h2:exec T dy y σ1=some σ2):∃τ,exec T dy y σ=some τ/\exec T dx x τ=some σ2/\y.fp σ1=y.fp σ/\x.fp τ=x.fp σ:=by
 unfold aw.fp at hk
 cases vT:x.iV σ.ev σ.h with
 |none=>rw[vT] at hk;cases hk
 |some wx=>
 cases vU:y.iV σ1.ev σ1.h with
 |none=>rw[vT,vU] at hk;cases hk
 |some wy=>
 rw[vT,vU] at hk
 simp only[Option.map_some,A9] at hk
 rw[EY vT sv] at h1
 rw[EY vU BE] at h2
 cases EL:eo T dx x σ.ev σ.h with
 |none=>rw[EL] at h1;cases h1
 |some px=>
 obtain⟨vx,ux,nx⟩:=px
 rw[EL] at h1
 simp only[Option.bind_some,tN,Option.map_eq_some_iff] at h1
 obtain⟨A,hA,rfl⟩:=h1
 have HD:∀q∈ux,q.1∈wx:=Q2 vT EL
 have Qv:∀q∈ux,σ.used q.1=true:=fun q hq=>zE W Fk (ZC vT (HD q hq))
 obtain⟨A',TG,rfl⟩:=LP Qv hA
 obtain⟨oa,ea⟩:=wK TG
 have kM:∀(s:St) (d:Option Nat) (v:ai),(s.put d v).h=s.h:=fun s d v=>by cases d<;>rfl
 have aW:∀a∈y.args,((A'.cX ux).put dx vx).ev a=σ.ev a:=fun a ha=>by
  rw[mI,EV fun n hn=>oE fun mb=>jf n mb (hn▸ha)]
  cases a with
  |t n=>show(A'.cX ux).env n=σ.env n;rw[jM];show A'.env n=_;rw[ea]
  |k v=>rfl
 have adp:y.kl ((A'.cX ux).put dx vx).ev ((A'.cX ux).put dx vx).h=y.kl σ.ev σ.h/\y.iV ((A'.cX ux).put dx vx).ev ((A'.cX ux).put dx vx).h=y.iV σ.ev σ.h:=by
  have hh:∀n∈y.gT σ.ev,((A'.cX ux).put dx vx).h n=σ.h n:=fun n hn=>by
   rw[kM,jM]
   show dg A'.h ux n=_
   rw[lQ fun p hp e=>Jj hk (HD p hp) (by rw[e];exact Gp (by rw[Cw aW];exact hn))]
   exact(oa n (zE W wh hn)).2
  exact⟨NL aW hh,HO aW hh⟩
 obtain⟨r1,r2⟩:=adp
 have hh:∀n∈y.kl σ.ev σ.h,((A'.cX ux).put dx vx).h n=σ.h n:=fun n hn=>by
  rw[kM,jM]
  show dg A'.h ux n=_
  rw[lQ fun p hp e=>Jj hk (HD p hp) (by rw[e];show n∈y.kl _ _;rw[r1];exact hn)]
  exact(oa n (XI W wh hn)).2
 have eay:eo T dy y ((A'.cX ux).put dx vx).ev ((A'.cX ux).put dx vx).h=eo T dy y σ.ev σ.h:=Q1 aW hh
 rw[eay] at h2
 rw[r2] at vU
 cases EM:eo T dy y σ.ev σ.h with
 |none=>rw[EM] at h2;cases h2
 |some py=>
 obtain⟨vy,uy,ny⟩:=py
 rw[EM] at h2
 simp only[Option.bind_some,tN,Option.map_eq_some_iff] at h2
 obtain⟨D,hD,rfl⟩:=h2
 have Zt:∀q∈uy,q.1∈wy:=Q2 vU EM
 have Zs:∀q∈uy,q.1∈y.gT σ.ev:=fun q hq=>ZC vU (Zt q hq)
 have Qw:∀q∈uy,σ.used q.1=true:=fun q hq=>zE W wh (Zs q hq)
 have uyA:∀q∈uy,A'.used q.1=true:=fun q hq=>(oa _ (Qw q hq)).1
 have uxA:∀q∈ux,A'.used q.1=true:=fun q hq=>(oa _ (Qv q hq)).1
 have yJ:∀p∈ux,∀q∈uy,p.1≠q.1:=fun p hp q hq e=>Jj hk (HD p hp) (by rw[e];show q.1∈y.kl _ _;rw[r1];exact Gp (Zs q hq))
 rw[mI,Zr,wL,Option.map_eq_some_iff] at hD
 obtain⟨D0,hD0,rfl⟩:=hD
 obtain⟨D1,hD1,rfl⟩:=LP (σ:=A'.cX ux) (fun q hq=>by rw[jM];exact uyA q hq) hD0
 obtain⟨F,hF,rfl⟩:=LP uxA hD1
 obtain⟨C',hC,hCF⟩:=LN TG hF
 obtain⟨oc,ec⟩:=wK hC
 have uyC:∀q∈uy,C'.used q.1=true:=fun q hq=>(oc _ (Qw q hq)).1
 have uxC:∀q∈ux,C'.used q.1=true:=fun q hq=>(oc _ (Qv q hq)).1
 have Ff:∀a∈x.args,((C'.cX uy).put dy vy).ev a=σ.ev a:=fun a ha=>by
  rw[mI,EV fun n hn=>oE fun mb=>qX n mb (hn▸ha)]
  cases a with
  |t n=>show(C'.cX uy).env n=σ.env n;rw[jM];show C'.env n=_;rw[ec]
  |k v=>rfl
 have T7:∀n∈x.kl σ.ev σ.h,((C'.cX uy).put dy vy).h n=σ.h n:=fun n hn=>by
  rw[kM,jM]
  show dg C'.h uy n=_
  rw[lQ fun p hp e=>aaY hk (Zt p hp) (by rw[e];exact hn)]
  exact(oc n (XI W Fk hn)).2
 have KJ:∀n∈x.gT σ.ev,((C'.cX uy).put dy vy).h n=σ.h n:=fun n hn=>T7 n (Gp hn)
 refine⟨(C'.cX uy).put dy vy,?_,?_,?_,?_⟩
 ·rw[EY vU BE,EM]
  simp only[Option.bind_some,tN,Cd Qw hC,Option.map_some]
 ·rw[EY (ws:=wx) (by rw[HO Ff KJ];exact vT) sv,Q1 Ff T7,EL]
  simp only[Option.bind_some,tN]
  rw[mI,Zr,wL,Cd (σ:=C'.cX uy) (fun q hq=>by rw[jM];exact uxC q hq) (Cd uyC hCF)]
  simp only[Option.map_some]
  rw[mI,mI,alj yJ]
  congr 1
  have e1:(C'.cX uy).env=σ.env:=by rw[jM];exact ec
  have e2:(A'.cX ux).env=σ.env:=by rw[jM];exact ea
  show St.we _ (gp (gp (C'.cX uy).env dy vy) dx vx)=St.we _ (gp (gp (A'.cX ux).env dx vx) dy vy)
  rw[e1,e2,GD σ.env _ _ hd]
  rfl
 ·unfold aw.fp
  rw[r1,r2]
 ·unfold aw.fp
  rw[HO Ff KJ,NL Ff KJ]
end
end Go.Am
end
section
namespace Go.Am
def AX (x y:bI):Bool:=x.op.dq==0||y.op.dq==0||(decide (x.op.dq<=1)&&decide (y.op.dq<=1))
def AY (x y:bI):Bool:=
 (match x.dst with|some d=>y.rp d&&(match y.dst with|some e=>e !=d|none=>true)|none=>true)&&
 (match y.dst with|some d=>x.rp d|none=>true)&&x.nX&&y.nX
theorem aaQ {T:aA} {x y:bI} {σ σ1 σ2:St} (W:Wf σ) (hc:AY x y=true) (hk:AX x y=true\/A9 (x.fp σ) (y.fp σ1)=true) (h1:dJ T x σ=some σ1) (h2:dJ T y σ1=some σ2):
  ∃τ,dJ T y σ=some τ/\dJ T x τ=some σ2/\y.fp σ1=y.fp σ/\x.fp τ=x.fp σ:=by
 simp only[AY,Bool.and_eq_true] at hc
 obtain⟨⟨⟨c1,c2⟩,c3⟩,c4⟩:=hc
 rw[yy] at h1 h2
 cases ex:kD x σ.env with
 |none=>rw[ex] at h1;cases h1
 |some ig=>
  rw[ex] at h1
  have h1:exec T x.dst ig σ=some σ1:=h1
  have jx:ig=x.op\/ig=.mv (.k (.aY [])):=EN ex
  have xq:∀sz p v,ig=.store sz p v->x.dst=none:=by
   intro sz p v he
   rcases jx with rfl|rfl
   ·simp only[bI.nX,Bool.and_eq_true,he] at c3;simpa using c3.2
   ·cases he
  have pN:=tM xq h1
  have Lk:∀s w,y.guard=some (s,w)->x.dst≠some s:=by
   intro s w hg hd
   rw[hd] at c1
   simp[bI.rp,hg] at c1
  have FC:∀s w,x.guard=some (s,w)->y.dst≠some s:=by
   intro s w hg hd
   rw[hd] at c2
   simp[bI.rp,hg] at c2
  have EZ:kD y σ1.env=kD y σ.env:=Ba fun s w hg=>by rw[pN];exact oE (Lk s w hg)
  rw[EZ] at h2
  cases ey:kD y σ.env with
  |none=>rw[ey] at h2;cases h2
  |some gV=>
   rw[ey] at h2
   have h2:exec T y.dst gV σ1=some σ2:=h2
   have jy:gV=y.op\/gV=.mv (.k (.aY [])):=EN ey
   have vc:∀sz p v,gV=.store sz p v->y.dst=none:=by
    intro sz p v he
    rcases jy with rfl|rfl
    ·simp only[bI.nX,Bool.and_eq_true,he] at c4;simpa using c4.2
    ·cases he
   have Bh:∀a∈ig.args,a.flat=true:=by
    rcases jx with rfl|rfl
    ·simp only[bI.nX,Bool.and_eq_true,List.all_eq_true] at c3;exact c3.1
    ·intro a ha;simp[aw.args] at ha;subst ha;rfl
   have Bi:∀a∈gV.args,a.flat=true:=by
    rcases jy with rfl|rfl
    ·simp only[bI.nX,Bool.and_eq_true,List.all_eq_true] at c4;exact c4.1
    ·intro a ha;simp[aw.args] at ha;subst ha;rfl
   have jf:∀n,x.dst=some n->MO.t n∉gV.args:=by
    intro n hd
    rcases jy with rfl|rfl
    ·rw[hd] at c1
     simp only[Bool.and_eq_true] at c1
     exact bI.Gq c1.1
    ·simp[aw.args]
   have qX:∀n,y.dst=some n->MO.t n∉ig.args:=by
    intro n hd
    rcases jx with rfl|rfl
    ·rw[hd] at c2
     exact bI.Gq c2
    ·simp[aw.args]
   have yJ:∀n,x.dst=some n->y.dst≠some n:=by
    intro n hd he
    rw[hd,he] at c1
    simp at c1
   have ZF:y.fp σ1=gV.fp σ1:=by unfold bI.fp;rw[EZ,ey]
   have alF:y.fp σ=gV.fp σ:=by unfold bI.fp;rw[ey]
   have ZD:x.fp σ=ig.fp σ:=by unfold bI.fp;rw[ex]
   have xfp:∀τ,exec T y.dst gV σ=some τ->x.fp τ=ig.fp τ:=by
    intro τ t1
    unfold bI.fp
    rw[Ba (e:=σ.env) (fun s w hg=>by rw[tM vc t1];exact oE (FC s w hg)),ex]
   have fin:(∃τ,exec T y.dst gV σ=some τ/\exec T x.dst ig τ=some σ2/\gV.fp σ1=gV.fp σ/\ig.fp τ=ig.fp σ)->∃τ,dJ T y σ=some τ/\dJ T x τ=some σ2/\y.fp σ1=y.fp σ/\x.fp τ=x.fp σ:=by
    rintro⟨τ,t1,t2,t3,t4⟩
    refine⟨τ,?_,?_,?_,?_⟩
    ·rw[yy,ey];exact t1
    ·rw[yy,Ba (e:=σ.env) (fun s w hg=>by rw[tM vc t1];exact oE (FC s w hg)),ex];exact t2
    ·rw[ZF,alF,t3]
    ·rw[xfp τ t1,ZD,t4]
   apply fin
   rcases hk with c5|hk
   ·have bq:ig.dq=0\/gV.dq=0\/(ig.dq<=1/\gV.dq<=1):=by
     rcases jx with rfl|rfl
     ·rcases jy with rfl|rfl
      ·simp only[AX,Bool.or_eq_true,beq_iff_eq,Bool.and_eq_true,decide_eq_true_eq,or_assoc] at c5
       exact c5
      ·exact .inr (.inl rfl)
     ·exact .inl rfl
    obtain⟨τ,t1,t2⟩:=RX W yJ jf qX Bh Bi xq vc bq h1 h2
    refine⟨τ,t1,t2,Tu W jf Bi xq (by omega) h1,Tu W qX Bh vc (by omega) t1⟩
   ·rw[ZF,ZD] at hk
    exact aaP W yJ jf qX Bh Bi xq vc hk h1 h2
def AG (T:aA) (ms:List bI) (F:Nat->Option FP):List Nat->St->St->Prop
 |[],σ,g0=>σ=g0
 |i::L,σ,g0=>∃m σ1,ms[i]? =some m/\F i=m.fp σ/\dJ T m σ=some σ1/\AG T ms F L σ1 g0
def QO (F:Nat->Option FP) (ms:List bI) (i j:Nat) (m:bI):Prop:=∃mj,ms[j]? =some mj/\AY mj m=true/\(AX mj m=true\/A9 (F j) (F i)=true)
structure QE (F:Nat->Option FP) (ops:Array Oper) (ms:List bI):Prop where
 back:∀(i:Nat) (o:Oper),ops[i]? =some o->∀e∈o.after,Region.binds .any e=true->e.on<i
 pair:∀(i j:Nat) (o:Oper) (m:bI),ops[i]? =some o->ms[i]? =some m->j<i->tm ops i j\/QO F ms i j m
section
variable {B:Nat} {E:Ex} {w0 w w':World} {G G':Gh} {N:Nat}
variable {P:Program} {T:aA} {o:Oper} {mo:bI} {a:Act} {σ σ':St} {Q:Exit->Act->World->Prop} {ops:Array Oper}
theorem X9 (hT:mR P T) {ms:List bI} {F:Nat->Option FP} (pB:∀(i:Nat) (m:bI),ms[i]? =some m->∃o,ops[i]? =some o/\r5 P N ops o m=true) {i:Nat} {mi:bI} (hi:ms[i]? =some mi) {post:List Nat} {g0:St}:
  ∀{pre:List Nat} {σ:St},Dr B E w0 N σ->AG T ms F (pre++i::post) σ g0->(∀j∈pre,QO F ms i j mi)->
  ∃τ,F i=mi.fp σ/\dJ T mi σ=some τ/\AG T ms F (pre++post) τ g0
 |[],σ,hr,hx,hc=>by
  obtain⟨m,σ1,h1,h2,h3,h4⟩:=hx
  rw[hi] at h1
  injection h1 with h1
  subst h1
  exact⟨σ1,h2,h3,h4⟩
 |j::pre,σ,hr,hx,hc=>by
  obtain⟨mj,σ1,k1,k2,k3,k4⟩:=hx
  obtain⟨mj',hj,iI,bq⟩:=hc j (by simp)
  rw[k1] at hj
  injection hj with hj
  subst hj
  obtain⟨oj,_,eE⟩:=pB j mj k1
  obtain⟨mN,t0,t1,t2⟩:=X9 hT pB hi (XP hr hT eE k3) k4 (fun k hk=>hc k (by simp[hk]))
  obtain⟨a,w,G,r⟩:=hr
  rw[k2,t0] at bq
  obtain⟨τ,s1,s2,s3,s4⟩:=aaQ r.wf iI bq k3 t1
  exact⟨τ,by rw[t0,s3],s1,mj,mN,k1,by rw[s4];exact k2,s2,t2⟩
theorem alB (hT:mR P T) {ms:List bI} {F:Nat->Option FP} (pB:∀(i:Nat) (m:bI),ms[i]? =some m->∃o,ops[i]? =some o/\r5 P N ops o m=true) (hlen:ms.length=ops.size) (hd:QE F ops ms) {g0:St}
  (hQ:∀a w G,R B E w0 N g0 a w G->Q .normal a w):
  ∀(gC:Nat) (L:List Nat) (cO:Array Bool) (σ:St) (a:Act) (w:World) (G:Gh),R B E w0 N σ a w G->AG T ms F L σ g0->L.Pairwise (·<·)->L.length<=gC->cO.size=ops.size->
   (∀j,j∈L↔cO.getD j true=false)->HT ops cO->wpAny P .any ops Q gC cO a w:=by
 have first:∀(L:List Nat) (cO:Array Bool),L.Pairwise (·<·)->cO.size=ops.size->(∀j,j∈L↔cO.getD j true=false)->Region.ready .any ops cO=[]->L=[]:=by
  intro L cO hp hs hL hr
  cases L with
  |nil=>rfl
  |cons j L=>
   exfalso
   have hj:=(hL j).1 (by simp)
   have jC:j<ops.size:=by
    rw[<-hs]
    rcases Nat.lt_or_ge j cO.size with h|h
    ·exact h
    ·simp[Array.getElem?_eq_none h] at hj
   have ho:ops[j]? =some ops[j]:=Array.getElem?_eq_getElem jC
   have:j∈Region.ready .any ops cO:=by
    rw[mem_ready]
    refine⟨hj,_,ho,fun e he hb=>?_⟩
    have bB:=hd.back j _ ho e he hb
    have lC:e.on∉j::L:=by
     intro hm
     cases hm with
     |head=>omega
     |tail _ hm=>have:=(List.pairwise_cons.1 hp).1 _ hm;omega
    have av:cO.getD e.on true≠false:=fun h=>lC ((hL e.on).2 h)
    have m9:e.on<cO.size:=by omega
    simp[m9] at av⊢
    exact av
   rw[hr] at this
   cases this
 intro gC
 induction gC with
 |zero=>
  intro L cO σ a w G r hx hp hl hs hL hC
  have pz:L=[]:=List.eq_nil_of_length_eq_zero (by omega)
  subst pz
  have hx:σ=g0:=hx
  subst hx
  refine⟨?_,hQ _ _ _ r⟩
  cases hr:Region.ready .any ops cO with
  |nil=>rfl
  |cons i l=>
   have hm:i∈Region.ready .any ops cO:=by rw[hr];simp
   have:=(hL i).2 (mem_ready.1 hm).1
   cases this
 |succ gC ih=>
  intro L cO σ a w G r hx hp hl hs hL hC
  refine⟨fun hr=>?_,fun i hi=>?_⟩
  ·have pz:=first L cO hp hs hL hr
   subst pz
   have hx:σ=g0:=hx
   subst hx
   exact hQ _ _ _ r
  ·obtain⟨KL,oi,iL,Bt⟩:=mem_ready.1 hi
   have BJ:i∈L:=(hL i).2 KL
   obtain⟨pre,post,rfl⟩:=List.append_of_mem BJ
   have BK:i<ops.size:=(Array.getElem?_eq_some_iff.1 iL).1
   have wv:ms[i]? =some ms[i]:=List.getElem?_eq_getElem (by omega)
   obtain⟨o',fP,qO⟩:=pB i _ wv
   rw[iL] at fP
   injection fP with fP
   subst fP
   have fD:=List.pairwise_append.1 hp
   obtain⟨τ,t0,t1,t2⟩:=X9 (ops:=ops) hT pB wv ⟨a,w,G,r⟩ hx (fun j hj=>by
    have mf:j<i:=fD.2.2 j hj i (by simp)
    rcases hd.pair i j oi _ iL wv mf with Kt|h
    ·have h1:=Rm hC Kt (fun o ho e he hb=>by
      rw[iL] at ho
      injection ho with ho
      subst ho
      have h1:=Bt e he hb
      have bB:=hd.back i _ iL e he hb
      have m9:e.on<cO.size:=by omega
      simp[m9] at h1⊢
      exact h1)
     have h2:=(hL j).1 (by simp[hj])
     rw[h1] at h2
     cases h2
    ·exact h)
   have BV:∀a' w',Nx B E w0 N τ a' w'->wpAny P .any ops Q gC (cO.setIfInBounds i true) a' w':=by
    rintro a' w' ⟨G',r'⟩
    refine ih (pre++post) _ τ a' w' G' r' t2 ?_ (by simp at hl⊢;omega) (by simpa using hs) (fun j=>?_) (fun k o ho hk e he hb=>?_)
    ·rw[List.pairwise_append]
     exact⟨fD.1,(List.pairwise_cons.1 fD.2.1).2,fun x hx y hy=>fD.2.2 x hx y (by simp[hy])⟩
    ·by_cases mf:j=i
     ·subst mf
      have jC:j<cO.size:=by omega
      simp only[List.mem_append]
      constructor
      ·rintro(h|h)
       ·have:=fD.2.2 j h j (by simp);omega
       ·have:=(List.pairwise_cons.1 fD.2.1).1 j h;omega
      ·intro h
       simp[jC] at h
     ·rw[getD_set_ne true (Ne.symm mf),<-hL j]
      simp[mf]
    ·have BN:∀q,cO.getD q true=true->(cO.setIfInBounds i true).getD q true=true:=by
      intro q hq
      by_cases nb:q=i
      ·subst nb
       have:q<cO.size:=by omega
       simp[this]
      ·rw[getD_set_ne true (Ne.symm nb)];exact hq
     by_cases wk:k=i
     ·subst wk
      rw[iL] at ho
      injection ho with ho
      subst ho
      have h1:=Bt e he hb
      have bB:=hd.back k _ iL e he hb
      have m9:e.on<cO.size:=by omega
      refine BN _ ?_
      simp[m9] at h1⊢
      exact h1
     ·rw[getD_set_ne true (Ne.symm wk)] at hk
      exact BN _ (hC k o ho hk e he hb)
   unfold wpOp
   rw[iL]
   simp only
   rcases EX (Q:=Q) r hT qO t1 with⟨hw,h⟩|⟨hw,h⟩
   ·rw[if_pos hw]
    exact .inl (Oper.wp_mono BV h)
   ·rw[if_neg (by simp[hw])]
    exact BV _ _ h
def Es (ps:List (Nat×Nat)) (ops:List Oper) (ms:List bI):Bool:=
 (fun ks:List Nat=>(List.range ops.length).all fun i=>match ops[i]?,ms[i]? with
  |some o,some m=>(o.after.toList.all fun e=> !Region.binds .any e||decide (e.on<i))&&
   (List.range i).all fun j=>(ks.getD i 0).testBit j||(match ms[j]? with|some mj=>AY mj m&&(AX mj m||ps.contains (j,i))|none=>false)
  |_,_=>false) (zy ops [])
theorem aaB {ps:List (Nat×Nat)} {ms:List bI} {fs:List (Option FP)} (h:Es ps ops.toList ms=true) (hp:uK ps fs=true):QE (fun i=>fs.getD i none) ops ms:=by
  simp only[Es,List.all_eq_true,List.mem_range] at h
  have bU:∀(i:Nat) (o:Oper),ops[i]? =some o->∃m,ms[i]? =some m/\(o.after.toList.all fun e=> !Region.binds .any e||decide (e.on<i))=true/\
        ∀j,j<i->(((zy ops.toList []).getD i 0).testBit j||(match ms[j]? with|some mj=>AY mj m&&(AX mj m||ps.contains (j,i))|none=>false))=true:=by
    intro i o ho
    have hi:i<ops.toList.length:=by simpa using(Array.getElem?_eq_some_iff.1 ho).1
    have hi':=h i hi
    have fP:ops.toList[i]? =some o:=by simpa using ho
    rw[fP] at hi'
    cases hm:ms[i]? with
    |none=>rw[hm] at hi';cases hi'
    |some m=>
     rw[hm] at hi'
     simp only[Bool.and_eq_true,List.all_eq_true,List.mem_range] at hi'
     exact⟨m,rfl,by rw[List.all_eq_true];exact hi'.1,hi'.2⟩
  refine⟨fun i o ho e he hb=>?_,fun i j o m ho hm hj=>?_⟩
  · obtain⟨m,_,k1,_⟩:=bU i o ho
    have:=List.all_eq_true.1 k1 e (Array.mem_toList_iff.2 he)
    simp[hb] at this
    exact this
  · obtain⟨m',bx,_,k2⟩:=bU i o ho
    rw[hm] at bx
    injection bx with bx
    subst bx
    have:=k2 j hj
    rw[Bool.or_eq_true] at this
    rcases this with h1|h1
    · exact .inl (ME ops.toList [] [] rfl rfl (by intro i k hb;simp at hb) i j h1)
    · cases yQ:ms[j]? with
      |none=>rw[yQ] at h1;cases h1
      |some mj=>
       rw[yQ] at h1
       simp only[Bool.and_eq_true,Bool.or_eq_true] at h1
       refine .inr ⟨mj,yQ,h1.1,?_⟩
       rcases h1.2 with h2|h2
       · exact .inl h2
       · refine .inr ?_
         have:=List.all_eq_true.1 hp (j,i) (by simpa using h2)
         exact this
theorem SS {ms:List bI}:∀(post pre:List bI) (σ g0:St) (fs cF:List (Option FP)),ms=pre++post->cF.length=pre.length->kE T post cF σ=some (fs,g0)->
  cF=fs.take cF.length/\AG T ms (fun i=>fs.getD i none) (List.range' pre.length post.length) σ g0
 |[],pre,σ,g0,fs,cF,he,hl,hx=>by
  simp only[kE] at hx
  injection hx with hx
  injection hx with h1 h2
  subst h1 h2
  exact⟨by simp,rfl⟩
 |m::post,pre,σ,g0,fs,cF,he,hl,hx=>by
  simp only[kE] at hx
  split at hx
  ·rename_i σ1 e1
   obtain⟨h1,h2⟩:=SS (ms:=ms) post (pre++[m]) σ1 g0 fs (cF++[m.fp σ]) (by simp[he]) (by simp[hl]) hx
   have h3:fs[cF.length]? =some (m.fp σ):=by
    have:(fs.take (cF++[m.fp σ]).length)[cF.length]? =some (m.fp σ):=by rw[<-h1];simp
    rw[List.getElem?_take] at this
    split at this
    ·exact this
    ·cases this
   have h4:cF=fs.take cF.length:=by
    have:=congrArg (List.take cF.length) h1
    simpa[List.take_take] using this
   refine⟨h4,m,σ1,?_,?_,e1,?_⟩
   ·rw[he,List.getElem?_append_right (Nat.le_refl _),Nat.sub_self];rfl
   ·show fs.getD pre.length none=_
    rw[<-hl,List.getD_eq_getElem?_getD,h3];rfl
   ·simpa using h2
  ·cases hx
theorem ajB (hT:mR P T) (hm:P.follows .mixedOrders=true) {id:Nat} {ps:List (Nat×Nat)} {ms:List bI} {fs:List (Option FP)} (hc:mW P N ops ops.toList ms=true) (hd:Es ps ops.toList ms=true)
  (hx:kE T ms [] σ=some (fs,σ')) (hp:uK ps fs=true) (r:R B E w0 N σ a w G) (hQ:∀a w G,R B E w0 N σ' a w G->Q .normal a w):(Code.region id ops true).wp P Q a w:=by
 obtain⟨k1,k2⟩:=I3 hc
 have hlen:ms.length=ops.size:=by simpa using k1
 refine wp_region_any hm (alB (B:=B) (E:=E) (w0:=w0) (N:=N) hT (fun i m h=>by
  obtain⟨o,h1,h2⟩:=k2 i m h;exact⟨o,by simpa using h1,h2⟩) hlen (aaB hd hp) hQ ops.size (List.range ops.size) _ σ a _ G (r.drawn _) ?_ ?_ (by simp) (by simp) (fun j=>?_) (fun k o ho hk=>?_))
 ·have:=(SS (T:=T) (ms:=ms) ms [] σ σ' fs [] rfl rfl hx).2
  simp only[List.length_nil,hlen,<-List.range_eq_range'] at this
  exact this
 ·exact List.pairwise_lt_range
 ·rw[List.mem_range]
  constructor
  ·intro h;simp[h]
  ·intro h
   rcases Nat.lt_or_ge j ops.size with h'|h'
   ·exact h'
   ·simp[Array.getElem?_eq_none (show(Array.replicate ops.size false).size<=j by simpa using h')] at h
 ·exfalso
  have KQ:k<ops.size:=(Array.getElem?_eq_some_iff.1 ho).1
  simp[KQ] at hk
end
end Go.Am
end
