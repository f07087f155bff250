/- AmP, AmQ: parts of the proof. No condition. -/
import Derived.Test.YtifmggmhdcdgbaaAm21
set_option linter.unusedVariables false
set_option linter.unusedSimpArgs false
section
namespace Go.Am
theorem ah.aiw {c:ah} {m:Nat}:m∈c.ru↔c.iD m:=by
 cases c<;>simp[ah.ru,ah.iD]
theorem ah.DC {c:ah} {m:Nat}:m∈c.nm↔c.ref m:=by
 cases c with
 |fn f ca=>simp[ah.nm,ah.ref,List.mem_flatMap,ah.aiw]
 |_=>simp[ah.nm,ah.ru,ah.ref,ah.iD]
theorem aj.yt {v:aj} {m:Nat}:m∈v.gn↔v.ref m:=by
 cases v with
 |one c=>exact ah.DC
 |agg cs=>simp[aj.gn,aj.ref,List.mem_flatMap,ah.DC]
 |bk xs=>simp only[aj.gn,aj.ref,List.mem_flatMap,ah.DC]
theorem pq {op:aD} {ev:MO->aj} {n:Nat}:n∈op.iS ev↔∃a∈op.args,(ev a).ref n:=by
 simp[aD.iS,List.mem_flatMap,aj.yt]
theorem Ip {op:aD} {ev:MO->aj} {h:Nat->Option aq} {n:Nat} (hn:n∈op.iS ev):n∈op.mb ev h:=by
 unfold aD.mb
 cases op.Dg with
 |true=>exact List.mem_append.2 (.inl hn)
 |false=>exact hn
theorem aao {op:aD} {ev:MO->aj} {h:Nat->Option aq} {ws:List Nat} (hw:op.kg ev h=some ws) {n:Nat} (hn:n∈ws):n∈op.iS ev:=by
 cases op<;>simp only[aD.kg] at hw<;>first|(cases hw;cases hn)|(cases hw;done)|skip
 case store sz x v=>
  split at hw
  ·rename_i q _ _ _ hx
   have hq:q∈(aD.store sz x v).iS ev:=pq.2 ⟨x,by simp[aD.args],by rw[hx];exact rfl⟩
   split at hw
   ·injection hw with hw;subst hw;simp at hn;subst hn;exact hq
   ·injection hw with hw;subst hw
    rcases List.mem_cons.1 hn with rfl|hn
    ·exact hq
    ·exact pq.2 ⟨v,by simp[aD.args],aj.yt.1 hn⟩
   ·cases hw
  ·rename_i q _ _ _ _ _ hx
   have hq:q∈(aD.store sz x v).iS ev:=pq.2 ⟨x,by simp[aD.args],by rw[hx];exact rfl⟩
   injection hw with hw;subst hw;simp at hn;subst hn;exact hq
  ·cases hw
 case copy sz x y=>
  split at hw
  ·rename_i q _ _ _ hx
   injection hw with hw;subst hw;simp at hn;subst hn
   exact pq.2 ⟨x,by simp[aD.args],by rw[hx];exact rfl⟩
  ·cases hw
 case kN z x=>
  split at hw
  ·rename_i q _ _ _ hx
   injection hw with hw;subst hw;simp at hn;subst hn
   exact pq.2 ⟨x,by simp[aD.args],by rw[hx];exact rfl⟩
  ·cases hw
 case d8 sz ps=>
  injection hw with hw
  subst hw
  obtain⟨a,ha,hn⟩:=List.mem_flatMap.1 hn
  exact pq.2 ⟨a,ha,aj.yt.1 hn⟩
 case jv f xs=>
  injection hw with hw
  subst hw
  obtain⟨a,ha,hn⟩:=List.mem_flatMap.1 hn
  exact pq.2 ⟨a,ha,aj.yt.1 hn⟩
 case append fl sz by_ x y=>
  injection hw with hw
  subst hw
  rcases List.mem_append.1 hn with hn|hn
  ·exact pq.2 ⟨x,by simp[aD.args],aj.yt.1 hn⟩
  ·exact pq.2 ⟨y,by simp[aD.args],aj.yt.1 hn⟩
def St.c6 (σ:St):List (Nat×Option aq)->St
 |[]=>σ
 |(n,b)::l=>St.c6 {σ with h:=av σ.h n b} l
def dn (h:Nat->Option aq):List (Nat×Option aq)->(Nat->Option aq)
 |[]=>h
 |(n,b)::l=>dn (av h n b) l
theorem lr:∀(l:List (Nat×Option aq)) (σ:St),σ.c6 l={σ with h:=dn σ.h l}
 |[],σ=>rfl
 |(n,b)::l,σ=>by simp only[St.c6,dn];rw[lr l]
theorem nJ:∀{l:List (Nat×Option aq)} {h:Nat->Option aq} {n:Nat},(∀p∈l,p.1≠n)->dn h l n=h n
 |[],h,n,_=>rfl
 |(m,b)::l,h,n,hn=>by
  simp only[dn]
  rw[nJ fun p hp=>hn p (List.mem_cons_of_mem _ hp)]
  exact cd _ _ _ _ (fun e=>hn (m,b) (by simp) e.symm)
theorem ak6 (h:Nat->Option aq) (l l':List (Nat×Option aq)):dn h (l++l')=dn (dn h l) l':=by
 induction l generalizing h with
 |nil=>rfl
 |cons x l ih=>obtain⟨n,b⟩:=x;exact ih _
theorem BF (σ:St) (l l':List (Nat×Option aq)):σ.c6 (l++l')=(σ.c6 l).c6 l':=by
 simp only[lr,ak6]
theorem Eu:∀{l:List (Nat×Option aq)} {h h':Nat->Option aq} {n:Nat},(∃p∈l,p.1=n)->dn h l n=dn h' l n
 |[],h,h',n,hn=>by obtain⟨p,hp,_⟩:=hn;cases hp
 |(m,b)::l,h,h',n,hn=>by
  simp only[dn]
  by_cases hl:∃p∈l,p.1=n
  ·exact Eu hl
  ·have ct:∀p∈l,p.1≠n:=fun p hp e=>hl ⟨p,hp,e⟩
   rw[nJ ct,nJ ct]
   obtain⟨p,hp,e⟩:=hn
   rcases List.mem_cons.1 hp with rfl|hp
   ·simp only at e;subst e;rw[bD,bD]
   ·exact absurd e (ct p hp)
theorem aae {u v:List (Nat×Option aq)} (hd:∀p∈u,∀q∈v,p.1≠q.1) (h:Nat->Option aq):dn (dn h u) v=dn (dn h v) u:=by
 funext n
 by_cases hu:∃p∈u,p.1=n
 ·obtain⟨p,hp,rfl⟩:=hu
  rw[nJ (l:=v) fun q hq e=>hd p hp q hq e.symm]
  exact Eu ⟨p,hp,rfl⟩
 ·rw[nJ (l:=u) (h:=dn h v) fun p hp e=>hu ⟨p,hp,e⟩]
  by_cases hv:∃q∈v,q.1=n
  ·exact Eu hv
  ·rw[nJ fun q hq e=>hv ⟨q,hq,e⟩,nJ fun p hp e=>hu ⟨p,hp,e⟩,nJ fun q hq e=>hv ⟨q,hq,e⟩]
theorem ak8 {u v:List (Nat×Option aq)} (hd:∀p∈u,∀q∈v,p.1≠q.1) (σ:St):(σ.c6 u).c6 v=(σ.c6 v).c6 u:=by
 simp only[lr,aae hd]
theorem aaf (σ:St) (e:Nat->aj) (l:List (Nat×Option aq)):(σ.we e).c6 l=(σ.c6 l).we e:=by
 simp only[lr];rfl
theorem ak7 {l:List (Nat×Option aq)} {h:Nat->Option aq} {n:Nat} {b:Option aq} (hn:∀p∈l,p.1≠n):dn (av h n b) l=av (dn h l) n b:=by
 have:=aae (u:=l) (v:=[(n,b)]) (fun p hp q hq=>by simp at hq;subst hq;exact hn p hp) h
 exact this.symm
theorem aeS {σ σ1:St} {l:List (Nat×Option aq)} {n:Nat} {b:aq} (hl:∀p∈l,σ.used p.1=true) (h:σ.ins n b=some σ1):(σ.c6 l).ins n b=some (σ1.c6 l):=by
 obtain⟨u1,rfl⟩:=mJ h
 unfold St.ins
 rw[lr,lr]
 rw[if_neg (show¬σ.used n=true by rw[u1];simp)]
 simp only
 rw[ak7 fun p hp e=>by rw[<-e,hl p hp] at u1;cases u1]
theorem De:∀{A:List (Nat×aq)} {σ σ1:St} {l:List (Nat×Option aq)},(∀p∈l,σ.used p.1=true)->σ.cF A=some σ1->(σ.c6 l).cF A=some (σ1.c6 l)
 |[],σ,σ1,l,hl,h=>by
  simp only[St.cF] at h⊢
  injection h with h
  rw[h]
 |(n,b)::A,σ,σ1,l,hl,h=>by
  simp only[St.cF] at h⊢
  split at h
  ·rename_i jP e
   rw[aeS hl e]
   obtain⟨u1,rfl⟩:=mJ e
   exact De (fun p hp=>qI _ _ (hl p hp)) h
  ·cases h
theorem W3:∀{A:List (Nat×aq)} {σ σ':St},σ.used=σ'.used->(σ.cF A).isSome=true->(σ'.cF A).isSome=true
 |[],σ,σ',hu,h=>rfl
 |(n,b)::A,σ,σ',hu,h=>by
  simp only[St.cF,St.ins] at h⊢
  rw[<-hu]
  split at h
  ·rename_i jP e
   split at e
   ·cases e
   ·rename_i hn
    injection e with e
    subst e
    rw[if_neg hn]
    simp only
    exact W3 (by rfl) h
  ·cases h
theorem NE {A:List (Nat×aq)} {σ B:St} {l:List (Nat×Option aq)} (hl:∀p∈l,σ.used p.1=true) (h:(σ.c6 l).cF A=some B):∃B',σ.cF A=some B'/\B=B'.c6 l:=by
 have hs:(σ.cF A).isSome=true:=W3 (A:=A) (σ:=σ.c6 l) (σ':=σ) (by rw[lr]) (by rw[h];rfl)
 cases e:σ.cF A with
 |none=>rw[e] at hs;cases hs
 |some B'=>
  refine⟨B',rfl,?_⟩
  have:=De hl e
  rw[h] at this
  injection this
abbrev Us:=List (Nat×Option aq)
def rE (h:Nat->Option aq):ah->Option (C×Bool×Us)
 |.c x=>some (x,x.eD,[])
 |.nil sz=>if 0<sz then some (.list sz [],true,[]) else none
 |.sl n sz lo len=>
  match h n with
  |some (.row _ m rs xs)=>if rs=sz/\lo=0/\len<=xs.length then some (.list sz (xs.take len),decide (m≠ .aF),[(n,none)]) else none
  |_=>none
 |_=>none
def jN (h:Nat->Option aq):List ah->Option (List C×Bool×Us)
 |[]=>some ([],true,[])
 |c::cs=>match rE h c with
  |some (x,o,u)=>match jN (dn h u) cs with
   |some (xs,o',u')=>some (x::xs,o&&o',u++u')
   |none=>none
  |none=>none
def oF (sz:Nat) (h:Nat->Option aq):List aj->Option (List (List C)×Bool×Us)
 |[]=>some ([],true,[])
 |v::vs=>match v.cells? with
  |some (_,cs)=>if cs.length=sz then
   match jN h cs with
   |some (e,o,u)=>match oF sz (dn h u) vs with
    |some (es,o',u')=>some (e::es,o&&o',u++u')
    |none=>none
   |none=>none
   else none
  |none=>none
theorem Ev (σ:St) (l:Us):(σ.c6 l).h=dn σ.h l:=by rw[lr]
theorem ak1 (σ:St) (c:ah):σ.fS c=(rE σ.h c).map fun x=>(x.1,x.2.1,σ.c6 x.2.2):=by
 cases c with
 |sl n sz lo len=>
  simp only[St.fS,rE]
  cases σ.h n with
  |none=>rfl
  |some b=>cases b with
   |box cs=>rfl
   |row gr m rs xs=>simp only;split<;>rfl
 |nil sz=>simp only[St.fS,rE];split<;>rfl
 |_=>rfl
theorem Jo:∀(cs:List ah) (σ:St),σ.gf cs=(jN σ.h cs).map fun x=>(x.1,x.2.1,σ.c6 x.2.2)
 |[],σ=>rfl
 |c::cs,σ=>by
  simp only[St.gf,jN,ak1]
  cases rE σ.h c with
  |none=>rfl
  |some x=>
   obtain⟨x,o,u⟩:=x
   simp only[Option.map_some,Jo cs,Ev]
   cases jN (dn σ.h u) cs with
   |none=>rfl
   |some y=>obtain⟨xs,o',u'⟩:=y;simp only[Option.map_some,BF]
theorem Z3 (sz:Nat):∀(vs:List aj) (σ:St),σ.lm sz vs=(oF sz σ.h vs).map fun x=>(x.1,x.2.1,σ.c6 x.2.2)
 |[],σ=>rfl
 |v::vs,σ=>by
  simp only[St.lm,oF]
  cases v.cells? with
  |none=>rfl
  |some x=>
   obtain⟨b,cs⟩:=x
   simp only
   split
   ·rw[Jo]
    cases jN σ.h cs with
    |none=>rfl
    |some y=>
     obtain⟨e,o,u⟩:=y
     simp only[Option.map_some,Z3 sz vs,Ev]
     cases oF sz (dn σ.h u) vs with
     |none=>rfl
     |some y=>obtain⟨es,o',u'⟩:=y;simp only[Option.map_some,BF]
   ·rfl
theorem akZ {h:Nat->Option aq} {c:ah} {x:C} {o:Bool} {u:Us} (e:rE h c=some (x,o,u)):∀q∈u,q.1∈c.nm:=by
 unfold rE at e
 split at e
 ·injection e with e;injection e with _ e;injection e with _ e;subst e;intro q hq;cases hq
 ·split at e
  ·injection e with e;injection e with _ e;injection e with _ e;subst e;intro q hq;cases hq
  ·cases e
 ·split at e
  ·split at e
   ·injection e with e;injection e with _ e;injection e with _ e;subst e;intro q hq;simp at hq;subst hq;simp[ah.nm,ah.ru]
   ·cases e
  ·cases e
 ·cases e
theorem Jn:∀{cs:List ah} {h:Nat->Option aq} {xs:List C} {o:Bool} {u:Us},jN h cs=some (xs,o,u)->∀q∈u,q.1∈cs.flatMap ah.nm
 |[],h,xs,o,u,e=>by
  simp only[jN] at e
  injection e with e;injection e with _ e;injection e with _ e;subst e;intro q hq;cases hq
 |c::cs,h,xs,o,u,e=>by
  simp only[jN] at e
  split at e
  ·rename_i x o1 u1 e1
   split at e
   ·rename_i il o2 u2 e2
    injection e with e;injection e with _ e;injection e with _ e;subst e
    intro q hq
    rw[List.flatMap_cons]
    rcases List.mem_append.1 hq with hq|hq
    ·exact List.mem_append.2 (.inl (akZ e1 q hq))
    ·exact List.mem_append.2 (.inr (Jn e2 q hq))
   ·cases e
  ·cases e
theorem zp {v:aj} {b:Bool} {cs:List ah} (h:v.cells?=some (b,cs)):cs.flatMap ah.nm=v.gn:=by
 cases v with
 |one c=>cases c<;>simp[aj.cells?] at h<;>(obtain⟨_,rfl⟩:=h;simp[aj.gn])
 |agg cs'=>simp[aj.cells?] at h;obtain⟨_,rfl⟩:=h;rfl
 |bk xs=>simp[aj.cells?] at h
theorem Z2 {sz:Nat}:∀{vs:List aj} {h:Nat->Option aq} {xs:List (List C)} {o:Bool} {u:Us},oF sz h vs=some (xs,o,u)->∀q∈u,q.1∈vs.flatMap aj.gn
 |[],h,xs,o,u,e=>by
  simp only[oF] at e
  injection e with e;injection e with _ e;injection e with _ e;subst e;intro q hq;cases hq
 |v::vs,h,xs,o,u,e=>by
  simp only[oF] at e
  split at e
  ·rename_i b cs hv
   split at e
   ·split at e
    ·rename_i x o1 u1 e1
     split at e
     ·rename_i il o2 u2 e2
      injection e with e;injection e with _ e;injection e with _ e;subst e
      intro q hq
      rw[List.flatMap_cons]
      rcases List.mem_append.1 hq with hq|hq
      ·exact List.mem_append.2 (.inl (zp hv▸Jn e1 q hq))
      ·exact List.mem_append.2 (.inr (Z2 e2 q hq))
     ·cases e
    ·cases e
   ·cases e
  ·cases e
theorem Et {h h':Nat->Option aq} {n:Nat} (hh:h' n=h n) (u:Us):dn h' u n=dn h u n:=by
 by_cases hu:∃p∈u,p.1=n
 ·exact Eu hu
 ·rw[nJ fun p hp e=>hu ⟨p,hp,e⟩,nJ fun p hp e=>hu ⟨p,hp,e⟩,hh]
theorem akY {h h':Nat->Option aq} {c:ah} (hh:∀n∈c.nm,h' n=h n):rE h' c=rE h c:=by
 cases c with
 |sl n sz lo len=>simp only[rE];rw[hh n (by simp[ah.nm,ah.ru])]
 |_=>rfl
theorem Jm:∀{cs:List ah} {h h':Nat->Option aq},(∀n∈cs.flatMap ah.nm,h' n=h n)->jN h' cs=jN h cs
 |[],h,h',_=>rfl
 |c::cs,h,h',hh=>by
  simp only[jN]
  rw[akY fun n hn=>hh n (by rw[List.flatMap_cons];exact List.mem_append.2 (.inl hn))]
  cases rE h c with
  |none=>rfl
  |some x=>
   obtain⟨x,o,u⟩:=x
   simp only
   rw[Jm (cs:=cs) (h:=dn h u) (h':=dn h' u) fun n hn=>Et (hh n (by rw[List.flatMap_cons];exact List.mem_append.2 (.inr hn))) u]
theorem Z1 {sz:Nat}:∀{vs:List aj} {h h':Nat->Option aq},(∀n∈vs.flatMap aj.gn,h' n=h n)->oF sz h' vs=oF sz h vs
 |[],h,h',_=>rfl
 |v::vs,h,h',hh=>by
  simp only[oF]
  cases hv:v.cells? with
  |none=>rfl
  |some x=>
   obtain⟨b,cs⟩:=x
   simp only
   rw[Jm (cs:=cs) fun n hn=>hh n (by rw[List.flatMap_cons];exact List.mem_append.2 (.inl (zp hv▸hn)))]
   cases jN h cs with
   |none=>rfl
   |some y=>
    obtain⟨e,o,u⟩:=y
    simp only
    rw[Z1 (vs:=vs) (h:=dn h u) (h':=dn h' u) fun n hn=>Et (hh n (by rw[List.flatMap_cons];exact List.mem_append.2 (.inr hn))) u]
def wH (h:Nat->Option aq) (n:Nat) (gr:Bool) (m:Mode) (rs:Nat) (xs:List (List C)) (k off:Nat) (e:List C) (vs:List ah):Option Us:=
 match sub e off vs.length with
 |none=>none
 |some f9=>match jN h vs with
  |none=>none
  |some (cs,o,u)=>
   if m=.live then
    if fi cs=true/\fi f9=true/\(dn h u n).isSome=true then some (u++[(n,some (.row gr m rs (xs.set k (bV e off cs))))]) else none
   else if(dn h u n).isSome=true then some (u++[(n,some (.row gr (if o=true then m else .aF) rs (xs.set k (bV e off cs))))])
   else none
theorem akM (σ:St) (n:Nat) (gr:Bool) (m:Mode) (rs:Nat) (xs:List (List C)) (k off:Nat) (e:List C) (vs:List ah):
  mV σ n gr m rs xs k off e vs=(wH σ.h n gr m rs xs k off e vs).map fun u=>σ.c6 u:=by
 unfold mV wH
 cases sub e off vs.length with
 |none=>rfl
 |some f9=>
  simp only[Jo]
  cases jN σ.h vs with
  |none=>rfl
  |some x=>
   obtain⟨cs,o,u⟩:=x
   simp only[Option.map_some,Ev]
   repeat' split
   all_goals first|rfl|(simp only[Option.map_some,BF];rfl)
def vd (h:Nat->Option aq) (sz:Nat):aj->Option (List (List C)×Mode×List (Nat×Option aq))
 |.one (.nil _)=>some ([],.aa,[])
 |.one (.sl a s 0 len)=>match h a with
  |some (.row true m rs xs)=>if rs=sz/\s=sz/\len=xs.length then some (xs,m,[(a,none)]) else none
  |_=>none
 |_=>none
def tr (fl:Bool) (h:Nat->Option aq) (sz:Nat) (m:Mode):aj->Option (List (List C)×Mode×List (Nat×Option aq))
  |.one (.nil _)=>some ([],m,[])
  |.one (.c (.list s ys))=>if s=sz then(if(fl&&fQ ys)=true then some (ys,m,[]) else if m=.live then none else some (ys,.aF,[])) else none
  |.one (.sl b s lo len)=>match h b with
   |some (.row _ m' rs ys)=>if rs=sz/\s=sz/\lo+len<=ys.length then
       (if(fl&&fQ ((ys.drop lo).take len))=true then some ((ys.drop lo).take len,m,[])
        else if lo=0/\len=ys.length then(if m=m' then some (ys,m,[(b,none)]) else if m=.live\/m'=.live then none else some (ys,.aF,[(b,none)])) else none)
    else none
   |_=>none
  |_=>none
theorem aay (σ:St) (sz:Nat) (v:aj):pJ σ sz v=(vd σ.h sz v).map fun x=>(x.1,x.2.1,σ.c6 x.2.2):=by
 cases v with
 |one v=>cases v with
  |sl a s lo len=>cases lo with
   |zero=>
    simp only[pJ,vd]
    cases σ.h a with
    |none=>rfl
    |some b=>cases b with
     |box cs=>rfl
     |row gr m rs xs=>cases gr with
      |true=>simp only;split<;>rfl
      |false=>rfl
   |succ lo=>rfl
  |_=>rfl
 |_=>rfl
theorem aaA (fl:Bool) (σ:St) (sz:Nat) (m:Mode) (v:aj):lB fl σ sz m v=(tr fl σ.h sz m v).map fun x=>(x.1,x.2.1,σ.c6 x.2.2):=by
 cases v with
 |one v=>cases v with
  |sl b s lo len=>
   simp only[lB,tr]
   cases σ.h b with
   |none=>rfl
   |some b=>cases b with
    |box cs=>rfl
    |row gr m rs xs=>
     simp only
     repeat' split
     all_goals rfl
  |c x=>cases x with
   |list s ys=>
    simp only[lB,tr]
    repeat' split
    all_goals rfl
   |_=>rfl
  |_=>rfl
 |_=>rfl
def lC (h:Nat->Option aq):List aj->Option (List Dv×List Nat×Us)
 |[]=>some ([],[],[])
 |v::vs=>match m8 h v with
  |some (n,xs)=>match lC h vs with
   |some (ds,ns,u)=>some ((.ptr,xs)::ds,n::ns,u)
   |none=>none
  |none=>match v.cells? with
   |some (ag,cs)=>match jN h cs with
    |some (xs,_,u)=>match lC (dn h u) vs with
     |some (ds,ns,u')=>some ((if ag=true then .agg else .one,xs)::ds,ns,u++u')
     |none=>none
    |none=>none
   |none=>none
theorem Kw:∀(vs:List aj) (σ:St),σ.iu vs=(lC σ.h vs).map fun x=>(x.1,x.2.1,σ.c6 x.2.2)
 |[],σ=>rfl
 |v::vs,σ=>by
  simp only[St.iu,lC]
  cases m8 σ.h v with
  |some x=>
   obtain⟨n,xs⟩:=x
   simp only[Kw vs σ]
   cases lC σ.h vs<;>rfl
  |none=>
   simp only
   cases v.cells? with
   |none=>rfl
   |some x=>
    obtain⟨ag,cs⟩:=x
    simp only
    rw[Jo]
    cases jN σ.h cs with
    |none=>rfl
    |some y=>
     obtain⟨e,o,u⟩:=y
     simp only[Option.map_some,Kw vs,Ev]
     cases lC (dn σ.h u) vs with
     |none=>rfl
     |some y=>obtain⟨ds,ns,u'⟩:=y;simp only[Option.map_some,BF]
theorem aaK {h:Nat->Option aq} {v:aj} {n:Nat} {xs:List C} (e:m8 h v=some (n,xs)):n∈v.gn:=by
 obtain⟨sz,cs,rfl,_⟩:=Ky e
 simp[aj.gn,ah.nm,ah.ru]
theorem Ge:∀{vs:List aj} {h:Nat->Option aq} {ds:List Dv} {ns:List Nat} {u:Us},lC h vs=some (ds,ns,u)->(∀q∈u,q.1∈vs.flatMap aj.gn)/\∀n∈ns,n∈vs.flatMap aj.gn
 |[],h,ds,ns,u,e=>by
  simp only[lC] at e
  injection e with e;injection e with _ e;injection e with e1 e;subst e e1;exact⟨fun q hq=>(by cases hq),fun q hq=>(by cases hq)⟩
 |v::vs,h,ds,ns,u,e=>by
  simp only[lC] at e
  split at e
  ·rename_i n xs hp
   split at e
   ·rename_i xo ka u' e2
    injection e with e;injection e with _ e;injection e with e1 e;subst e e1
    obtain⟨i1,i2⟩:=Ge e2
    rw[List.flatMap_cons]
    refine⟨fun q hq=>List.mem_append.2 (.inr (i1 q hq)),fun m hm=>?_⟩
    rcases List.mem_cons.1 hm with rfl|hm
    ·exact List.mem_append.2 (.inl (aaK hp))
    ·exact List.mem_append.2 (.inr (i2 m hm))
   ·cases e
  ·split at e
   ·rename_i b cs hv
    split at e
    ·rename_i x o1 u1 e1
     split at e
     ·rename_i ds2 X9 u2 e2
      injection e with e;injection e with _ e;injection e with e3 e;subst e e3
      obtain⟨i1,i2⟩:=Ge e2
      rw[List.flatMap_cons]
      refine⟨fun q hq=>?_,fun m hm=>List.mem_append.2 (.inr (i2 m hm))⟩
      rcases List.mem_append.1 hq with hq|hq
      ·exact List.mem_append.2 (.inl (zp hv▸Jn e1 q hq))
      ·exact List.mem_append.2 (.inr (i1 q hq))
     ·cases e
    ·cases e
   ·cases e
theorem aaJ {h h':Nat->Option aq} {v:aj} (hh:∀n∈v.gn,h' n=h n):m8 h' v=m8 h v:=by
 cases v with
 |one c=>cases c with
  |ptr n k sz off=>simp only[m8];rw[hh n (by simp[aj.gn,ah.nm,ah.ru])]
  |_=>rfl
 |_=>rfl
theorem Ku:∀{vs:List aj} {h h':Nat->Option aq},(∀n∈vs.flatMap aj.gn,h' n=h n)->lC h' vs=lC h vs
 |[],h,h',_=>rfl
 |v::vs,h,h',hh=>by
  have h1:∀n∈v.gn,h' n=h n:=fun n hn=>hh n (by rw[List.flatMap_cons];exact List.mem_append.2 (.inl hn))
  have h2:∀n∈vs.flatMap aj.gn,h' n=h n:=fun n hn=>hh n (by rw[List.flatMap_cons];exact List.mem_append.2 (.inr hn))
  simp only[lC]
  rw[aaJ h1]
  cases m8 h v with
  |some x=>
   obtain⟨n,xs⟩:=x
   simp only
   rw[Ku h2]
  |none=>
   simp only
   cases hv:v.cells? with
   |none=>rfl
   |some x=>
    obtain⟨b,cs⟩:=x
    simp only
    rw[Jm (cs:=cs) fun n hn=>h1 n (zp hv▸hn)]
    cases jN h cs with
    |none=>rfl
    |some y=>
     obtain⟨e,o,u⟩:=y
     simp only
     rw[Ku (vs:=vs) (h:=dn h u) (h':=dn h' u) fun n hn=>Et (h2 n hn) u]
def uB (h:Nat->Option aq):List Nat->List C->Option Us
 |[],[]=>some []
 |[n],out=>match h n with
  |some (.box cs)=>if cs.length=out.length then some [(n,some (.box (out.map .c)))] else none
  |_=>none
 |_,_=>none
theorem ajz (σ:St) (ns:List Nat) (out:List C):σ.ry ns out=(uB σ.h ns out).map σ.c6:=by
 match ns,out with
 |[],[]=>rfl
 |[],_::_=>rfl
 |[n],out=>
  simp only[St.ry,uB]
  cases σ.h n with
  |none=>rfl
  |some b=>
   cases b with
   |box cs=>simp only;split<;>rfl
   |row gr m rs xs=>rfl
 |_::_::_,out=>rfl
theorem ajy {h:Nat->Option aq} {ns:List Nat} {out:List C} {u:Us} (e:uB h ns out=some u):∀q∈u,q.1∈ns:=by
 unfold uB at e
 split at e
 ·injection e with e;subst e;intro q hq;cases hq
 ·split at e
  ·split at e
   ·injection e with e;subst e;intro q hq;simp at hq;subst hq;simp
   ·cases e
  ·cases e
 ·cases e
theorem ajx {h h':Nat->Option aq} {ns:List Nat} {out:List C} (hh:∀n∈ns,h' n=h n):uB h' ns out=uB h ns out:=by
 match ns,out with
 |[],[]=>rfl
 |[],_::_=>rfl
 |[n],out=>simp only[uB];rw[hh n (by simp)]
 |_::_::_,out=>rfl
def zi (d:Option Nat):List Dv->Option (aj×List (Nat×aq))
 |[(.ptr,cs)]=>match d with
  |some q=>some (.one (.ptr q 0 0 0),[(q,.box (cs.map .c))])
  |none=>none
 |rs=>match gX rs with
  |some ls=>some (me ls,[])
  |none=>none
theorem aaL (σ:St) (d:Option Nat) (rs:List Dv):qM σ d rs=(zi d rs).bind fun x=>(σ.cF x.2).map (·.put d x.1):=by
 unfold qM
 split
 ·cases d with
  |none=>rfl
  |some q=>
   simp only[zi,Option.bind_some,St.cF]
   cases σ.ins q _<;>rfl
 ·rename_i aC
  have e:zi d rs=match gX rs with
    |some ls=>some (me ls,[])
    |none=>none:=by
   unfold zi
   split
   ·exact absurd rfl (aC _)
   ·rfl
  rw[e]
  cases gX rs with
  |none=>rfl
  |some ls=>rfl
abbrev Kl:=aj×List (Nat×Option aq)×List (Nat×aq)
def eK (T:bh) (d:Option Nat) (op:aD) (ev:MO->aj) (h:Nat->Option aq):Option Kl:=
 match op with
 |.store sz x v=>match ev x,(ev v).cells? with
  |.one (.ptr n k ax off),some (_,vs)=>if vs.length=sz then
   match h n with
   |some (.box cs)=>if k=0/\off+sz<=cs.length then some (.one .bj,[(n,some (.box (bV cs off vs)))],[]) else none
   |some (.row gr m rs xs)=>if ax=rs then
    match xs[k]? with
    |some e=>match wH h n gr m rs xs k off e vs with
     |some u=>some (.one .bj,u,[])
     |none=>none
    |none=>none
    else none
   |none=>none
   else none
  |.one (.cB n k ax off s i),some (_,vs)=>if vs.length=sz then
   match h n with
   |some (.row gr .live rs xs)=>if ax=rs then
    match uK xs k off s i vs with
    |some ar=>some (.one .bj,[(n,some (.row gr .live rs ar))],[])
    |none=>none
    else none
   |_=>none
   else none
  |_,_=>none
 |.d8 sz ps=>match d,oF sz h (ps.map ev) with
  |some n,some (es,o,u)=>some (.one (.sl n sz 0 es.length),u,[(n,.row true (if o=true then .aa else .aF) sz es)])
  |_,_=>none
 |.append fl sz by_ x y=>match d with
  |none=>none
  |some n=>match vd h sz (ev x) with
   |none=>none
   |some (xs,m,u1)=>match tr fl (dn h u1) sz m (ev y) with
    |none=>none
    |some (ys,m2,u2)=>if(xs.length+ys.length)*by_<=eZ then some (.one (.sl n sz 0 (xs.length+ys.length)),u1++u2,[(n,.row true m2 sz (xs++ys))]) else none
 |.jv f xs=>match lC h (xs.map ev),bh.nW T.vs f with
  |some (ds,ns,u),some M=>match M ds with
   |some (rs,out)=>match uB (dn h u) ns out,zi d rs with
    |some u',some (v,is)=>some (v,u++u',is)
    |_,_=>none
   |none=>none
  |_,_=>none
 |.copy sz x y=>match ev x,ev y with
  |.one (.sl n s lo len),.one c=>match h n,bU h c with
   |some (.row gr m rs xs),some (.list s' ys)=>if sz=1/\s=1/\rs=1/\s'=1/\m≠ .aF/\fQ xs=true/\fQ ys=true/\lo+len<=xs.length then
    some (.one (.c (.int .i64 (Nat.min ys.length len:Nat))),[(n,some (.row gr m 1 (bV xs lo (ys.take len))))],[]) else none
   |_,_=>none
  |_,_=>none
 |.kN z x=>match ev x with
  |.one (.sl n s lo len)=>match h n with
   |some (.row gr m rs xs)=>if s=1/\rs=1/\z.eD=true/\m≠ .aF/\fQ xs=true/\lo+len<=xs.length then
    some (.bk [],[(n,some (.row gr m 1 (bV xs lo (List.replicate len [z]))))],[]) else none
   |_=>none
  |_=>none
 |op=>(rd T d op ev h).map fun x=>(x.1,[],x.2)
def vp (d:Option Nat) (σ:St) (p:Kl):Option St:=((σ.c6 p.2.1).cF p.2.2).map (·.put d p.1)
theorem GS {T:bh} {d:Option Nat} {op:aD} {σ:St} {ws:List Nat} (hw:op.kg σ.ev σ.h=some ws) (hd:∀sz x v,op=.store sz x v->d=none):
  aJ T d op σ=(eK T d op σ.ev σ.h).bind (vp d σ):=by
 by_cases hc:op.dJ<=1
 ·rw[pQ T d op σ hc]
  have:eK T d op σ.ev σ.h=(rd T d op σ.ev σ.h).map fun x=>(x.1,[],x.2):=by
   cases op<;>first|rfl|(simp[aD.dJ] at hc)
  rw[this]
  cases rd T d op σ.ev σ.h with
  |none=>rfl
  |some x=>rfl
 ·cases op<;>simp[aD.dJ] at hc<;>simp only[aD.kg] at hw
  case e9=>cases hw
  case copy sz x y=>
   simp only[aJ,eK]
   cases σ.ev x with
   |one p=>cases p with
    |sl n s lo len=>
     cases σ.ev y with
     |one c=>
      simp only
      cases σ.h n with
      |none=>rfl
      |some b=>cases b with
       |box cs=>rfl
       |row gr m rs xs=>
        cases bU σ.h c with
        |none=>rfl
        |some q=>cases q with
         |list s' ys=>
          simp only
          split<;>rfl
         |_=>rfl
     |_=>rfl
    |_=>rfl
   |_=>rfl
  case kN z x=>
   simp only[aJ,eK]
   cases σ.ev x with
   |one p=>cases p with
    |sl n s lo len=>
     simp only
     cases σ.h n with
     |none=>rfl
     |some b=>cases b with
      |box cs=>rfl
      |row gr m rs xs=>
       simp only
       split<;>rfl
    |_=>rfl
   |_=>rfl
  case tail=>cases hw
  case jv f xs=>
   simp only[aJ,eK,r9,Kw]
   cases lC σ.h (xs.map σ.ev) with
   |none=>rfl
   |some x=>
    obtain⟨ds,ns,u⟩:=x
    simp only[Option.map_some]
    cases bh.nW T.vs f with
    |none=>rfl
    |some M=>
     simp only
     cases M ds with
     |none=>rfl
     |some z=>
      obtain⟨rs,out⟩:=z
      simp only[ajz,Ev]
      cases uB (dn σ.h u) ns out with
      |none=>rfl
      |some u'=>
       simp only[Option.map_some,aaL]
       cases zi d rs with
       |none=>rfl
       |some z=>
        obtain⟨v,is⟩:=z
        simp only[Option.bind_some,vp,BF]
  case d8 sz ps=>
   simp only[aJ,eK]
   rw[Z3]
   cases d with
   |none=>rfl
   |some n=>
    cases oF sz σ.h (ps.map σ.ev) with
    |none=>rfl
    |some x=>
     obtain⟨es,o,u⟩:=x
     simp only[Option.map_some,Option.bind_some,vp,St.cF]
     cases (σ.c6 u).ins n (.row true (if o=true then .aa else .aF) sz es)<;>rfl
  case append fl sz by_ x y=>
   simp only[aJ,eK,aay]
   cases d with
   |none=>rfl
   |some n=>
    simp only
    cases vd σ.h sz (σ.ev x) with
    |none=>rfl
    |some z=>
     obtain⟨xs,m,u1⟩:=z
     simp only[Option.map_some,aaA]
     have hh:(σ.c6 u1).h=dn σ.h u1:=by rw[lr]
     rw[hh]
     cases tr fl (dn σ.h u1) sz m (σ.ev y) with
     |none=>rfl
     |some z=>
      obtain⟨ys,m2,u2⟩:=z
      simp only[Option.map_some]
      split
      ·simp only[Option.bind_some,vp,BF,St.cF]
       cases ((σ.c6 u1).c6 u2).ins n (.row true m2 sz (xs++ys))<;>rfl
      ·rfl
  case store sz x v=>
   have hd:=hd sz x v rfl
   subst hd
   simp only[aJ,eK]
   split at hw
   ·rename_i n k ax off hx
    simp only[hx]
    cases hv:(σ.ev v).cells? with
    |none=>rfl
    |some y=>
     obtain⟨ag,vs⟩:=y
     simp only
     split
     ·split at hw
      ·rename_i cs hn
       simp only[hn]
       split
       ·rfl
       ·rfl
      ·rename_i gr m rs xs hn
       simp only[hn]
       split
       ·cases xs[k]? with
        |none=>rfl
        |some e=>
         simp only
         rw[akM]
         cases wH σ.h n gr m rs xs k off e vs with
         |none=>rfl
         |some b=>rfl
       ·rfl
      ·cases hw
     ·rfl
   ·rename_i n k ax off s i hx
    simp only[hx]
    cases hv:(σ.ev v).cells? with
    |none=>rfl
    |some y=>
     obtain⟨ag,vs⟩:=y
     simp only
     split
     ·cases σ.h n with
      |none=>rfl
      |some b=>cases b with
       |box cs=>rfl
       |row gr m rs xs=>cases m with
        |live=>
         simp only
         split
         ·cases uK xs k off s i vs<;>rfl
         ·rfl
        |_=>rfl
     ·rfl
   ·cases hw
theorem TQ {T:bh} {d:Option Nat} {op:aD} {ev:MO->aj} {h:Nat->Option aq} {ws:List Nat} {p:Kl} (hw:op.kg ev h=some ws) (ha:eK T d op ev h=some p):∀q∈p.2.1,q.1∈ws:=by
 by_cases hc:op.dJ<=1
 ·have:eK T d op ev h=(rd T d op ev h).map fun x=>(x.1,[],x.2):=by
   cases op<;>first|rfl|(simp[aD.dJ] at hc)
  rw[this,Option.map_eq_some_iff] at ha
  obtain⟨x,_,rfl⟩:=ha
  intro q hq
  cases hq
 ·cases op<;>simp[aD.dJ] at hc<;>simp only[aD.kg] at hw
  case e9=>cases hw
  case copy sz x y=>
   simp only[eK] at ha
   split at ha
   ·rename_i n s lo len c hx hy
    simp only[hx] at hw
    injection hw with hw
    subst hw
    repeat' split at ha
    all_goals first|cases ha|skip
    intro q hq
    simp at hq
    subst hq
    simp
   ·cases ha
  case kN z x=>
   simp only[eK] at ha
   split at ha
   ·rename_i n s lo len hx
    simp only[hx] at hw
    injection hw with hw
    subst hw
    repeat' split at ha
    all_goals first|cases ha|skip
    intro q hq
    simp at hq
    subst hq
    simp
   ·cases ha
  case tail=>cases hw
  case jv f xs=>
   injection hw with hw
   subst hw
   simp only[eK] at ha
   split at ha
   ·rename_i ds ns u M e1 e2
    split at ha
    ·rename_i rs out e3
     split at ha
     ·rename_i u' v is e4 e5
      injection ha with ha;subst ha
      obtain⟨i1,i2⟩:=Ge e1
      intro q hq
      rw[List.flatMap_map] at i1 i2
      rcases List.mem_append.1 hq with hq|hq
      ·exact i1 q hq
      ·exact i2 _ (ajy e4 q hq)
     ·cases ha
    ·cases ha
   ·cases ha
  case d8 sz ps=>
   injection hw with hw
   subst hw
   simp only[eK] at ha
   split at ha
   ·rename_i n es o u e
    injection ha with ha;subst ha
    intro q hq
    have:=Z2 e q hq
    rw[List.flatMap_map] at this
    exact this
   ·cases ha
  case append fl sz by_ x y=>
   injection hw with hw
   subst hw
   simp only[eK] at ha
   split at ha
   ·cases ha
   ·split at ha
    ·cases ha
    ·rename_i xs m u1 e1
     split at ha
     ·cases ha
     ·rename_i ys m2 u2 e2
      split at ha
      ·injection ha with ha
       subst ha
       intro q hq
       rcases List.mem_append.1 hq with sv|sv
       ·clear hq
        refine List.mem_append.2 (.inl ?_)
        unfold vd at e1
        split at e1
        ·injection e1 with e1;injection e1 with _ e1;injection e1 with _ e1;subst e1;cases sv
        ·rename_i a s len hv
         split at e1
         ·split at e1
          ·injection e1 with e1;injection e1 with _ e1;injection e1 with _ e1;subst e1
           simp at sv;subst sv;simp[aj.gn,ah.nm,ah.ru,hv]
          ·cases e1
         ·cases e1
        ·cases e1
       ·clear hq
        refine List.mem_append.2 (.inr ?_)
        have zN:∀(b:Nat),u2=[]\/u2=[(b,none)]->b∈(ev y).gn->q.1∈(ev y).gn:=by
         intro b hb hm
         rcases hb with hb|hb
         ·subst hb;cases sv
         ·subst hb;simp at sv;subst sv;exact hm
        unfold tr at e2
        split at e2
        ·injection e2 with e2;injection e2 with _ e2;injection e2 with _ e2;subst e2;cases sv
        ·repeat' split at e2
         all_goals first|cases e2|skip
         all_goals (cases sv)
        ·rename_i b s lo len hv
         have hm:b∈(ev y).gn:=by simp[hv,aj.gn,ah.nm,ah.ru]
         refine zN b ?_ hm
         repeat' split at e2
         all_goals first|cases e2|skip
         all_goals first|exact .inl rfl|exact .inr rfl
        ·cases e2
      ·cases ha
  case store sz x v=>
   simp only[eK] at ha
   split at ha
   ·rename_i n k ax off b vs hx hv
    simp only[hx] at hw
    split at ha
    ·split at ha
     ·rename_i cs hn
      simp only[hn] at hw
      split at ha
      ·injection ha with ha;subst ha;injection hw with hw;subst hw
       intro q hq;simp at hq;subst hq;simp
      ·cases ha
     ·rename_i gr m rs xs hn
      simp only[hn] at hw
      injection hw with hw
      subst hw
      split at ha
      ·split at ha
       ·split at ha
        ·rename_i u e0
         injection ha with ha;subst ha
         intro q hq
         have hq:q∈u:=hq
         have two:∀(u1:Us) (bb:Option aq),u=u1++[(n,bb)]->(∀q∈u1,q.1∈vs.flatMap ah.nm)->q.1∈n::(ev v).gn:=by
          intro u1 bb he z8
          rw[he] at hq
          rcases List.mem_append.1 hq with hq|hq
          ·exact List.mem_cons_of_mem _ (zp hv▸z8 q hq)
          ·simp at hq;subst hq;simp
         unfold wH at e0
         split at e0
         ·cases e0
         ·split at e0
          ·cases e0
          ·rename_i cs o u1 e1
           have z8:=Jn e1
           repeat' split at e0
           all_goals first|(injection e0 with e0;exact two _ _ e0.symm z8)|cases e0
        ·cases ha
       ·cases ha
      ·cases ha
     ·cases ha
    ·cases ha
   ·rename_i n k ax off s i b vs hx hv
    simp only[hx] at hw
    injection hw with hw
    subst hw
    repeat' split at ha
    all_goals first|cases ha|skip
    intro q hq
    simp at hq
    subst hq
    simp
   ·cases ha
section
variable {T:bh} {d:Option Nat} {op:aD} {ev ev':MO->aj} {h h':Nat->Option aq}
theorem DB (br:∀x∈op.args,ev' x=ev x):op.iS ev'=op.iS ev:=by
 unfold aD.iS
 generalize op.args=l at br
 induction l with
 |nil=>rfl
 |cons x l ih=>simp only[List.flatMap_cons];rw[br x (by simp),ih fun y hy=>br y (List.mem_cons_of_mem _ hy)]
theorem T8:∀{l:List Nat} (_:∀n∈l,h' n=h n),zn h' l=zn h l
 |[],_=>rfl
 |n::l,hh=>by
  have:=T8 (l:=l) fun m hm=>hh m (List.mem_cons_of_mem _ hm)
  simp only[zn,List.flatMap_cons] at this⊢
  rw[hh n (by simp),this]
theorem PQ (br:∀x∈op.args,ev' x=ev x) (hh:∀n∈op.iS ev,h' n=h n):op.mb ev' h'=op.mb ev h:=by
 unfold aD.mb
 rw[DB br,T8 hh]
theorem JC (br:∀x∈op.args,ev' x=ev x) (hh:∀n∈op.iS ev,h' n=h n):op.kg ev' h'=op.kg ev h:=by
 cases op<;>first|rfl|skip
 case store sz x v=>
  have h1:=br x (by simp[aD.args])
  have h2:=br v (by simp[aD.args])
  simp only[aD.kg,h1,h2]
  cases hv:ev x with
  |one p=>cases p with
   |ptr n k ax off=>simp only;rw[hh n (pq.2 ⟨x,by simp[aD.args],by rw[hv];exact rfl⟩)]
   |_=>rfl
  |_=>rfl
 case copy sz x y=>
  simp only[aD.kg,br x (by simp[aD.args])]
 case kN z x=>
  simp only[aD.kg,br x (by simp[aD.args])]
 case jv f xs=>
  have:=DB (op:=.jv f xs) br
  simp only[aD.iS,aD.args] at this
  simp only[aD.kg,this]
 case d8 sz ps=>
  have:=DB (op:=.d8 sz ps) br
  simp only[aD.iS,aD.args] at this
  simp only[aD.kg,this]
 case append fl sz by_ x y=>
  simp only[aD.kg,br x (by simp[aD.args]),br y (by simp[aD.args])]
theorem TP (br:∀x∈op.args,ev' x=ev x) (hh:∀n∈op.mb ev h,h' n=h n):eK T d op ev' h'=eK T d op ev h:=by
 have Hq:∀n∈op.iS ev,h' n=h n:=fun n hn=>hh n (Ip hn)
 have hn:∀a∈op.args,∀n,(ev a).ref n->h' n=h n:=fun a ha n hr=>Hq n (pq.2 ⟨a,ha,hr⟩)
 have gen:rd T d op ev' h'=rd T d op ev h:=by
  rw[A6 T d op _ br]
  refine YB (u:=fun n=>h' n=h n) (vv:=fun n=>n∈op.iS ev) T d op ev (fun n hn=>hn) (fun hc m cs c n hm hb ez hr=>?_) (fun x hx m hm=>hn x hx m hm) (fun x hx m hm=>pq.2 ⟨x,hx,hm⟩)
  refine hh n ?_
  unfold aD.mb
  rw[hc]
  refine List.mem_append.2 (.inr ?_)
  unfold zn
  rw[List.mem_flatMap]
  exact⟨m,hm,by rw[hb];exact List.mem_flatMap.2 ⟨c,ez,ah.DC.2 hr⟩⟩
 cases op<;>first|(simp only[eK];rw[gen];done)|skip
 case store sz x v=>
  have h1:=br x (by simp[aD.args])
  have h2:=br v (by simp[aD.args])
  simp only[eK,h1,h2]
  have h3:=hn x (by simp[aD.args])
  cases hv:ev x with
  |one p=>cases p with
   |ptr n k ax off=>
    rw[hv] at h3
    have h3:=h3 n rfl
    have h5:=hn v (by simp[aD.args])
    cases hc:(ev v).cells? with
    |none=>rfl
    |some y=>
     obtain⟨b,vs⟩:=y
     have h6:∀gr m rs xs e,wH h' n gr m rs xs k off e vs=wH h n gr m rs xs k off e vs:=by
      intro gr m rs xs e
      have h7:jN h' vs=jN h vs:=Jm fun q hq=>h5 q (aj.yt.1 (zp hc▸hq))
      unfold wH
      rw[h7]
      cases jN h vs with
      |none=>rfl
      |some y=>
       obtain⟨cs,o,u⟩:=y
       simp only[Et h3 u]
     simp only[h3,h6]
   |cB n k ax off s i=>
    rw[hv] at h3
    have h3:=h3 n rfl
    cases hc:(ev v).cells? with
    |none=>rfl
    |some y=>
     simp only[h3]
   |_=>cases (ev v).cells?<;>rfl
  |_=>cases (ev v).cells?<;>rfl
 case copy sz x y=>
  have h1:=br x (by simp[aD.args])
  have h2:=br y (by simp[aD.args])
  have h3:=hn x (by simp[aD.args])
  have h4:=hn y (by simp[aD.args])
  simp only[eK,h1,h2]
  cases hv:ev x with
  |one p=>cases p with
   |sl n s lo len=>
    rw[hv] at h3
    have h3:=h3 n rfl
    cases hc:ev y with
    |one c=>
     rw[hc] at h4
     have h5:bU h' c=bU h c:=BH (u:=fun n=>h' n=h n) (fun n hn=>hn) fun m hm=>h4 m (ah.A8 hm)
     simp only[h3,h5]
    |_=>rfl
   |_=>rfl
  |_=>rfl
 case kN z x=>
  have h1:=br x (by simp[aD.args])
  have h3:=hn x (by simp[aD.args])
  simp only[eK,h1]
  cases hv:ev x with
  |one p=>cases p with
   |sl n s lo len=>
    rw[hv] at h3
    have h3:=h3 n rfl
    simp only[h3]
   |_=>rfl
  |_=>rfl
 case jv f xs=>
  have hl:xs.map ev'=xs.map ev:=List.map_congr_left br
  have h2:lC h' (xs.map ev)=lC h (xs.map ev):=Ku fun n bn=>by
   rw[List.flatMap_map] at bn
   exact Hq n bn
  simp only[eK,hl,h2]
  cases e1:lC h (xs.map ev) with
  |none=>rfl
  |some x=>
   obtain⟨ds,ns,u⟩:=x
   try simp only
   cases bh.nW T.vs f with
   |none=>rfl
   |some M=>
    try simp only
    cases M ds with
    |none=>rfl
    |some z=>
     obtain⟨rs,out⟩:=z
     try simp only
     rw[ajx (h:=dn h u) (h':=dn h' u) fun n bn=>Et (Hq n (by
      have:=(Ge e1).2 n bn
      rw[List.flatMap_map] at this
      exact this)) u]
 case d8 sz ps=>
  have hl:ps.map ev'=ps.map ev:=List.map_congr_left br
  have h2:oF sz h' (ps.map ev)=oF sz h (ps.map ev):=Z1 fun n bn=>by
   rw[List.flatMap_map] at bn
   exact Hq n bn
  simp only[eK,hl,h2]
 case append fl sz by_ x y=>
  have h1:=br x (by simp[aD.args])
  have h2:=br y (by simp[aD.args])
  have h3:=hn x (by simp[aD.args])
  have h4:=hn y (by simp[aD.args])
  have e1:vd h' sz (ev x)=vd h sz (ev x):=by
   cases hv:ev x with
   |one p=>cases p with
    |sl a s lo len=>
     rw[hv] at h3
     cases lo with
     |zero=>simp only[vd,h3 a rfl]
     |succ lo=>rfl
    |_=>rfl
   |_=>rfl
  have e2:∀(us:List (Nat×Option aq)) (m:Mode),tr fl (dn h' us) sz m (ev y)=tr fl (dn h us) sz m (ev y):=by
   intro us m
   cases hv:ev y with
   |one p=>cases p with
    |sl b s lo len=>
     rw[hv] at h4
     have hb:dn h' us b=dn h us b:=by
      by_cases hu:∃p∈us,p.1=b
      ·exact Eu hu
      ·rw[nJ fun p hp e=>hu ⟨p,hp,e⟩,nJ fun p hp e=>hu ⟨p,hp,e⟩]
       exact h4 b rfl
     simp only[tr,hb]
    |c x=>cases x<;>rfl
    |_=>rfl
   |_=>rfl
  simp only[eK,h1,h2,e1,e2]
end
theorem K7 {f g:List Nat×List Nat} (h:B7 f g=true) {n:Nat} (h1:n∈f.2) (h2:n∈g.1):False:=by
 simp only[B7,Bool.and_eq_true,List.all_eq_true] at h
 have:=h.1 n h1
 simp[h2] at this
theorem abr {f g:List Nat×List Nat} (h:B7 f g=true) {n:Nat} (h1:n∈g.2) (h2:n∈f.1):False:=by
 simp only[B7,Bool.and_eq_true,List.all_eq_true] at h
 have:=h.2 n h1
 simp[h2] at this
theorem AR {σ:St} (W:Wf σ) {op:aD} (hf:∀a∈op.args,a.flat=true) {n:Nat} (hn:n∈op.iS σ.ev):σ.used n=true:=by
 obtain⟨a,ha,hr⟩:=pq.1 hn
 exact W.arg (hf a ha) n hr
theorem Yz {σ:St} (W:Wf σ) {op:aD} (hf:∀a∈op.args,a.flat=true) {n:Nat} (hn:n∈op.mb σ.ev σ.h):σ.used n=true:=by
 unfold aD.mb at hn
 cases hc:op.Dg with
 |true=>
  rw[hc] at hn
  rcases List.mem_append.1 hn with hn|hn
  ·exact AR W hf hn
  ·unfold zn at hn
   rw[List.mem_flatMap] at hn
   obtain⟨m,hm,hn⟩:=hn
   split at hn
   ·rename_i cs hb
    obtain⟨c,hc,hr⟩:=List.mem_flatMap.1 hn
    exact W.box m cs c n hb hc (ah.DC.1 hr)
   ·cases hn
 |false=>rw[hc] at hn;exact AR W hf hn
section
variable {T:bh} {dx dy:Option Nat} {x y:aD} {σ σ1 σ2:St}
theorem VC (W:Wf σ) (ku:∀n,dx=some n->MO.t n∉y.args) (xM:∀a∈y.args,a.flat=true) (tN:∀sz p v,x=.store sz p v->dx=none)
  (hc:x.dJ<=1\/y.dJ=0) (h1:aJ T dx x σ=some σ1):y.fp σ1=y.fp σ:=by
 have re:=vo tN h1
 have br:∀a∈y.args,σ1.ev a=σ.ev a:=fun a ha=>by
  cases a with
  |t n=>show σ1.env n=σ.env n;rw[re];exact qv fun oW=>ku n oW ha
  |k v=>rfl
 rcases hc with hc|hc
 ·rw[pQ T dx x σ hc] at h1
  have hh:∀n∈y.iS σ.ev,σ1.h n=σ.h n:=by
   intro n hn
   cases hr:rd T dx x σ.ev σ.h with
   |none=>rw[hr] at h1;cases h1
   |some p=>
    rw[hr] at h1
    simp only[Option.bind_some,gI,Option.map_eq_some_iff] at h1
    obtain⟨A,hA,rfl⟩:=h1
    have:(A.put dx p.1).h=A.h:=by cases dx<;>rfl
    rw[this]
    exact((x7 hA).1 n (AR W xM hn)).2
  unfold aD.fp
  rw[JC br hh,PQ br hh]
 ·unfold aD.fp
  have c1:y.Dg=false:=by cases y<;>first|rfl|(simp[aD.dJ] at hc)
  have w:∀ev h,y.kg ev h=some []:=by intro ev h;cases y<;>first|rfl|(simp[aD.dJ] at hc)
  simp only[w,aD.mb,c1,cond_false,DB br]
theorem abh (W:Wf σ) (hd:∀n,dx=some n->dy≠some n) (ku:∀n,dx=some n->MO.t n∉y.args) (sA:∀n,dy=some n->MO.t n∉x.args)
  (vz:∀a∈x.args,a.flat=true) (xM:∀a∈y.args,a.flat=true)
  (tN:∀sz p v,x=.store sz p v->dx=none) (CK:∀sz p v,y=.store sz p v->dy=none) (hk:B8 (x.fp σ) (y.fp σ1)=true)
  (h1:aJ T dx x σ=some σ1) (h2:aJ T dy y σ1=some σ2):∃τ,aJ T dy y σ=some τ/\aJ T dx x τ=some σ2/\y.fp σ1=y.fp σ/\x.fp τ=x.fp σ:=by
 unfold aD.fp at hk
 cases xt:x.kg σ.ev σ.h with
 |none=>rw[xt] at hk;cases hk
 |some wx=>
 cases xu:y.kg σ1.ev σ1.h with
 |none=>rw[xt,xu] at hk;cases hk
 |some wy=>
 rw[xt,xu] at hk
 simp only[Option.map_some,B8] at hk
 rw[GS xt tN] at h1
 rw[GS xu CK] at h2
 cases GH:eK T dx x σ.ev σ.h with
 |none=>rw[GH] at h1;cases h1
 |some px=>
 obtain⟨vx,ux,nx⟩:=px
 rw[GH] at h1
 simp only[Option.bind_some,vp,Option.map_eq_some_iff] at h1
 obtain⟨A,hA,rfl⟩:=h1
 have Ju:∀q∈ux,q.1∈wx:=TQ xt GH
 have Tl:∀q∈ux,σ.used q.1=true:=fun q hq=>AR W vz (aao xt (Ju q hq))
 obtain⟨A',VL,rfl⟩:=NE Tl hA
 obtain⟨oa,ea⟩:=x7 VL
 have qa:∀(s:St) (d:Option Nat) (v:aj),(s.put d v).h=s.h:=fun s d v=>by cases d<;>rfl
 have br:∀a∈y.args,((A'.c6 ux).put dx vx).ev a=σ.ev a:=fun a ha=>by
  rw[oA,GP fun n hn=>qv fun oW=>ku n oW (hn▸ha)]
  cases a with
  |t n=>show(A'.c6 ux).env n=σ.env n;rw[lr];show A'.env n=_;rw[ea]
  |k v=>rfl
 have aej:y.mb ((A'.c6 ux).put dx vx).ev ((A'.c6 ux).put dx vx).h=y.mb σ.ev σ.h/\y.kg ((A'.c6 ux).put dx vx).ev ((A'.c6 ux).put dx vx).h=y.kg σ.ev σ.h:=by
  have hh:∀n∈y.iS σ.ev,((A'.c6 ux).put dx vx).h n=σ.h n:=fun n hn=>by
   rw[qa,lr]
   show dn A'.h ux n=_
   rw[nJ fun p hp e=>K7 hk (Ju p hp) (by rw[e];exact Ip (by rw[DB br];exact hn))]
   exact(oa n (AR W xM hn)).2
  exact⟨PQ br hh,JC br hh⟩
 obtain⟨r1,r2⟩:=aej
 have hh:∀n∈y.mb σ.ev σ.h,((A'.c6 ux).put dx vx).h n=σ.h n:=fun n hn=>by
  rw[qa,lr]
  show dn A'.h ux n=_
  rw[nJ fun p hp e=>K7 hk (Ju p hp) (by rw[e];show n∈y.mb _ _;rw[r1];exact hn)]
  exact(oa n (Yz W xM hn)).2
 have eay:eK T dy y ((A'.c6 ux).put dx vx).ev ((A'.c6 ux).put dx vx).h=eK T dy y σ.ev σ.h:=TP br hh
 rw[eay] at h2
 rw[r2] at xu
 cases GI:eK T dy y σ.ev σ.h with
 |none=>rw[GI] at h2;cases h2
 |some py=>
 obtain⟨vy,uy,ny⟩:=py
 rw[GI] at h2
 simp only[Option.bind_some,vp,Option.map_eq_some_iff] at h2
 obtain⟨D,hD,rfl⟩:=h2
 have uyw:∀q∈uy,q.1∈wy:=TQ xu GI
 have uyn:∀q∈uy,q.1∈y.iS σ.ev:=fun q hq=>aao xu (uyw q hq)
 have Tm:∀q∈uy,σ.used q.1=true:=fun q hq=>AR W xM (uyn q hq)
 have uyA:∀q∈uy,A'.used q.1=true:=fun q hq=>(oa _ (Tm q hq)).1
 have uxA:∀q∈ux,A'.used q.1=true:=fun q hq=>(oa _ (Tl q hq)).1
 have zP:∀p∈ux,∀q∈uy,p.1≠q.1:=fun p hp q hq e=>K7 hk (Ju p hp) (by rw[e];show q.1∈y.mb _ _;rw[r1];exact Ip (uyn q hq))
 rw[oA,aaf,x8,Option.map_eq_some_iff] at hD
 obtain⟨D0,hD0,rfl⟩:=hD
 obtain⟨D1,hD1,rfl⟩:=NE (σ:=A'.c6 ux) (fun q hq=>by rw[lr];exact uyA q hq) hD0
 obtain⟨F,hF,rfl⟩:=NE uxA hD1
 obtain⟨C',hC,hCF⟩:=ND VL hF
 obtain⟨oc,ec⟩:=x7 hC
 have uyC:∀q∈uy,C'.used q.1=true:=fun q hq=>(oc _ (Tm q hq)).1
 have uxC:∀q∈ux,C'.used q.1=true:=fun q hq=>(oc _ (Tl q hq)).1
 have Hh:∀a∈x.args,((C'.c6 uy).put dy vy).ev a=σ.ev a:=fun a ha=>by
  rw[oA,GP fun n hn=>qv fun oW=>sA n oW (hn▸ha)]
  cases a with
  |t n=>show(C'.c6 uy).env n=σ.env n;rw[lr];show C'.env n=_;rw[ec]
  |k v=>rfl
 have V4:∀n∈x.mb σ.ev σ.h,((C'.c6 uy).put dy vy).h n=σ.h n:=fun n hn=>by
  rw[qa,lr]
  show dn C'.h uy n=_
  rw[nJ fun p hp e=>abr hk (uyw p hp) (by rw[e];exact hn)]
  exact(oc n (Yz W vz hn)).2
 have MF:∀n∈x.iS σ.ev,((C'.c6 uy).put dy vy).h n=σ.h n:=fun n hn=>V4 n (Ip hn)
 refine⟨(C'.c6 uy).put dy vy,?_,?_,?_,?_⟩
 ·rw[GS xu CK,GI]
  simp only[Option.bind_some,vp,De Tm hC,Option.map_some]
 ·rw[GS (ws:=wx) (by rw[JC Hh MF];exact xt) tN,TP Hh V4,GH]
  simp only[Option.bind_some,vp]
  rw[oA,aaf,x8,De (σ:=C'.c6 uy) (fun q hq=>by rw[lr];exact uxC q hq) (De uyC hCF)]
  simp only[Option.map_some]
  rw[oA,oA,ak8 zP]
  congr 1
  have e1:(C'.c6 uy).env=σ.env:=by rw[lr];exact ec
  have e2:(A'.c6 ux).env=σ.env:=by rw[lr];exact ea
  show St.we _ (ie (ie (C'.c6 uy).env dy vy) dx vx)=St.we _ (ie (ie (A'.c6 ux).env dx vx) dy vy)
  rw[e1,e2,Iz σ.env _ _ hd]
  rfl
 ·unfold aD.fp
  rw[r1,r2]
 ·unfold aD.fp
  rw[JC Hh MF,PQ Hh MF]
end
end Go.Am
end
section
namespace Go.Am
def B4 (x y:bO):Bool:=x.op.dJ==0||y.op.dJ==0||(decide (x.op.dJ<=1)&&decide (y.op.dJ<=1))
def B5 (x y:bO):Bool:=
 (match x.dst with|some d=>y.sR d&&(match y.dst with|some e=>e !=d|none=>true)|none=>true)&&
 (match y.dst with|some d=>x.sR d|none=>true)&&x.pR&&y.pR
theorem abi {T:bh} {x y:bO} {σ σ1 σ2:St} (W:Wf σ) (hc:B5 x y=true) (hk:B4 x y=true\/B8 (x.fp σ) (y.fp σ1)=true) (h1:eN T x σ=some σ1) (h2:eN T y σ1=some σ2):
  ∃τ,eN T y σ=some τ/\eN T x τ=some σ2/\y.fp σ1=y.fp σ/\x.fp τ=x.fp σ:=by
 simp only[B5,Bool.and_eq_true] at hc
 obtain⟨⟨⟨c1,c2⟩,c3⟩,c4⟩:=hc
 rw[zF] at h1 h2
 cases ex:mA x σ.env with
 |none=>rw[ex] at h1;cases h1
 |some jo=>
  rw[ex] at h1
  have h1:aJ T x.dst jo σ=some σ1:=h1
  have jx:jo=x.op\/jo=.mv (.k (.bk [])):=GJ ex
  have yI:∀sz p v,jo=.store sz p v->x.dst=none:=by
   intro sz p v he
   rcases jx with rfl|rfl
   ·simp only[bO.pR,Bool.and_eq_true,he] at c3;simpa using c3.2
   ·cases he
  have re:=vo yI h1
  have Nj:∀s w,y.guard=some (s,w)->x.dst≠some s:=by
   intro s w hg hd
   rw[hd] at c1
   simp[bO.sR,hg] at c1
  have HD:∀s w,x.guard=some (s,w)->y.dst≠some s:=by
   intro s w hg hd
   rw[hd] at c2
   simp[bO.sR,hg] at c2
  have GU:mA y σ1.env=mA y σ.env:=B9 fun s w hg=>by rw[re];exact qv (Nj s w hg)
  rw[GU] at h2
  cases ey:mA y σ.env with
  |none=>rw[ey] at h2;cases h2
  |some iU=>
   rw[ey] at h2
   have h2:aJ T y.dst iU σ1=some σ2:=h2
   have jy:iU=y.op\/iU=.mv (.k (.bk [])):=GJ ey
   have wI:∀sz p v,iU=.store sz p v->y.dst=none:=by
    intro sz p v he
    rcases jy with rfl|rfl
    ·simp only[bO.pR,Bool.and_eq_true,he] at c4;simpa using c4.2
    ·cases he
   have Ch:∀a∈jo.args,a.flat=true:=by
    rcases jx with rfl|rfl
    ·simp only[bO.pR,Bool.and_eq_true,List.all_eq_true] at c3;exact c3.1
    ·intro a ha;simp[aD.args] at ha;subst ha;rfl
   have Ci:∀a∈iU.args,a.flat=true:=by
    rcases jy with rfl|rfl
    ·simp only[bO.pR,Bool.and_eq_true,List.all_eq_true] at c4;exact c4.1
    ·intro a ha;simp[aD.args] at ha;subst ha;rfl
   have ku:∀n,x.dst=some n->MO.t n∉iU.args:=by
    intro n hd
    rcases jy with rfl|rfl
    ·rw[hd] at c1
     simp only[Bool.and_eq_true] at c1
     exact bO.Iq c1.1
    ·simp[aD.args]
   have sA:∀n,y.dst=some n->MO.t n∉jo.args:=by
    intro n hd
    rcases jx with rfl|rfl
    ·rw[hd] at c2
     exact bO.Iq c2
    ·simp[aD.args]
   have zP:∀n,x.dst=some n->y.dst≠some n:=by
    intro n hd he
    rw[hd,he] at c1
    simp at c1
   have yfp:y.fp σ1=iU.fp σ1:=by unfold bO.fp;rw[GU,ey]
   have als:y.fp σ=iU.fp σ:=by unfold bO.fp;rw[ey]
   have aap:x.fp σ=jo.fp σ:=by unfold bO.fp;rw[ex]
   have xfp:∀τ,aJ T y.dst iU σ=some τ->x.fp τ=jo.fp τ:=by
    intro τ t1
    unfold bO.fp
    rw[B9 (e:=σ.env) (fun s w hg=>by rw[vo wI t1];exact qv (HD s w hg)),ex]
   have gI:(∃τ,aJ T y.dst iU σ=some τ/\aJ T x.dst jo τ=some σ2/\iU.fp σ1=iU.fp σ/\jo.fp τ=jo.fp σ)->∃τ,eN T y σ=some τ/\eN T x τ=some σ2/\y.fp σ1=y.fp σ/\x.fp τ=x.fp σ:=by
    rintro⟨τ,t1,t2,t3,t4⟩
    refine⟨τ,?_,?_,?_,?_⟩
    ·rw[zF,ey];exact t1
    ·rw[zF,B9 (e:=σ.env) (fun s w hg=>by rw[vo wI t1];exact qv (HD s w hg)),ex];exact t2
    ·rw[yfp,als,t3]
    ·rw[xfp τ t1,aap,t4]
   apply gI
   rcases hk with c5|hk
   ·have bQ:jo.dJ=0\/iU.dJ=0\/(jo.dJ<=1/\iU.dJ<=1):=by
     rcases jx with rfl|rfl
     ·rcases jy with rfl|rfl
      ·simp only[B4,Bool.or_eq_true,beq_iff_eq,Bool.and_eq_true,decide_eq_true_eq,or_assoc] at c5
       exact c5
      ·exact .inr (.inl rfl)
     ·exact .inl rfl
    obtain⟨τ,t1,t2⟩:=Ut W zP ku sA Ch Ci yI wI bQ h1 h2
    refine⟨τ,t1,t2,VC W ku Ci yI (by omega) h1,VC W sA Ch wI (by omega) t1⟩
   ·rw[yfp,aap] at hk
    exact abh W zP ku sA Ch Ci yI wI hk h1 h2
def BV (T:bh) (ms:List bO) (F:Nat->Option FP):List Nat->St->St->Prop
 |[],σ,iY=>σ=iY
 |i::L,σ,iY=>∃m σ1,ms[i]? =some m/\F i=m.fp σ/\eN T m σ=some σ1/\BV T ms F L σ1 iY
def TN (F:Nat->Option FP) (ms:List bO) (i j:Nat) (m:bO):Prop:=∃mj,ms[j]? =some mj/\B5 mj m=true/\(B4 mj m=true\/B8 (F j) (F i)=true)
structure TF (F:Nat->Option FP) (ops:Array Oper) (ms:List bO):Prop where
 back:∀(i:Nat) (o:Oper),ops[i]? =some o->∀e∈o.after,Region.binds .any e=true->e.on<i
 pair:∀(i j:Nat) (o:Oper) (m:bO),ops[i]? =some o->ms[i]? =some m->j<i->uU ops i j\/TN F ms i j m
section
variable {B:Nat} {E:Ex} {w0 w w':World} {G G':Gh} {N:Nat}
variable {P:Program} {T:bh} {o:Oper} {mo:bO} {a:Act} {σ σ':St} {Q:Exit->Act->World->Prop} {ops:Array Oper}
theorem YQ (hT:nN P T) {ms:List bO} {F:Nat->Option FP} (qW:∀(i:Nat) (m:bO),ms[i]? =some m->∃o,ops[i]? =some o/\tw P N ops o m=true) {i:Nat} {mi:bO} (hi:ms[i]? =some mi) {post:List Nat} {iY:St}:
  ∀{pre:List Nat} {σ:St},EW B E w0 N σ->BV T ms F (pre++i::post) σ iY->(∀j∈pre,TN F ms i j mi)->
  ∃τ,F i=mi.fp σ/\eN T mi σ=some τ/\BV T ms F (pre++post) τ iY
 |[],σ,hr,hx,hc=>by
  obtain⟨m,σ1,h1,h2,h3,h4⟩:=hx
  rw[hi] at h1
  injection h1 with h1
  subst h1
  exact⟨σ1,h2,h3,h4⟩
 |j::pre,σ,hr,hx,hc=>by
  obtain⟨mj,σ1,k1,k2,k3,k4⟩:=hx
  obtain⟨mj',hj,nh,bQ⟩:=hc j (by simp)
  rw[k1] at hj
  injection hj with hj
  subst hj
  obtain⟨oj,_,gh⟩:=qW j mj k1
  obtain⟨oH,t0,t1,t2⟩:=YQ hT qW hi (YF hr hT gh k3) k4 (fun k hk=>hc k (by simp[hk]))
  obtain⟨a,w,G,r⟩:=hr
  rw[k2,t0] at bQ
  obtain⟨τ,s1,s2,s3,s4⟩:=abi r.wf nh bQ k3 t1
  exact⟨τ,by rw[t0,s3],s1,mj,oH,k1,by rw[s4];exact k2,s2,t2⟩
theorem alo (hT:nN P T) {ms:List bO} {F:Nat->Option FP} (qW:∀(i:Nat) (m:bO),ms[i]? =some m->∃o,ops[i]? =some o/\tw P N ops o m=true) (hlen:ms.length=ops.size) (hd:TF F ops ms) {iY:St}
  (hQ:∀a w G,R B E w0 N iY a w G->Q .normal a w):
  ∀(ix:Nat) (L:List Nat) (cM:Array Bool) (σ:St) (a:Act) (w:World) (G:Gh),R B E w0 N σ a w G->BV T ms F L σ iY->L.Pairwise (·<·)->L.length<=ix->cM.size=ops.size->
   (∀j,j∈L↔cM.getD j true=false)->JF ops cM->wpAny P .any ops Q ix cM a w:=by
 have first:∀(L:List Nat) (cM:Array Bool),L.Pairwise (·<·)->cM.size=ops.size->(∀j,j∈L↔cM.getD j true=false)->Region.ready .any ops cM=[]->L=[]:=by
  intro L cM hp hs hL hr
  cases L with
  |nil=>rfl
  |cons j L=>
   exfalso
   have hj:=(hL j).1 (by simp)
   have kQ:j<ops.size:=by
    rw[<-hs]
    rcases Nat.lt_or_ge j cM.size with h|h
    ·exact h
    ·simp[Array.getElem?_eq_none h] at hj
   have ho:ops[j]? =some ops[j]:=Array.getElem?_eq_getElem kQ
   have:j∈Region.ready .any ops cM:=by
    rw[mem_ready]
    refine⟨hj,_,ho,fun e he hb=>?_⟩
    have bX:=hd.back j _ ho e he hb
    have n5:e.on∉j::L:=by
     intro hm
     cases hm with
     |head=>omega
     |tail _ hm=>have:=(List.pairwise_cons.1 hp).1 _ hm;omega
    have aC:cM.getD e.on true≠false:=fun h=>n5 ((hL e.on).2 h)
    have oY:e.on<cM.size:=by omega
    simp[oY] at aC⊢
    exact aC
   rw[hr] at this
   cases this
 intro ix
 induction ix with
 |zero=>
  intro L cM σ a w G r hx hp hl hs hL hC
  have qV:L=[]:=List.eq_nil_of_length_eq_zero (by omega)
  subst qV
  have hx:σ=iY:=hx
  subst hx
  refine⟨?_,hQ _ _ _ r⟩
  cases hr:Region.ready .any ops cM with
  |nil=>rfl
  |cons i l=>
   have hm:i∈Region.ready .any ops cM:=by rw[hr];simp
   have:=(hL i).2 (mem_ready.1 hm).1
   cases this
 |succ ix ih=>
  intro L cM σ a w G r hx hp hl hs hL hC
  refine⟨fun hr=>?_,fun i hi=>?_⟩
  ·have qV:=first L cM hp hs hL hr
   subst qV
   have hx:σ=iY:=hx
   subst hx
   exact hQ _ _ _ r
  ·obtain⟨MH,oi,jY,CC⟩:=mem_ready.1 hi
   have pY:i∈L:=(hL i).2 MH
   obtain⟨pre,post,rfl⟩:=List.append_of_mem pY
   have his:i<ops.size:=(Array.getElem?_eq_some_iff.1 jY).1
   have xQ:ms[i]? =some ms[i]:=List.getElem?_eq_getElem (by omega)
   obtain⟨o',gx,Mu⟩:=qW i _ xQ
   rw[jY] at gx
   injection gx with gx
   subst gx
   have fU:=List.pairwise_append.1 hp
   obtain⟨τ,t0,t1,t2⟩:=YQ (ops:=ops) hT qW xQ ⟨a,w,G,r⟩ hx (fun j hj=>by
    have qZ:j<i:=fU.2.2 j hj i (by simp)
    rcases hd.pair i j oi _ jY xQ qZ with Mk|h
    ·have h1:=T5 hC Mk (fun o ho e he hb=>by
      rw[jY] at ho
      injection ho with ho
      subst ho
      have h1:=CC e he hb
      have bX:=hd.back i _ jY e he hb
      have oY:e.on<cM.size:=by omega
      simp[oY] at h1⊢
      exact h1)
     have h2:=(hL j).1 (by simp[hj])
     rw[h1] at h2
     cases h2
    ·exact h)
   have C1:∀a' w',Nx B E w0 N τ a' w'->wpAny P .any ops Q ix (cM.setIfInBounds i true) a' w':=by
    rintro a' w' ⟨G',r'⟩
    refine ih (pre++post) _ τ a' w' G' r' t2 ?_ (by simp at hl⊢;omega) (by simpa using hs) (fun j=>?_) (fun k o ho hk e he hb=>?_)
    ·rw[List.pairwise_append]
     exact⟨fU.1,(List.pairwise_cons.1 fU.2.1).2,fun x hx y hy=>fU.2.2 x hx y (by simp[hy])⟩
    ·by_cases qZ:j=i
     ·subst qZ
      have kQ:j<cM.size:=by omega
      simp only[List.mem_append]
      constructor
      ·rintro(h|h)
       ·have:=fU.2.2 j h j (by simp);omega
       ·have:=(List.pairwise_cons.1 fU.2.1).1 j h;omega
      ·intro h
       simp[kQ] at h
     ·rw[getD_set_ne true (Ne.symm qZ),<-hL j]
      simp[qZ]
    ·have CS:∀q,cM.getD q true=true->(cM.setIfInBounds i true).getD q true=true:=by
      intro q hq
      by_cases o7:q=i
      ·subst o7
       have:q<cM.size:=by omega
       simp[this]
      ·rw[getD_set_ne true (Ne.symm o7)];exact hq
     by_cases CP:k=i
     ·subst CP
      rw[jY] at ho
      injection ho with ho
      subst ho
      have h1:=CC e he hb
      have bX:=hd.back k _ jY e he hb
      have oY:e.on<cM.size:=by omega
      refine CS _ ?_
      simp[oY] at h1⊢
      exact h1
     ·rw[getD_set_ne true (Ne.symm CP)] at hk
      exact CS _ (hC k o ho hk e he hb)
   unfold wpOp
   rw[jY]
   simp only
   rcases GR (Q:=Q) r hT Mu t1 with⟨hw,h⟩|⟨hw,h⟩
   ·rw[if_pos hw]
    exact .inl (Oper.wp_mono C1 h)
   ·rw[if_neg (by simp[hw])]
    exact C1 _ _ h
def Gn (ps:List (Nat×Nat)) (ops:List Oper) (ms:List bO):Bool:=
 (fun ks:List Nat=>(List.range ops.length).all fun i=>match ops[i]?,ms[i]? with
  |some o,some m=>(o.after.toList.all fun e=> !Region.binds .any e||decide (e.on<i))&&
   (List.range i).all fun j=>(ks.getD i 0).testBit j||(match ms[j]? with|some mj=>B5 mj m&&(B4 mj m||ps.contains (j,i))|none=>false)
  |_,_=>false) (AF ops [])
theorem aa3 {ps:List (Nat×Nat)} {ms:List bO} {fs:List (Option FP)} (h:Gn ps ops.toList ms=true) (hp:wm ps fs=true):TF (fun i=>fs.getD i none) ops ms:=by
  simp only[Gn,List.all_eq_true,List.mem_range] at h
  have cP:∀(i:Nat) (o:Oper),ops[i]? =some o->∃m,ms[i]? =some m/\(o.after.toList.all fun e=> !Region.binds .any e||decide (e.on<i))=true/\
        ∀j,j<i->(((AF ops.toList []).getD i 0).testBit j||(match ms[j]? with|some mj=>B5 mj m&&(B4 mj m||ps.contains (j,i))|none=>false))=true:=by
    intro i o ho
    have hi:i<ops.toList.length:=by simpa using(Array.getElem?_eq_some_iff.1 ho).1
    have hi':=h i hi
    have gx:ops.toList[i]? =some o:=by simpa using ho
    rw[gx] at hi'
    cases hm:ms[i]? with
    |none=>rw[hm] at hi';cases hi'
    |some m=>
     rw[hm] at hi'
     simp only[Bool.and_eq_true,List.all_eq_true,List.mem_range] at hi'
     exact⟨m,rfl,by rw[List.all_eq_true];exact hi'.1,hi'.2⟩
  refine⟨fun i o ho e he hb=>?_,fun i j o m ho hm hj=>?_⟩
  · obtain⟨m,_,k1,_⟩:=cP i o ho
    have:=List.all_eq_true.1 k1 e (Array.mem_toList_iff.2 he)
    simp[hb] at this
    exact this
  · obtain⟨m',bE,_,k2⟩:=cP i o ho
    rw[hm] at bE
    injection bE with bE
    subst bE
    have:=k2 j hj
    rw[Bool.or_eq_true] at this
    rcases this with h1|h1
    · exact .inl (Oi ops.toList [] [] rfl rfl (by intro i k hb;simp at hb) i j h1)
    · cases zW:ms[j]? with
      |none=>rw[zW] at h1;cases h1
      |some mj=>
       rw[zW] at h1
       simp only[Bool.and_eq_true,Bool.or_eq_true] at h1
       refine .inr ⟨mj,zW,h1.1,?_⟩
       rcases h1.2 with h2|h2
       · exact .inl h2
       · refine .inr ?_
         have:=List.all_eq_true.1 hp (j,i) (by simpa using h2)
         exact this
theorem Va {ms:List bO}:∀(post pre:List bO) (σ iY:St) (fs cN:List (Option FP)),ms=pre++post->cN.length=pre.length->qS T post cN σ=some (fs,iY)->
  cN=fs.take cN.length/\BV T ms (fun i=>fs.getD i none) (List.range' pre.length post.length) σ iY
 |[],pre,σ,iY,fs,cN,he,hl,hx=>by
  simp only[qS] at hx
  injection hx with hx
  injection hx with h1 h2
  subst h1 h2
  exact⟨by simp,rfl⟩
 |m::post,pre,σ,iY,fs,cN,he,hl,hx=>by
  simp only[qS] at hx
  split at hx
  ·rename_i σ1 e1
   obtain⟨h1,h2⟩:=Va (ms:=ms) post (pre++[m]) σ1 iY fs (cN++[m.fp σ]) (by simp[he]) (by simp[hl]) hx
   have h3:fs[cN.length]? =some (m.fp σ):=by
    have:(fs.take (cN++[m.fp σ]).length)[cN.length]? =some (m.fp σ):=by rw[<-h1];simp
    rw[List.getElem?_take] at this
    split at this
    ·exact this
    ·cases this
   have h4:cN=fs.take cN.length:=by
    have:=congrArg (List.take cN.length) h1
    simpa[List.take_take] using this
   refine⟨h4,m,σ1,?_,?_,e1,?_⟩
   ·rw[he,List.getElem?_append_right (Nat.le_refl _),Nat.sub_self];rfl
   ·show fs.getD pre.length none=_
    rw[<-hl,List.getD_eq_getElem?_getD,h3];rfl
   ·simpa using h2
  ·cases hx
theorem ajG (hT:nN P T) (hm:P.follows .mixedOrders=true) {id:Nat} {ps:List (Nat×Nat)} {ms:List bO} {fs:List (Option FP)} (hc:oP P N ops ops.toList ms=true) (hd:Gn ps ops.toList ms=true)
  (hx:qS T ms [] σ=some (fs,σ')) (hp:wm ps fs=true) (r:R B E w0 N σ a w G) (hQ:∀a w G,R B E w0 N σ' a w G->Q .normal a w):(Code.region id ops true).wp P Q a w:=by
 obtain⟨k1,k2⟩:=KL hc
 have hlen:ms.length=ops.size:=by simpa using k1
 refine wp_region_any hm (alo (B:=B) (E:=E) (w0:=w0) (N:=N) hT (fun i m h=>by
  obtain⟨o,h1,h2⟩:=k2 i m h;exact⟨o,by simpa using h1,h2⟩) hlen (aa3 hd hp) hQ ops.size (List.range ops.size) _ σ a _ G (r.drawn _) ?_ ?_ (by simp) (by simp) (fun j=>?_) (fun k o ho hk=>?_))
 ·have:=(Va (T:=T) (ms:=ms) ms [] σ σ' fs [] rfl rfl hx).2
  simp only[List.length_nil,hlen,<-List.range_eq_range'] at this
  exact this
 ·exact List.pairwise_lt_range
 ·rw[List.mem_range]
  constructor
  ·intro h;simp[h]
  ·intro h
   rcases Nat.lt_or_ge j ops.size with h'|h'
   ·exact h'
   ·simp[Array.getElem?_eq_none (show(Array.replicate ops.size false).size<=j by simpa using h')] at h
 ·exfalso
  have MN:k<ops.size:=(Array.getElem?_eq_some_iff.1 ho).1
  simp[MN] at hk
end
end Go.Am
end
