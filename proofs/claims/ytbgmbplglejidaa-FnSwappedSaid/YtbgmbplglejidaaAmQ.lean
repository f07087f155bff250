/- AmP, AmQ: parts of the proof. No condition. -/
import Derived.Test.YtbgmbplglejidaaAm21
set_option linter.unusedVariables false
set_option linter.unusedSimpArgs false
section
namespace Go.Am
theorem aj.ao8 {c:aj} {m:Nat}:m∈c.sE↔c.iY m:=by
 cases c<;>simp[aj.sE,aj.iY]
theorem aj.FU {c:aj} {m:Nat}:m∈c.nm↔c.ref m:=by
 cases c with
 |fn f cF=>simp[aj.nm,aj.ref,List.mem_flatMap,aj.ao8]
 |_=>simp[aj.nm,aj.sE,aj.ref,aj.iY]
theorem ak.z7 {v:ak} {m:Nat}:m∈v.gM↔v.ref m:=by
 cases v with
 |one c=>exact aj.FU
 |agg cs=>simp[ak.gM,ak.ref,List.mem_flatMap,aj.FU]
 |br xs=>simp only[ak.gM,ak.ref,List.mem_flatMap,aj.FU]
theorem qd {op:aH} {ev:MO->ak} {n:Nat}:n∈op.jl ev↔∃a∈op.args,(ev a).ref n:=by
 simp[aH.jl,List.mem_flatMap,ak.z7]
theorem KU {op:aH} {ev:MO->ak} {h:Nat->Option ar} {n:Nat} (hn:n∈op.jl ev):n∈op.mQ ev h:=by
 unfold aH.mQ
 cases op.FG with
 |true=>exact List.mem_append.2 (.inl hn)
 |false=>exact hn
theorem aeT {op:aH} {ev:MO->ak} {h:Nat->Option ar} {ws:List Nat} (hw:op.kM ev h=some ws) {n:Nat} (hn:n∈ws):n∈op.jl ev:=by
 cases op<;>simp only[aH.kM] at hw<;>first|(cases hw;cases hn)|(cases hw;done)|skip
 case store sz x v=>
  split at hw
  ·rename_i q _ _ _ hx
   have hq:q∈(aH.store sz x v).jl ev:=qd.2 ⟨x,by simp[aH.args],by rw[hx];exact rfl⟩
   split at hw
   ·injection hw with hw;subst hw;simp at hn;subst hn;exact hq
   ·injection hw with hw;subst hw
    rcases List.mem_cons.1 hn with rfl|hn
    ·exact hq
    ·exact qd.2 ⟨v,by simp[aH.args],ak.z7.1 hn⟩
   ·cases hw
  ·rename_i q _ _ _ _ _ hx
   have hq:q∈(aH.store sz x v).jl ev:=qd.2 ⟨x,by simp[aH.args],by rw[hx];exact rfl⟩
   injection hw with hw;subst hw;simp at hn;subst hn;exact hq
  ·cases hw
 case copy sz x y=>
  split at hw
  ·rename_i q _ _ _ hx
   injection hw with hw;subst hw;simp at hn;subst hn
   exact qd.2 ⟨x,by simp[aH.args],by rw[hx];exact rfl⟩
  ·cases hw
 case lE z x=>
  split at hw
  ·rename_i q _ _ _ hx
   injection hw with hw;subst hw;simp at hn;subst hn
   exact qd.2 ⟨x,by simp[aH.args],by rw[hx];exact rfl⟩
  ·cases hw
 case gd sz ps=>
  injection hw with hw
  subst hw
  obtain⟨a,ha,hn⟩:=List.mem_flatMap.1 hn
  exact qd.2 ⟨a,ha,ak.z7.1 hn⟩
 case dT f xs=>
  injection hw with hw
  subst hw
  obtain⟨a,ha,hn⟩:=List.mem_flatMap.1 hn
  exact qd.2 ⟨a,ha,ak.z7.1 hn⟩
 case append fl sz by_ x y=>
  injection hw with hw
  subst hw
  rcases List.mem_append.1 hn with hn|hn
  ·exact qd.2 ⟨x,by simp[aH.args],ak.z7.1 hn⟩
  ·exact qd.2 ⟨y,by simp[aH.args],ak.z7.1 hn⟩
def St.di (σ:St):List (Nat×Option ar)->St
 |[]=>σ
 |(n,b)::l=>St.di {σ with h:=aA σ.h n b} l
def dC (h:Nat->Option ar):List (Nat×Option ar)->(Nat->Option ar)
 |[]=>h
 |(n,b)::l=>dC (aA h n b) l
theorem mb:∀(l:List (Nat×Option ar)) (σ:St),σ.di l={σ with h:=dC σ.h l}
 |[],σ=>rfl
 |(n,b)::l,σ=>by simp only[St.di,dC];rw[mb l]
theorem oB:∀{l:List (Nat×Option ar)} {h:Nat->Option ar} {n:Nat},(∀p∈l,p.1≠n)->dC h l n=h n
 |[],h,n,_=>rfl
 |(m,b)::l,h,n,hn=>by
  simp only[dC]
  rw[oB fun p hp=>hn p (List.mem_cons_of_mem _ hp)]
  exact cE _ _ _ _ (fun e=>hn (m,b) (by simp) e.symm)
theorem asX (h:Nat->Option ar) (l l':List (Nat×Option ar)):dC h (l++l')=dC (dC h l) l':=by
 induction l generalizing h with
 |nil=>rfl
 |cons x l ih=>obtain⟨n,b⟩:=x;exact ih _
theorem DM (σ:St) (l l':List (Nat×Option ar)):σ.di (l++l')=(σ.di l).di l':=by
 simp only[mb,asX]
theorem GU:∀{l:List (Nat×Option ar)} {h h':Nat->Option ar} {n:Nat},(∃p∈l,p.1=n)->dC h l n=dC h' l n
 |[],h,h',n,hn=>by obtain⟨p,hp,_⟩:=hn;cases hp
 |(m,b)::l,h,h',n,hn=>by
  simp only[dC]
  by_cases hl:∃p∈l,p.1=n
  ·exact GU hl
  ·have cm:∀p∈l,p.1≠n:=fun p hp e=>hl ⟨p,hp,e⟩
   rw[oB cm,oB cm]
   obtain⟨p,hp,e⟩:=hn
   rcases List.mem_cons.1 hp with rfl|hp
   ·simp only at e;subst e;rw[bN,bN]
   ·exact absurd e (cm p hp)
theorem aeH {u v:List (Nat×Option ar)} (hd:∀p∈u,∀q∈v,p.1≠q.1) (h:Nat->Option ar):dC (dC h u) v=dC (dC h v) u:=by
 funext n
 by_cases hu:∃p∈u,p.1=n
 ·obtain⟨p,hp,rfl⟩:=hu
  rw[oB (l:=v) fun q hq e=>hd p hp q hq e.symm]
  exact GU ⟨p,hp,rfl⟩
 ·rw[oB (l:=u) (h:=dC h v) fun p hp e=>hu ⟨p,hp,e⟩]
  by_cases hv:∃q∈v,q.1=n
  ·exact GU hv
  ·rw[oB fun q hq e=>hv ⟨q,hq,e⟩,oB fun p hp e=>hu ⟨p,hp,e⟩,oB fun q hq e=>hv ⟨q,hq,e⟩]
theorem asZ {u v:List (Nat×Option ar)} (hd:∀p∈u,∀q∈v,p.1≠q.1) (σ:St):(σ.di u).di v=(σ.di v).di u:=by
 simp only[mb,aeH hd]
theorem aeI (σ:St) (e:Nat->ak) (l:List (Nat×Option ar)):(σ.we e).di l=(σ.di l).we e:=by
 simp only[mb];rfl
theorem asY {l:List (Nat×Option ar)} {h:Nat->Option ar} {n:Nat} {b:Option ar} (hn:∀p∈l,p.1≠n):dC (aA h n b) l=aA (dC h l) n b:=by
 have:=aeH (u:=l) (v:=[(n,b)]) (fun p hp q hq=>by simp at hq;subst hq;exact hn p hp) h
 exact this.symm
theorem akW {σ σ1:St} {l:List (Nat×Option ar)} {n:Nat} {b:ar} (hl:∀p∈l,σ.used p.1=true) (h:σ.ins n b=some σ1):(σ.di l).ins n b=some (σ1.di l):=by
 obtain⟨u1,rfl⟩:=mN h
 unfold St.ins
 rw[mb,mb]
 rw[if_neg (show¬σ.used n=true by rw[u1];simp)]
 simp only
 rw[asY fun p hp e=>by rw[<-e,hl p hp] at u1;cases u1]
theorem FE:∀{A:List (Nat×ar)} {σ σ1:St} {l:List (Nat×Option ar)},(∀p∈l,σ.used p.1=true)->σ.cM A=some σ1->(σ.di l).cM A=some (σ1.di l)
 |[],σ,σ1,l,hl,h=>by
  simp only[St.cM] at h⊢
  injection h with h
  rw[h]
 |(n,b)::A,σ,σ1,l,hl,h=>by
  simp only[St.cM] at h⊢
  split at h
  ·rename_i kg e
   rw[akW hl e]
   obtain⟨u1,rfl⟩:=mN e
   exact FE (fun p hp=>rI _ _ (hl p hp)) h
  ·cases h
theorem aba:∀{A:List (Nat×ar)} {σ σ':St},σ.used=σ'.used->(σ.cM A).isSome=true->(σ'.cM A).isSome=true
 |[],σ,σ',hu,h=>rfl
 |(n,b)::A,σ,σ',hu,h=>by
  simp only[St.cM,St.ins] at h⊢
  rw[<-hu]
  split at h
  ·rename_i kg e
   split at e
   ·cases e
   ·rename_i hn
    injection e with e
    subst e
    rw[if_neg hn]
    simp only
    exact aba (by rfl) h
  ·cases h
theorem QI {A:List (Nat×ar)} {σ B:St} {l:List (Nat×Option ar)} (hl:∀p∈l,σ.used p.1=true) (h:(σ.di l).cM A=some B):∃B',σ.cM A=some B'/\B=B'.di l:=by
 have hs:(σ.cM A).isSome=true:=aba (A:=A) (σ:=σ.di l) (σ':=σ) (by rw[mb]) (by rw[h];rfl)
 cases e:σ.cM A with
 |none=>rw[e] at hs;cases hs
 |some B'=>
  refine⟨B',rfl,?_⟩
  have:=FE hl e
  rw[h] at this
  injection this
abbrev Us:=List (Nat×Option ar)
def sO (h:Nat->Option ar):aj->Option (C×Bool×Us)
 |.c x=>some (x,x.eV,[])
 |.nil sz=>if 0<sz then some (.list sz [],true,[]) else none
 |.sl n sz lo len=>
  match h n with
  |some (.row _ m rs xs)=>if rs=sz/\lo=0/\len<=xs.length then some (.list sz (xs.take len),decide (m≠ .aG),[(n,none)]) else none
  |_=>none
 |_=>none
def kc (h:Nat->Option ar):List aj->Option (List C×Bool×Us)
 |[]=>some ([],true,[])
 |c::cs=>match sO h c with
  |some (x,o,u)=>match kc (dC h u) cs with
   |some (xs,o',u')=>some (x::xs,o&&o',u++u')
   |none=>none
  |none=>none
def pu (sz:Nat) (h:Nat->Option ar):List ak->Option (List (List C)×Bool×Us)
 |[]=>some ([],true,[])
 |v::vs=>match v.cells? with
  |some (_,cs)=>if cs.length=sz then
   match kc h cs with
   |some (e,o,u)=>match pu sz (dC h u) vs with
    |some (es,o',u')=>some (e::es,o&&o',u++u')
    |none=>none
   |none=>none
   else none
  |none=>none
theorem GV (σ:St) (l:Us):(σ.di l).h=dC σ.h l:=by rw[mb]
theorem asN (σ:St) (c:aj):σ.gb c=(sO σ.h c).map fun x=>(x.1,x.2.1,σ.di x.2.2):=by
 cases c with
 |sl n sz lo len=>
  simp only[St.gb,sO]
  cases σ.h n with
  |none=>rfl
  |some b=>cases b with
   |box cs=>rfl
   |row gr m rs xs=>simp only;split<;>rfl
 |nil sz=>simp only[St.gb,sO];split<;>rfl
 |_=>rfl
theorem LW:∀(cs:List aj) (σ:St),σ.fD cs=(kc σ.h cs).map fun x=>(x.1,x.2.1,σ.di x.2.2)
 |[],σ=>rfl
 |c::cs,σ=>by
  simp only[St.fD,kc,asN]
  cases sO σ.h c with
  |none=>rfl
  |some x=>
   obtain⟨x,o,u⟩:=x
   simp only[Option.map_some,LW cs,GV]
   cases kc (dC σ.h u) cs with
   |none=>rfl
   |some y=>obtain⟨xs,o',u'⟩:=y;simp only[Option.map_some,DM]
theorem aey (sz:Nat):∀(vs:List ak) (σ:St),σ.lY sz vs=(pu sz σ.h vs).map fun x=>(x.1,x.2.1,σ.di x.2.2)
 |[],σ=>rfl
 |v::vs,σ=>by
  simp only[St.lY,pu]
  cases v.cells? with
  |none=>rfl
  |some x=>
   obtain⟨b,cs⟩:=x
   simp only
   split
   ·rw[LW]
    cases kc σ.h cs with
    |none=>rfl
    |some y=>
     obtain⟨e,o,u⟩:=y
     simp only[Option.map_some,aey sz vs,GV]
     cases pu sz (dC σ.h u) vs with
     |none=>rfl
     |some y=>obtain⟨es,o',u'⟩:=y;simp only[Option.map_some,DM]
   ·rfl
theorem asL {h:Nat->Option ar} {c:aj} {x:C} {o:Bool} {u:Us} (e:sO h c=some (x,o,u)):∀q∈u,q.1∈c.nm:=by
 unfold sO at e
 split at e
 ·injection e with e;injection e with _ e;injection e with _ e;subst e;intro q hq;cases hq
 ·split at e
  ·injection e with e;injection e with _ e;injection e with _ e;subst e;intro q hq;cases hq
  ·cases e
 ·split at e
  ·split at e
   ·injection e with e;injection e with _ e;injection e with _ e;subst e;intro q hq;simp at hq;subst hq;simp[aj.nm,aj.sE]
   ·cases e
  ·cases e
 ·cases e
theorem LV:∀{cs:List aj} {h:Nat->Option ar} {xs:List C} {o:Bool} {u:Us},kc h cs=some (xs,o,u)->∀q∈u,q.1∈cs.flatMap aj.nm
 |[],h,xs,o,u,e=>by
  simp only[kc] at e
  injection e with e;injection e with _ e;injection e with _ e;subst e;intro q hq;cases hq
 |c::cs,h,xs,o,u,e=>by
  simp only[kc] at e
  split at e
  ·rename_i x o1 u1 e1
   split at e
   ·rename_i iH o2 u2 e2
    injection e with e;injection e with _ e;injection e with _ e;subst e
    intro q hq
    rw[List.flatMap_cons]
    rcases List.mem_append.1 hq with hq|hq
    ·exact List.mem_append.2 (.inl (asL e1 q hq))
    ·exact List.mem_append.2 (.inr (LV e2 q hq))
   ·cases e
  ·cases e
theorem BC {v:ak} {b:Bool} {cs:List aj} (h:v.cells?=some (b,cs)):cs.flatMap aj.nm=v.gM:=by
 cases v with
 |one c=>cases c<;>simp[ak.cells?] at h<;>(obtain⟨_,rfl⟩:=h;simp[ak.gM])
 |agg cs'=>simp[ak.cells?] at h;obtain⟨_,rfl⟩:=h;rfl
 |br xs=>simp[ak.cells?] at h
theorem aex {sz:Nat}:∀{vs:List ak} {h:Nat->Option ar} {xs:List (List C)} {o:Bool} {u:Us},pu sz h vs=some (xs,o,u)->∀q∈u,q.1∈vs.flatMap ak.gM
 |[],h,xs,o,u,e=>by
  simp only[pu] at e
  injection e with e;injection e with _ e;injection e with _ e;subst e;intro q hq;cases hq
 |v::vs,h,xs,o,u,e=>by
  simp only[pu] at e
  split at e
  ·rename_i b cs hv
   split at e
   ·split at e
    ·rename_i x o1 u1 e1
     split at e
     ·rename_i iH o2 u2 e2
      injection e with e;injection e with _ e;injection e with _ e;subst e
      intro q hq
      rw[List.flatMap_cons]
      rcases List.mem_append.1 hq with hq|hq
      ·exact List.mem_append.2 (.inl (BC hv▸LV e1 q hq))
      ·exact List.mem_append.2 (.inr (aex e2 q hq))
     ·cases e
    ·cases e
   ·cases e
  ·cases e
theorem GS {h h':Nat->Option ar} {n:Nat} (hh:h' n=h n) (u:Us):dC h' u n=dC h u n:=by
 by_cases hu:∃p∈u,p.1=n
 ·exact GU hu
 ·rw[oB fun p hp e=>hu ⟨p,hp,e⟩,oB fun p hp e=>hu ⟨p,hp,e⟩,hh]
theorem asK {h h':Nat->Option ar} {c:aj} (hh:∀n∈c.nm,h' n=h n):sO h' c=sO h c:=by
 cases c with
 |sl n sz lo len=>simp only[sO];rw[hh n (by simp[aj.nm,aj.sE])]
 |_=>rfl
theorem LU:∀{cs:List aj} {h h':Nat->Option ar},(∀n∈cs.flatMap aj.nm,h' n=h n)->kc h' cs=kc h cs
 |[],h,h',_=>rfl
 |c::cs,h,h',hh=>by
  simp only[kc]
  rw[asK fun n hn=>hh n (by rw[List.flatMap_cons];exact List.mem_append.2 (.inl hn))]
  cases sO h c with
  |none=>rfl
  |some x=>
   obtain⟨x,o,u⟩:=x
   simp only
   rw[LU (cs:=cs) (h:=dC h u) (h':=dC h' u) fun n hn=>GS (hh n (by rw[List.flatMap_cons];exact List.mem_append.2 (.inr hn))) u]
theorem aew {sz:Nat}:∀{vs:List ak} {h h':Nat->Option ar},(∀n∈vs.flatMap ak.gM,h' n=h n)->pu sz h' vs=pu sz h vs
 |[],h,h',_=>rfl
 |v::vs,h,h',hh=>by
  simp only[pu]
  cases hv:v.cells? with
  |none=>rfl
  |some x=>
   obtain⟨b,cs⟩:=x
   simp only
   rw[LU (cs:=cs) fun n hn=>hh n (by rw[List.flatMap_cons];exact List.mem_append.2 (.inl (BC hv▸hn)))]
   cases kc h cs with
   |none=>rfl
   |some y=>
    obtain⟨e,o,u⟩:=y
    simp only
    rw[aew (vs:=vs) (h:=dC h u) (h':=dC h' u) fun n hn=>GS (hh n (by rw[List.flatMap_cons];exact List.mem_append.2 (.inr hn))) u]
def xV (h:Nat->Option ar) (n:Nat) (gr:Bool) (m:Mode) (rs:Nat) (xs:List (List C)) (k off:Nat) (e:List C) (vs:List aj):Option Us:=
 match sub e off vs.length with
 |none=>none
 |some fB=>match kc h vs with
  |none=>none
  |some (cs,o,u)=>
   if m=.live then
    if fK cs=true/\fK fB=true/\(dC h u n).isSome=true then some (u++[(n,some (.row gr m rs (xs.set k (cv e off cs))))]) else none
   else if(dC h u n).isSome=true then some (u++[(n,some (.row gr (if o=true then m else .aG) rs (xs.set k (cv e off cs))))])
   else none
theorem asu (σ:St) (n:Nat) (gr:Bool) (m:Mode) (rs:Nat) (xs:List (List C)) (k off:Nat) (e:List C) (vs:List aj):
  nC σ n gr m rs xs k off e vs=(xV σ.h n gr m rs xs k off e vs).map fun u=>σ.di u:=by
 unfold nC xV
 cases sub e off vs.length with
 |none=>rfl
 |some fB=>
  simp only[LW]
  cases kc σ.h vs with
  |none=>rfl
  |some x=>
   obtain⟨cs,o,u⟩:=x
   simp only[Option.map_some,GV]
   repeat' split
   all_goals first|rfl|(simp only[Option.map_some,DM];rfl)
def wm (h:Nat->Option ar) (sz:Nat):ak->Option (List (List C)×Mode×List (Nat×Option ar))
 |.one (.nil _)=>some ([],.ae,[])
 |.one (.sl a s 0 len)=>match h a with
  |some (.row true m rs xs)=>if rs=sz/\s=sz/\len=xs.length then some (xs,m,[(a,none)]) else none
  |_=>none
 |_=>none
def uw (fl:Bool) (h:Nat->Option ar) (sz:Nat) (m:Mode):ak->Option (List (List C)×Mode×List (Nat×Option ar))
  |.one (.nil _)=>some ([],m,[])
  |.one (.c (.list s ys))=>if s=sz then(if(fl&&gv ys)=true then some (ys,m,[]) else if m=.live then none else some (ys,.aG,[])) else none
  |.one (.sl b s lo len)=>match h b with
   |some (.row _ m' rs ys)=>if rs=sz/\s=sz/\lo+len<=ys.length then
       (if(fl&&gv ((ys.drop lo).take len))=true then some ((ys.drop lo).take len,m,[])
        else if lo=0/\len=ys.length then(if m=m' then some (ys,m,[(b,none)]) else if m=.live\/m'=.live then none else some (ys,.aG,[(b,none)])) else none)
    else none
   |_=>none
  |_=>none
theorem afe (σ:St) (sz:Nat) (v:ak):qz σ sz v=(wm σ.h sz v).map fun x=>(x.1,x.2.1,σ.di x.2.2):=by
 cases v with
 |one v=>cases v with
  |sl a s lo len=>cases lo with
   |zero=>
    simp only[qz,wm]
    cases σ.h a with
    |none=>rfl
    |some b=>cases b with
     |box cs=>rfl
     |row gr m rs xs=>cases gr with
      |true=>simp only;split<;>rfl
      |false=>rfl
   |succ lo=>rfl
  |_=>rfl
 |_=>rfl
theorem afg (fl:Bool) (σ:St) (sz:Nat) (m:Mode) (v:ak):mq fl σ sz m v=(uw fl σ.h sz m v).map fun x=>(x.1,x.2.1,σ.di x.2.2):=by
 cases v with
 |one v=>cases v with
  |sl b s lo len=>
   simp only[mq,uw]
   cases σ.h b with
   |none=>rfl
   |some b=>cases b with
    |box cs=>rfl
    |row gr m rs xs=>
     simp only
     repeat' split
     all_goals rfl
  |c x=>cases x with
   |list s ys=>
    simp only[mq,uw]
    repeat' split
    all_goals rfl
   |_=>rfl
  |_=>rfl
 |_=>rfl
def mr (h:Nat->Option ar):List ak->Option (List Dv×List Nat×Us)
 |[]=>some ([],[],[])
 |v::vs=>match mw h v with
  |some (n,xs)=>match mr h vs with
   |some (ds,ns,u)=>some ((.ptr,xs)::ds,n::ns,u)
   |none=>none
  |none=>match v.cells? with
   |some (ag,cs)=>match kc h cs with
    |some (xs,_,u)=>match mr (dC h u) vs with
     |some (ds,ns,u')=>some ((if ag=true then .agg else .one,xs)::ds,ns,u++u')
     |none=>none
    |none=>none
   |none=>none
theorem Ng:∀(vs:List ak) (σ:St),σ.ia vs=(mr σ.h vs).map fun x=>(x.1,x.2.1,σ.di x.2.2)
 |[],σ=>rfl
 |v::vs,σ=>by
  simp only[St.ia,mr]
  cases mw σ.h v with
  |some x=>
   obtain⟨n,xs⟩:=x
   simp only[Ng vs σ]
   cases mr σ.h vs<;>rfl
  |none=>
   simp only
   cases v.cells? with
   |none=>rfl
   |some x=>
    obtain⟨ag,cs⟩:=x
    simp only
    rw[LW]
    cases kc σ.h cs with
    |none=>rfl
    |some y=>
     obtain⟨e,o,u⟩:=y
     simp only[Option.map_some,Ng vs,GV]
     cases mr (dC σ.h u) vs with
     |none=>rfl
     |some y=>obtain⟨ds,ns,u'⟩:=y;simp only[Option.map_some,DM]
theorem afw {h:Nat->Option ar} {v:ak} {n:Nat} {xs:List C} (e:mw h v=some (n,xs)):n∈v.gM:=by
 obtain⟨sz,cs,rfl,_⟩:=Ni e
 simp[ak.gM,aj.nm,aj.sE]
theorem I1:∀{vs:List ak} {h:Nat->Option ar} {ds:List Dv} {ns:List Nat} {u:Us},mr h vs=some (ds,ns,u)->(∀q∈u,q.1∈vs.flatMap ak.gM)/\∀n∈ns,n∈vs.flatMap ak.gM
 |[],h,ds,ns,u,e=>by
  simp only[mr] at e
  injection e with e;injection e with _ e;injection e with e1 e;subst e e1;exact⟨fun q hq=>(by cases hq),fun q hq=>(by cases hq)⟩
 |v::vs,h,ds,ns,u,e=>by
  simp only[mr] at e
  split at e
  ·rename_i n xs hp
   split at e
   ·rename_i uH kH u' e2
    injection e with e;injection e with _ e;injection e with e1 e;subst e e1
    obtain⟨i1,i2⟩:=I1 e2
    rw[List.flatMap_cons]
    refine⟨fun q hq=>List.mem_append.2 (.inr (i1 q hq)),fun m hm=>?_⟩
    rcases List.mem_cons.1 hm with rfl|hm
    ·exact List.mem_append.2 (.inl (afw hp))
    ·exact List.mem_append.2 (.inr (i2 m hm))
   ·cases e
  ·split at e
   ·rename_i b cs hv
    split at e
    ·rename_i x o1 u1 e1
     split at e
     ·rename_i ds2 ns2 u2 e2
      injection e with e;injection e with _ e;injection e with e3 e;subst e e3
      obtain⟨i1,i2⟩:=I1 e2
      rw[List.flatMap_cons]
      refine⟨fun q hq=>?_,fun m hm=>List.mem_append.2 (.inr (i2 m hm))⟩
      rcases List.mem_append.1 hq with hq|hq
      ·exact List.mem_append.2 (.inl (BC hv▸LV e1 q hq))
      ·exact List.mem_append.2 (.inr (i1 q hq))
     ·cases e
    ·cases e
   ·cases e
theorem afv {h h':Nat->Option ar} {v:ak} (hh:∀n∈v.gM,h' n=h n):mw h' v=mw h v:=by
 cases v with
 |one c=>cases c with
  |ptr n k sz off=>simp only[mw];rw[hh n (by simp[ak.gM,aj.nm,aj.sE])]
  |_=>rfl
 |_=>rfl
theorem Nd:∀{vs:List ak} {h h':Nat->Option ar},(∀n∈vs.flatMap ak.gM,h' n=h n)->mr h' vs=mr h vs
 |[],h,h',_=>rfl
 |v::vs,h,h',hh=>by
  have h1:∀n∈v.gM,h' n=h n:=fun n hn=>hh n (by rw[List.flatMap_cons];exact List.mem_append.2 (.inl hn))
  have h2:∀n∈vs.flatMap ak.gM,h' n=h n:=fun n hn=>hh n (by rw[List.flatMap_cons];exact List.mem_append.2 (.inr hn))
  simp only[mr]
  rw[afv h1]
  cases mw h v with
  |some x=>
   obtain⟨n,xs⟩:=x
   simp only
   rw[Nd h2]
  |none=>
   simp only
   cases hv:v.cells? with
   |none=>rfl
   |some x=>
    obtain⟨b,cs⟩:=x
    simp only
    rw[LU (cs:=cs) fun n hn=>h1 n (BC hv▸hn)]
    cases kc h cs with
    |none=>rfl
    |some y=>
     obtain⟨e,o,u⟩:=y
     simp only
     rw[Nd (vs:=vs) (h:=dC h u) (h':=dC h' u) fun n hn=>GS (h2 n hn) u]
def vB (h:Nat->Option ar):List Nat->List C->Option Us
 |[],[]=>some []
 |[n],out=>match h n with
  |some (.box cs)=>if cs.length=out.length then some [(n,some (.box (out.map .c)))] else none
  |_=>none
 |_,_=>none
theorem aqA (σ:St) (ns:List Nat) (out:List C):σ.rn ns out=(vB σ.h ns out).map σ.di:=by
 match ns,out with
 |[],[]=>rfl
 |[],_::_=>rfl
 |[n],out=>
  simp only[St.rn,vB]
  cases σ.h n with
  |none=>rfl
  |some b=>
   cases b with
   |box cs=>simp only;split<;>rfl
   |row gr m rs xs=>rfl
 |_::_::_,out=>rfl
theorem aqz {h:Nat->Option ar} {ns:List Nat} {out:List C} {u:Us} (e:vB h ns out=some u):∀q∈u,q.1∈ns:=by
 unfold vB at e
 split at e
 ·injection e with e;subst e;intro q hq;cases hq
 ·split at e
  ·split at e
   ·injection e with e;subst e;intro q hq;simp at hq;subst hq;simp
   ·cases e
  ·cases e
 ·cases e
theorem aqy {h h':Nat->Option ar} {ns:List Nat} {out:List C} (hh:∀n∈ns,h' n=h n):vB h' ns out=vB h ns out:=by
 match ns,out with
 |[],[]=>rfl
 |[],_::_=>rfl
 |[n],out=>simp only[vB];rw[hh n (by simp)]
 |_::_::_,out=>rfl
def Bt (d:Option Nat):List Dv->Option (ak×List (Nat×ar))
 |[(.ptr,cs)]=>match d with
  |some q=>some (.one (.ptr q 0 0 0),[(q,.box (cs.map .c))])
  |none=>none
 |rs=>match gR rs with
  |some ls=>some (lT ls,[])
  |none=>none
theorem afx (σ:St) (d:Option Nat) (rs:List Dv):qD σ d rs=(Bt d rs).bind fun x=>(σ.cM x.2).map (·.put d x.1):=by
 unfold qD
 split
 ·cases d with
  |none=>rfl
  |some q=>
   simp only[Bt,Option.bind_some,St.cM]
   cases σ.ins q _<;>rfl
 ·rename_i aD
  have e:Bt d rs=match gR rs with
    |some ls=>some (lT ls,[])
    |none=>none:=by
   unfold Bt
   split
   ·exact absurd rfl (aD _)
   ·rfl
  rw[e]
  cases gR rs with
  |none=>rfl
  |some ls=>rfl
abbrev MZ:=ak×List (Nat×Option ar)×List (Nat×ar)
def fe (T:aT) (d:Option Nat) (op:aH) (ev:MO->ak) (h:Nat->Option ar):Option MZ:=
 match op with
 |.store sz x v=>match ev x,(ev v).cells? with
  |.one (.ptr n k aE off),some (_,vs)=>if vs.length=sz then
   match h n with
   |some (.box cs)=>if k=0/\off+sz<=cs.length then some (.one .bq,[(n,some (.box (cv cs off vs)))],[]) else none
   |some (.row gr m rs xs)=>if aE=rs then
    match xs[k]? with
    |some e=>match xV h n gr m rs xs k off e vs with
     |some u=>some (.one .bq,u,[])
     |none=>none
    |none=>none
    else none
   |none=>none
   else none
  |.one (.c7 n k aE off s i),some (_,vs)=>if vs.length=sz then
   match h n with
   |some (.row gr .live rs xs)=>if aE=rs then
    match vI xs k off s i vs with
    |some au=>some (.one .bq,[(n,some (.row gr .live rs au))],[])
    |none=>none
    else none
   |_=>none
   else none
  |_,_=>none
 |.gd sz ps=>match d,pu sz h (ps.map ev) with
  |some n,some (es,o,u)=>some (.one (.sl n sz 0 es.length),u,[(n,.row true (if o=true then .ae else .aG) sz es)])
  |_,_=>none
 |.append fl sz by_ x y=>match d with
  |none=>none
  |some n=>match wm h sz (ev x) with
   |none=>none
   |some (xs,m,u1)=>match uw fl (dC h u1) sz m (ev y) with
    |none=>none
    |some (ys,m2,u2)=>if(xs.length+ys.length)*by_<=eQ then some (.one (.sl n sz 0 (xs.length+ys.length)),u1++u2,[(n,.row true m2 sz (xs++ys))]) else none
 |.dT f xs=>match mr h (xs.map ev),aT.kQ T.vs f with
  |some (ds,ns,u),some M=>match M ds with
   |some (rs,out)=>match vB (dC h u) ns out,Bt d rs with
    |some u',some (v,is)=>some (v,u++u',is)
    |_,_=>none
   |none=>none
  |_,_=>none
 |.copy sz x y=>match ev x,ev y with
  |.one (.sl n s lo len),.one c=>match h n,cq h c with
   |some (.row gr m rs xs),some (.list s' ys)=>if sz=1/\s=1/\rs=1/\s'=1/\m≠ .aG/\gv xs=true/\gv ys=true/\lo+len<=xs.length then
    some (.one (.c (.int .i64 (Nat.min ys.length len:Nat))),[(n,some (.row gr m 1 (cv xs lo (ys.take len))))],[]) else none
   |_,_=>none
  |_,_=>none
 |.lE z x=>match ev x with
  |.one (.sl n s lo len)=>match h n with
   |some (.row gr m rs xs)=>if s=1/\rs=1/\z.eV=true/\m≠ .aG/\gv xs=true/\lo+len<=xs.length then
    some (.br [],[(n,some (.row gr m 1 (cv xs lo (List.replicate len [z]))))],[]) else none
   |_=>none
  |_=>none
 |op=>(rd T d op ev h).map fun x=>(x.1,[],x.2)
def wJ (d:Option Nat) (σ:St) (p:MZ):Option St:=((σ.di p.2.1).cM p.2.2).map (·.put d p.1)
theorem JE {T:aT} {d:Option Nat} {op:aH} {σ:St} {ws:List Nat} (hw:op.kM σ.ev σ.h=some ws) (hd:∀sz x v,op=.store sz x v->d=none):
  exec T d op σ=(fe T d op σ.ev σ.h).bind (wJ d σ):=by
 by_cases hc:op.dL<=1
 ·rw[pG T d op σ hc]
  have:fe T d op σ.ev σ.h=(rd T d op σ.ev σ.h).map fun x=>(x.1,[],x.2):=by
   cases op<;>first|rfl|(simp[aH.dL] at hc)
  rw[this]
  cases rd T d op σ.ev σ.h with
  |none=>rfl
  |some x=>rfl
 ·cases op<;>simp[aH.dL] at hc<;>simp only[aH.kM] at hw
  case fU=>cases hw
  case copy sz x y=>
   simp only[exec,fe]
   cases σ.ev x with
   |one p=>cases p with
    |sl n s lo len=>
     cases σ.ev y with
     |one c=>
      simp only
      cases σ.h n with
      |none=>rfl
      |some b=>cases b with
       |box cs=>rfl
       |row gr m rs xs=>
        cases cq σ.h c with
        |none=>rfl
        |some q=>cases q with
         |list s' ys=>
          simp only
          split<;>rfl
         |_=>rfl
     |_=>rfl
    |_=>rfl
   |_=>rfl
  case lE z x=>
   simp only[exec,fe]
   cases σ.ev x with
   |one p=>cases p with
    |sl n s lo len=>
     simp only
     cases σ.h n with
     |none=>rfl
     |some b=>cases b with
      |box cs=>rfl
      |row gr m rs xs=>
       simp only
       split<;>rfl
    |_=>rfl
   |_=>rfl
  case tail=>cases hw
  case oZ=>cases hw
  case dT f xs=>
   simp only[exec,fe,qI,Ng]
   cases mr σ.h (xs.map σ.ev) with
   |none=>rfl
   |some x=>
    obtain⟨ds,ns,u⟩:=x
    simp only[Option.map_some]
    cases aT.kQ T.vs f with
    |none=>rfl
    |some M=>
     simp only
     cases M ds with
     |none=>rfl
     |some z=>
      obtain⟨rs,out⟩:=z
      simp only[aqA,GV]
      cases vB (dC σ.h u) ns out with
      |none=>rfl
      |some u'=>
       simp only[Option.map_some,afx]
       cases Bt d rs with
       |none=>rfl
       |some z=>
        obtain⟨v,is⟩:=z
        simp only[Option.bind_some,wJ,DM]
  case gd sz ps=>
   simp only[exec,fe]
   rw[aey]
   cases d with
   |none=>rfl
   |some n=>
    cases pu sz σ.h (ps.map σ.ev) with
    |none=>rfl
    |some x=>
     obtain⟨es,o,u⟩:=x
     simp only[Option.map_some,Option.bind_some,wJ,St.cM]
     cases (σ.di u).ins n (.row true (if o=true then .ae else .aG) sz es)<;>rfl
  case append fl sz by_ x y=>
   simp only[exec,fe,afe]
   cases d with
   |none=>rfl
   |some n=>
    simp only
    cases wm σ.h sz (σ.ev x) with
    |none=>rfl
    |some z=>
     obtain⟨xs,m,u1⟩:=z
     simp only[Option.map_some,afg]
     have hh:(σ.di u1).h=dC σ.h u1:=by rw[mb]
     rw[hh]
     cases uw fl (dC σ.h u1) sz m (σ.ev y) with
     |none=>rfl
     |some z=>
      obtain⟨ys,m2,u2⟩:=z
      simp only[Option.map_some]
      split
      ·simp only[Option.bind_some,wJ,DM,St.cM]
       cases ((σ.di u1).di u2).ins n (.row true m2 sz (xs++ys))<;>rfl
      ·rfl
  case store sz x v=>
   have hd:=hd sz x v rfl
   subst hd
   simp only[exec,fe]
   split at hw
   ·rename_i n k aE off hx
    simp only[hx]
    cases hv:(σ.ev v).cells? with
    |none=>rfl
    |some y=>
     obtain⟨ag,vs⟩:=y
     simp only
     split
     ·split at hw
      ·rename_i cs hn
       simp only[hn]
       split
       ·rfl
       ·rfl
      ·rename_i gr m rs xs hn
       simp only[hn]
       split
       ·cases xs[k]? with
        |none=>rfl
        |some e=>
         simp only
         rw[asu]
         cases xV σ.h n gr m rs xs k off e vs with
         |none=>rfl
         |some b=>rfl
       ·rfl
      ·cases hw
     ·rfl
   ·rename_i n k aE off s i hx
    simp only[hx]
    cases hv:(σ.ev v).cells? with
    |none=>rfl
    |some y=>
     obtain⟨ag,vs⟩:=y
     simp only
     split
     ·cases σ.h n with
      |none=>rfl
      |some b=>cases b with
       |box cs=>rfl
       |row gr m rs xs=>cases m with
        |live=>
         simp only
         split
         ·cases vI xs k off s i vs<;>rfl
         ·rfl
        |_=>rfl
     ·rfl
   ·cases hw
theorem XS {T:aT} {d:Option Nat} {op:aH} {ev:MO->ak} {h:Nat->Option ar} {ws:List Nat} {p:MZ} (hw:op.kM ev h=some ws) (ha:fe T d op ev h=some p):∀q∈p.2.1,q.1∈ws:=by
 by_cases hc:op.dL<=1
 ·have:fe T d op ev h=(rd T d op ev h).map fun x=>(x.1,[],x.2):=by
   cases op<;>first|rfl|(simp[aH.dL] at hc)
  rw[this,Option.map_eq_some_iff] at ha
  obtain⟨x,_,rfl⟩:=ha
  intro q hq
  cases hq
 ·cases op<;>simp[aH.dL] at hc<;>simp only[aH.kM] at hw
  case fU=>cases hw
  case copy sz x y=>
   simp only[fe] at ha
   split at ha
   ·rename_i n s lo len c hx hy
    simp only[hx] at hw
    injection hw with hw
    subst hw
    repeat' split at ha
    all_goals first|cases ha|skip
    intro q hq
    simp at hq
    subst hq
    simp
   ·cases ha
  case lE z x=>
   simp only[fe] at ha
   split at ha
   ·rename_i n s lo len hx
    simp only[hx] at hw
    injection hw with hw
    subst hw
    repeat' split at ha
    all_goals first|cases ha|skip
    intro q hq
    simp at hq
    subst hq
    simp
   ·cases ha
  case tail=>cases hw
  case oZ=>cases hw
  case dT f xs=>
   injection hw with hw
   subst hw
   simp only[fe] at ha
   split at ha
   ·rename_i ds ns u M e1 e2
    split at ha
    ·rename_i rs out e3
     split at ha
     ·rename_i u' v is e4 e5
      injection ha with ha;subst ha
      obtain⟨i1,i2⟩:=I1 e1
      intro q hq
      rw[List.flatMap_map] at i1 i2
      rcases List.mem_append.1 hq with hq|hq
      ·exact i1 q hq
      ·exact i2 _ (aqz e4 q hq)
     ·cases ha
    ·cases ha
   ·cases ha
  case gd sz ps=>
   injection hw with hw
   subst hw
   simp only[fe] at ha
   split at ha
   ·rename_i n es o u e
    injection ha with ha;subst ha
    intro q hq
    have:=aex e q hq
    rw[List.flatMap_map] at this
    exact this
   ·cases ha
  case append fl sz by_ x y=>
   injection hw with hw
   subst hw
   simp only[fe] at ha
   split at ha
   ·cases ha
   ·split at ha
    ·cases ha
    ·rename_i xs m u1 e1
     split at ha
     ·cases ha
     ·rename_i ys m2 u2 e2
      split at ha
      ·injection ha with ha
       subst ha
       intro q hq
       rcases List.mem_append.1 hq with vc|vc
       ·clear hq
        refine List.mem_append.2 (.inl ?_)
        unfold wm at e1
        split at e1
        ·injection e1 with e1;injection e1 with _ e1;injection e1 with _ e1;subst e1;cases vc
        ·rename_i a s len hv
         split at e1
         ·split at e1
          ·injection e1 with e1;injection e1 with _ e1;injection e1 with _ e1;subst e1
           simp at vc;subst vc;simp[ak.gM,aj.nm,aj.sE,hv]
          ·cases e1
         ·cases e1
        ·cases e1
       ·clear hq
        refine List.mem_append.2 (.inr ?_)
        have B3:∀(b:Nat),u2=[]\/u2=[(b,none)]->b∈(ev y).gM->q.1∈(ev y).gM:=by
         intro b hb hm
         rcases hb with hb|hb
         ·subst hb;cases vc
         ·subst hb;simp at vc;subst vc;exact hm
        unfold uw at e2
        split at e2
        ·injection e2 with e2;injection e2 with _ e2;injection e2 with _ e2;subst e2;cases vc
        ·repeat' split at e2
         all_goals first|cases e2|skip
         all_goals (cases vc)
        ·rename_i b s lo len hv
         have hm:b∈(ev y).gM:=by simp[hv,ak.gM,aj.nm,aj.sE]
         refine B3 b ?_ hm
         repeat' split at e2
         all_goals first|cases e2|skip
         all_goals first|exact .inl rfl|exact .inr rfl
        ·cases e2
      ·cases ha
  case store sz x v=>
   simp only[fe] at ha
   split at ha
   ·rename_i n k aE off b vs hx hv
    simp only[hx] at hw
    split at ha
    ·split at ha
     ·rename_i cs hn
      simp only[hn] at hw
      split at ha
      ·injection ha with ha;subst ha;injection hw with hw;subst hw
       intro q hq;simp at hq;subst hq;simp
      ·cases ha
     ·rename_i gr m rs xs hn
      simp only[hn] at hw
      injection hw with hw
      subst hw
      split at ha
      ·split at ha
       ·split at ha
        ·rename_i u e0
         injection ha with ha;subst ha
         intro q hq
         have hq:q∈u:=hq
         have two:∀(u1:Us) (bb:Option ar),u=u1++[(n,bb)]->(∀q∈u1,q.1∈vs.flatMap aj.nm)->q.1∈n::(ev v).gM:=by
          intro u1 bb he Cq
          rw[he] at hq
          rcases List.mem_append.1 hq with hq|hq
          ·exact List.mem_cons_of_mem _ (BC hv▸Cq q hq)
          ·simp at hq;subst hq;simp
         unfold xV at e0
         split at e0
         ·cases e0
         ·split at e0
          ·cases e0
          ·rename_i cs o u1 e1
           have Cq:=LV e1
           repeat' split at e0
           all_goals first|(injection e0 with e0;exact two _ _ e0.symm Cq)|cases e0
        ·cases ha
       ·cases ha
      ·cases ha
     ·cases ha
    ·cases ha
   ·rename_i n k aE off s i b vs hx hv
    simp only[hx] at hw
    injection hw with hw
    subst hw
    repeat' split at ha
    all_goals first|cases ha|skip
    intro q hq
    simp at hq
    subst hq
    simp
   ·cases ha
section
variable {T:aT} {d:Option Nat} {op:aH} {ev ev':MO->ak} {h h':Nat->Option ar}
theorem FT (bu:∀x∈op.args,ev' x=ev x):op.jl ev'=op.jl ev:=by
 unfold aH.jl
 generalize op.args=l at bu
 induction l with
 |nil=>rfl
 |cons x l ih=>simp only[List.flatMap_cons];rw[bu x (by simp),ih fun y hy=>bu y (List.mem_cons_of_mem _ hy)]
theorem Yh:∀{l:List Nat} (_:∀n∈l,h' n=h n),Bz h' l=Bz h l
 |[],_=>rfl
 |n::l,hh=>by
  have:=Yh (l:=l) fun m hm=>hh m (List.mem_cons_of_mem _ hm)
  simp only[Bz,List.flatMap_cons] at this⊢
  rw[hh n (by simp),this]
theorem Tr (bu:∀x∈op.args,ev' x=ev x) (hh:∀n∈op.jl ev,h' n=h n):op.mQ ev' h'=op.mQ ev h:=by
 unfold aH.mQ
 rw[FT bu,Yh hh]
theorem Mc (bu:∀x∈op.args,ev' x=ev x) (hh:∀n∈op.jl ev,h' n=h n):op.kM ev' h'=op.kM ev h:=by
 cases op<;>first|rfl|skip
 case store sz x v=>
  have h1:=bu x (by simp[aH.args])
  have h2:=bu v (by simp[aH.args])
  simp only[aH.kM,h1,h2]
  cases hv:ev x with
  |one p=>cases p with
   |ptr n k aE off=>simp only;rw[hh n (qd.2 ⟨x,by simp[aH.args],by rw[hv];exact rfl⟩)]
   |_=>rfl
  |_=>rfl
 case copy sz x y=>
  simp only[aH.kM,bu x (by simp[aH.args])]
 case lE z x=>
  simp only[aH.kM,bu x (by simp[aH.args])]
 case dT f xs=>
  have:=FT (op:=.dT f xs) bu
  simp only[aH.jl,aH.args] at this
  simp only[aH.kM,this]
 case gd sz ps=>
  have:=FT (op:=.gd sz ps) bu
  simp only[aH.jl,aH.args] at this
  simp only[aH.kM,this]
 case append fl sz by_ x y=>
  simp only[aH.kM,bu x (by simp[aH.args]),bu y (by simp[aH.args])]
theorem XR (bu:∀x∈op.args,ev' x=ev x) (hh:∀n∈op.mQ ev h,h' n=h n):fe T d op ev' h'=fe T d op ev h:=by
 have J7:∀n∈op.jl ev,h' n=h n:=fun n hn=>hh n (KU hn)
 have hn:∀a∈op.args,∀n,(ev a).ref n->h' n=h n:=fun a ha n hr=>J7 n (qd.2 ⟨a,ha,hr⟩)
 have gen:rd T d op ev' h'=rd T d op ev h:=by
  rw[Dc T d op _ bu]
  refine acN (u:=fun n=>h' n=h n) (vv:=fun n=>n∈op.jl ev) T d op ev (fun n hn=>hn) (fun hc m cs c n hm hb eE hr=>?_) (fun x hx m hm=>hn x hx m hm) (fun x hx m hm=>qd.2 ⟨x,hx,hm⟩)
  refine hh n ?_
  unfold aH.mQ
  rw[hc]
  refine List.mem_append.2 (.inr ?_)
  unfold Bz
  rw[List.mem_flatMap]
  exact⟨m,hm,by rw[hb];exact List.mem_flatMap.2 ⟨c,eE,aj.FU.2 hr⟩⟩
 cases op<;>first|(simp only[fe];rw[gen];done)|skip
 case store sz x v=>
  have h1:=bu x (by simp[aH.args])
  have h2:=bu v (by simp[aH.args])
  simp only[fe,h1,h2]
  have h3:=hn x (by simp[aH.args])
  cases hv:ev x with
  |one p=>cases p with
   |ptr n k aE off=>
    rw[hv] at h3
    have h3:=h3 n rfl
    have h5:=hn v (by simp[aH.args])
    cases hc:(ev v).cells? with
    |none=>rfl
    |some y=>
     obtain⟨b,vs⟩:=y
     have h6:∀gr m rs xs e,xV h' n gr m rs xs k off e vs=xV h n gr m rs xs k off e vs:=by
      intro gr m rs xs e
      have h7:kc h' vs=kc h vs:=LU fun q hq=>h5 q (ak.z7.1 (BC hc▸hq))
      unfold xV
      rw[h7]
      cases kc h vs with
      |none=>rfl
      |some y=>
       obtain⟨cs,o,u⟩:=y
       simp only[GS h3 u]
     simp only[h3,h6]
   |c7 n k aE off s i=>
    rw[hv] at h3
    have h3:=h3 n rfl
    cases hc:(ev v).cells? with
    |none=>rfl
    |some y=>
     simp only[h3]
   |_=>cases (ev v).cells?<;>rfl
  |_=>cases (ev v).cells?<;>rfl
 case copy sz x y=>
  have h1:=bu x (by simp[aH.args])
  have h2:=bu y (by simp[aH.args])
  have h3:=hn x (by simp[aH.args])
  have h4:=hn y (by simp[aH.args])
  simp only[fe,h1,h2]
  cases hv:ev x with
  |one p=>cases p with
   |sl n s lo len=>
    rw[hv] at h3
    have h3:=h3 n rfl
    cases hc:ev y with
    |one c=>
     rw[hc] at h4
     have h5:cq h' c=cq h c:=AH (u:=fun n=>h' n=h n) (fun n hn=>hn) fun m hm=>h4 m (aj.xJ hm)
     simp only[h3,h5]
    |_=>rfl
   |_=>rfl
  |_=>rfl
 case lE z x=>
  have h1:=bu x (by simp[aH.args])
  have h3:=hn x (by simp[aH.args])
  simp only[fe,h1]
  cases hv:ev x with
  |one p=>cases p with
   |sl n s lo len=>
    rw[hv] at h3
    have h3:=h3 n rfl
    simp only[h3]
   |_=>rfl
  |_=>rfl
 case dT f xs=>
  have hl:xs.map ev'=xs.map ev:=List.map_congr_left bu
  have h2:mr h' (xs.map ev)=mr h (xs.map ev):=Nd fun n bm=>by
   rw[List.flatMap_map] at bm
   exact J7 n bm
  simp only[fe,hl,h2]
  cases e1:mr h (xs.map ev) with
  |none=>rfl
  |some x=>
   obtain⟨ds,ns,u⟩:=x
   try simp only
   cases aT.kQ T.vs f with
   |none=>rfl
   |some M=>
    try simp only
    cases M ds with
    |none=>rfl
    |some z=>
     obtain⟨rs,out⟩:=z
     try simp only
     rw[aqy (h:=dC h u) (h':=dC h' u) fun n bm=>GS (J7 n (by
      have:=(I1 e1).2 n bm
      rw[List.flatMap_map] at this
      exact this)) u]
 case gd sz ps=>
  have hl:ps.map ev'=ps.map ev:=List.map_congr_left bu
  have h2:pu sz h' (ps.map ev)=pu sz h (ps.map ev):=aew fun n bm=>by
   rw[List.flatMap_map] at bm
   exact J7 n bm
  simp only[fe,hl,h2]
 case append fl sz by_ x y=>
  have h1:=bu x (by simp[aH.args])
  have h2:=bu y (by simp[aH.args])
  have h3:=hn x (by simp[aH.args])
  have h4:=hn y (by simp[aH.args])
  have e1:wm h' sz (ev x)=wm h sz (ev x):=by
   cases hv:ev x with
   |one p=>cases p with
    |sl a s lo len=>
     rw[hv] at h3
     cases lo with
     |zero=>simp only[wm,h3 a rfl]
     |succ lo=>rfl
    |_=>rfl
   |_=>rfl
  have e2:∀(us:List (Nat×Option ar)) (m:Mode),uw fl (dC h' us) sz m (ev y)=uw fl (dC h us) sz m (ev y):=by
   intro us m
   cases hv:ev y with
   |one p=>cases p with
    |sl b s lo len=>
     rw[hv] at h4
     have hb:dC h' us b=dC h us b:=by
      by_cases hu:∃p∈us,p.1=b
      ·exact GU hu
      ·rw[oB fun p hp e=>hu ⟨p,hp,e⟩,oB fun p hp e=>hu ⟨p,hp,e⟩]
       exact h4 b rfl
     simp only[uw,hb]
    |c x=>cases x<;>rfl
    |_=>rfl
   |_=>rfl
  simp only[fe,h1,h2,e1,e2]
end
theorem NV {f g:List Nat×List Nat} (h:Ey f g=true) {n:Nat} (h1:n∈f.2) (h2:n∈g.1):False:=by
 simp only[Ey,Bool.and_eq_true,List.all_eq_true] at h
 have:=h.1 n h1
 simp[h2] at this
theorem agf {f g:List Nat×List Nat} (h:Ey f g=true) {n:Nat} (h1:n∈g.2) (h2:n∈f.1):False:=by
 simp only[Ey,Bool.and_eq_true,List.all_eq_true] at h
 have:=h.2 n h1
 simp[h2] at this
theorem C1 {σ:St} (W:Wf σ) {op:aH} (hf:∀a∈op.args,a.flat=true) {n:Nat} (hn:n∈op.jl σ.ev):σ.used n=true:=by
 obtain⟨a,ha,hr⟩:=qd.1 hn
 exact W.arg (hf a ha) n hr
theorem acL {σ:St} (W:Wf σ) {op:aH} (hf:∀a∈op.args,a.flat=true) {n:Nat} (hn:n∈op.mQ σ.ev σ.h):σ.used n=true:=by
 unfold aH.mQ at hn
 cases hc:op.FG with
 |true=>
  rw[hc] at hn
  rcases List.mem_append.1 hn with hn|hn
  ·exact C1 W hf hn
  ·unfold Bz at hn
   rw[List.mem_flatMap] at hn
   obtain⟨m,hm,hn⟩:=hn
   split at hn
   ·rename_i cs hb
    obtain⟨c,hc,hr⟩:=List.mem_flatMap.1 hn
    exact W.box m cs c n hb hc (aj.FU.1 hr)
   ·cases hn
 |false=>rw[hc] at hn;exact C1 W hf hn
section
variable {T:aT} {dx dy:Option Nat} {x y:aH} {σ σ1 σ2:St}
theorem Z5 (W:Wf σ) (kT:∀n,dx=some n->MO.t n∉y.args) (ze:∀a∈y.args,a.flat=true) (uW:∀sz p v,x=.store sz p v->dx=none)
  (hc:x.dL<=1\/y.dL=0) (h1:exec T dx x σ=some σ1):y.fp σ1=y.fp σ:=by
 have sk:=wI uW h1
 have bu:∀a∈y.args,σ1.ev a=σ.ev a:=fun a ha=>by
  cases a with
  |t n=>show σ1.env n=σ.env n;rw[sk];exact rp fun pP=>kT n pP ha
  |k v=>rfl
 rcases hc with hc|hc
 ·rw[pG T dx x σ hc] at h1
  have hh:∀n∈y.jl σ.ev,σ1.h n=σ.h n:=by
   intro n hn
   cases hr:rd T dx x σ.ev σ.h with
   |none=>rw[hr] at h1;cases h1
   |some p=>
    rw[hr] at h1
    simp only[Option.bind_some,fin,Option.map_eq_some_iff] at h1
    obtain⟨A,hA,rfl⟩:=h1
    have:(A.put dx p.1).h=A.h:=by cases dx<;>rfl
    rw[this]
    exact((zD hA).1 n (C1 W ze hn)).2
  unfold aH.fp
  rw[Mc bu hh,Tr bu hh]
 ·unfold aH.fp
  have c1:y.FG=false:=by cases y<;>first|rfl|(simp[aH.dL] at hc)
  have w:∀ev h,y.kM ev h=some []:=by intro ev h;cases y<;>first|rfl|(simp[aH.dL] at hc)
  simp only[w,aH.mQ,c1,cond_false,FT bu]
theorem af4 (W:Wf σ) (hd:∀n,dx=some n->dy≠some n) (kT:∀n,dx=some n->MO.t n∉y.args) (tC:∀n,dy=some n->MO.t n∉x.args)
  (J5:∀a∈x.args,a.flat=true) (ze:∀a∈y.args,a.flat=true)
  (uW:∀sz p v,x=.store sz p v->dx=none) (E8:∀sz p v,y=.store sz p v->dy=none) (hk:Ez (x.fp σ) (y.fp σ1)=true)
  (h1:exec T dx x σ=some σ1) (h2:exec T dy y σ1=some σ2):∃τ,exec T dy y σ=some τ/\exec T dx x τ=some σ2/\y.fp σ1=y.fp σ/\x.fp τ=x.fp σ:=by
 unfold aH.fp at hk
 cases yO:x.kM σ.ev σ.h with
 |none=>rw[yO] at hk;cases hk
 |some wx=>
 cases yP:y.kM σ1.ev σ1.h with
 |none=>rw[yO,yP] at hk;cases hk
 |some wy=>
 rw[yO,yP] at hk
 simp only[Option.map_some,Ez] at hk
 rw[JE yO uW] at h1
 rw[JE yP E8] at h2
 cases Js:fe T dx x σ.ev σ.h with
 |none=>rw[Js] at h1;cases h1
 |some px=>
 obtain⟨vx,ux,nx⟩:=px
 rw[Js] at h1
 simp only[Option.bind_some,wJ,Option.map_eq_some_iff] at h1
 obtain⟨A,hA,rfl⟩:=h1
 have L0:∀q∈ux,q.1∈wx:=XS yO Js
 have Xg:∀q∈ux,σ.used q.1=true:=fun q hq=>C1 W J5 (aeT yO (L0 q hq))
 obtain⟨A',wO,rfl⟩:=QI Xg hA
 obtain⟨oa,ea⟩:=zD wO
 have qW:∀(s:St) (d:Option Nat) (v:ak),(s.put d v).h=s.h:=fun s d v=>by cases d<;>rfl
 have bu:∀a∈y.args,((A'.di ux).put dx vx).ev a=σ.ev a:=fun a ha=>by
  rw[pg,JB fun n hn=>rp fun pP=>kT n pP (hn▸ha)]
  cases a with
  |t n=>show(A'.di ux).env n=σ.env n;rw[mb];show A'.env n=_;rw[ea]
  |k v=>rfl
 have ajo:y.mQ ((A'.di ux).put dx vx).ev ((A'.di ux).put dx vx).h=y.mQ σ.ev σ.h/\y.kM ((A'.di ux).put dx vx).ev ((A'.di ux).put dx vx).h=y.kM σ.ev σ.h:=by
  have hh:∀n∈y.jl σ.ev,((A'.di ux).put dx vx).h n=σ.h n:=fun n hn=>by
   rw[qW,mb]
   show dC A'.h ux n=_
   rw[oB fun p hp e=>NV hk (L0 p hp) (by rw[e];exact KU (by rw[FT bu];exact hn))]
   exact(oa n (C1 W ze hn)).2
  exact⟨Tr bu hh,Mc bu hh⟩
 obtain⟨r1,r2⟩:=ajo
 have hh:∀n∈y.mQ σ.ev σ.h,((A'.di ux).put dx vx).h n=σ.h n:=fun n hn=>by
  rw[qW,mb]
  show dC A'.h ux n=_
  rw[oB fun p hp e=>NV hk (L0 p hp) (by rw[e];show n∈y.mQ _ _;rw[r1];exact hn)]
  exact(oa n (acL W ze hn)).2
 have eay:fe T dy y ((A'.di ux).put dx vx).ev ((A'.di ux).put dx vx).h=fe T dy y σ.ev σ.h:=XR bu hh
 rw[eay] at h2
 rw[r2] at yP
 cases Jt:fe T dy y σ.ev σ.h with
 |none=>rw[Jt] at h2;cases h2
 |some py=>
 obtain⟨vy,uy,ny⟩:=py
 rw[Jt] at h2
 simp only[Option.bind_some,wJ,Option.map_eq_some_iff] at h2
 obtain⟨D,hD,rfl⟩:=h2
 have uyw:∀q∈uy,q.1∈wy:=XS yP Jt
 have uyn:∀q∈uy,q.1∈y.jl σ.ev:=fun q hq=>aeT yP (uyw q hq)
 have Xh:∀q∈uy,σ.used q.1=true:=fun q hq=>C1 W ze (uyn q hq)
 have uyA:∀q∈uy,A'.used q.1=true:=fun q hq=>(oa _ (Xh q hq)).1
 have uxA:∀q∈ux,A'.used q.1=true:=fun q hq=>(oa _ (Xg q hq)).1
 have tt:∀p∈ux,∀q∈uy,p.1≠q.1:=fun p hp q hq e=>NV hk (L0 p hp) (by rw[e];show q.1∈y.mQ _ _;rw[r1];exact KU (uyn q hq))
 rw[pg,aeI,zE,Option.map_eq_some_iff] at hD
 obtain⟨D0,hD0,rfl⟩:=hD
 obtain⟨D1,hD1,rfl⟩:=QI (σ:=A'.di ux) (fun q hq=>by rw[mb];exact uyA q hq) hD0
 obtain⟨F,hF,rfl⟩:=QI uxA hD1
 obtain⟨C',hC,hCF⟩:=QH wO hF
 obtain⟨oc,ec⟩:=zD hC
 have uyC:∀q∈uy,C'.used q.1=true:=fun q hq=>(oc _ (Xh q hq)).1
 have uxC:∀q∈ux,C'.used q.1=true:=fun q hq=>(oc _ (Xg q hq)).1
 have J0:∀a∈x.args,((C'.di uy).put dy vy).ev a=σ.ev a:=fun a ha=>by
  rw[pg,JB fun n hn=>rp fun pP=>tC n pP (hn▸ha)]
  cases a with
  |t n=>show(C'.di uy).env n=σ.env n;rw[mb];show C'.env n=_;rw[ec]
  |k v=>rfl
 have hhx:∀n∈x.mQ σ.ev σ.h,((C'.di uy).put dy vy).h n=σ.h n:=fun n hn=>by
  rw[qW,mb]
  show dC C'.h uy n=_
  rw[oB fun p hp e=>agf hk (uyw p hp) (by rw[e];exact hn)]
  exact(oc n (acL W J5 hn)).2
 have PK:∀n∈x.jl σ.ev,((C'.di uy).put dy vy).h n=σ.h n:=fun n hn=>hhx n (KU hn)
 refine⟨(C'.di uy).put dy vy,?_,?_,?_,?_⟩
 ·rw[JE yP E8,Jt]
  simp only[Option.bind_some,wJ,FE Xh hC,Option.map_some]
 ·rw[JE (ws:=wx) (by rw[Mc J0 PK];exact yO) uW,XR J0 hhx,Js]
  simp only[Option.bind_some,wJ]
  rw[pg,aeI,zE,FE (σ:=C'.di uy) (fun q hq=>by rw[mb];exact uxC q hq) (FE uyC hCF)]
  simp only[Option.map_some]
  rw[pg,pg,asZ tt]
  congr 1
  have e1:(C'.di uy).env=σ.env:=by rw[mb];exact ec
  have e2:(A'.di ux).env=σ.env:=by rw[mb];exact ea
  show St.we _ (iD (iD (C'.di uy).env dy vy) dx vx)=St.we _ (iD (iD (A'.di ux).env dx vx) dy vy)
  rw[e1,e2,K9 σ.env _ _ hd]
  rfl
 ·unfold aH.fp
  rw[r1,r2]
 ·unfold aH.fp
  rw[Mc J0 PK,Tr J0 PK]
end
end Go.Am
end
section
namespace Go.Am
def Er (x y:bV):Bool:=x.op.dL==0||y.op.dL==0||(decide (x.op.dL<=1)&&decide (y.op.dL<=1))
def Et (x y:bV):Bool:=
 (match x.dst with|some d=>y.tU d&&(match y.dst with|some e=>e !=d|none=>true)|none=>true)&&
 (match y.dst with|some d=>x.tU d|none=>true)&&x.qM&&y.qM
theorem af5 {T:aT} {x y:bV} {σ σ1 σ2:St} (W:Wf σ) (hc:Et x y=true) (hk:Er x y=true\/Ez (x.fp σ) (y.fp σ1)=true) (h1:ed T x σ=some σ1) (h2:ed T y σ1=some σ2):
  ∃τ,ed T y σ=some τ/\ed T x τ=some σ2/\y.fp σ1=y.fp σ/\x.fp τ=x.fp σ:=by
 simp only[Et,Bool.and_eq_true] at hc
 obtain⟨⟨⟨c1,c2⟩,c3⟩,c4⟩:=hc
 rw[BQ] at h1 h2
 cases ex:mZ x σ.env with
 |none=>rw[ex] at h1;cases h1
 |some jH=>
  rw[ex] at h1
  have h1:exec T x.dst jH σ=some σ1:=h1
  have jx:jH=x.op\/jH=.mv (.k (.br [])):=Ju ex
  have Az:∀sz p v,jH=.store sz p v->x.dst=none:=by
   intro sz p v he
   rcases jx with rfl|rfl
   ·simp only[bV.qM,Bool.and_eq_true,he] at c3;simpa using c3.2
   ·cases he
  have sk:=wI Az h1
  have Ql:∀s w,y.guard=some (s,w)->x.dst≠some s:=by
   intro s w hg hd
   rw[hd] at c1
   simp[bV.tU,hg] at c1
  have Kl:∀s w,x.guard=some (s,w)->y.dst≠some s:=by
   intro s w hg hd
   rw[hd] at c2
   simp[bV.tU,hg] at c2
  have JG:mZ y σ1.env=mZ y σ.env:=EA fun s w hg=>by rw[sk];exact rp (Ql s w hg)
  rw[JG] at h2
  cases ey:mZ y σ.env with
  |none=>rw[ey] at h2;cases h2
  |some jn=>
   rw[ey] at h2
   have h2:exec T y.dst jn σ1=some σ2:=h2
   have jy:jn=y.op\/jn=.mv (.k (.br [])):=Ju ey
   have xW:∀sz p v,jn=.store sz p v->y.dst=none:=by
    intro sz p v he
    rcases jy with rfl|rfl
    ·simp only[bV.qM,Bool.and_eq_true,he] at c4;simpa using c4.2
    ·cases he
   have EL:∀a∈jH.args,a.flat=true:=by
    rcases jx with rfl|rfl
    ·simp only[bV.qM,Bool.and_eq_true,List.all_eq_true] at c3;exact c3.1
    ·intro a ha;simp[aH.args] at ha;subst ha;rfl
   have EM:∀a∈jn.args,a.flat=true:=by
    rcases jy with rfl|rfl
    ·simp only[bV.qM,Bool.and_eq_true,List.all_eq_true] at c4;exact c4.1
    ·intro a ha;simp[aH.args] at ha;subst ha;rfl
   have kT:∀n,x.dst=some n->MO.t n∉jn.args:=by
    intro n hd
    rcases jy with rfl|rfl
    ·rw[hd] at c1
     simp only[Bool.and_eq_true] at c1
     exact bV.KV c1.1
    ·simp[aH.args]
   have tC:∀n,y.dst=some n->MO.t n∉jH.args:=by
    intro n hd
    rcases jx with rfl|rfl
    ·rw[hd] at c2
     exact bV.KV c2
    ·simp[aH.args]
   have tt:∀n,x.dst=some n->y.dst≠some n:=by
    intro n hd he
    rw[hd,he] at c1
    simp at c1
   have yfp:y.fp σ1=jn.fp σ1:=by unfold bV.fp;rw[JG,ey]
   have ati:y.fp σ=jn.fp σ:=by unfold bV.fp;rw[ey]
   have aeU:x.fp σ=jH.fp σ:=by unfold bV.fp;rw[ex]
   have xfp:∀τ,exec T y.dst jn σ=some τ->x.fp τ=jH.fp τ:=by
    intro τ t1
    unfold bV.fp
    rw[EA (e:=σ.env) (fun s w hg=>by rw[wI xW t1];exact rp (Kl s w hg)),ex]
   have fin:(∃τ,exec T y.dst jn σ=some τ/\exec T x.dst jH τ=some σ2/\jn.fp σ1=jn.fp σ/\jH.fp τ=jH.fp σ)->∃τ,ed T y σ=some τ/\ed T x τ=some σ2/\y.fp σ1=y.fp σ/\x.fp τ=x.fp σ:=by
    rintro⟨τ,t1,t2,t3,t4⟩
    refine⟨τ,?_,?_,?_,?_⟩
    ·rw[BQ,ey];exact t1
    ·rw[BQ,EA (e:=σ.env) (fun s w hg=>by rw[wI xW t1];exact rp (Kl s w hg)),ex];exact t2
    ·rw[yfp,ati,t3]
    ·rw[xfp τ t1,aeU,t4]
   apply fin
   rcases hk with c5|hk
   ·have bT:jH.dL=0\/jn.dL=0\/(jH.dL<=1/\jn.dL<=1):=by
     rcases jx with rfl|rfl
     ·rcases jy with rfl|rfl
      ·simp only[Er,Bool.or_eq_true,beq_iff_eq,Bool.and_eq_true,decide_eq_true_eq,or_assoc] at c5
       exact c5
      ·exact .inr (.inl rfl)
     ·exact .inl rfl
    obtain⟨τ,t1,t2⟩:=YJ W tt kT tC EL EM Az xW bT h1 h2
    refine⟨τ,t1,t2,Z5 W kT EM Az (by omega) h1,Z5 W tC EL xW (by omega) t1⟩
   ·rw[yfp,aeU] at hk
    exact af4 W tt kT tC EL EM Az xW hk h1 h2
def Eb (T:aT) (ms:List bV) (F:Nat->Option FP):List Nat->St->St->Prop
 |[],σ,jt=>σ=jt
 |i::L,σ,jt=>∃m σ1,ms[i]? =some m/\F i=m.fp σ/\ed T m σ=some σ1/\Eb T ms F L σ1 jt
def XN (F:Nat->Option FP) (ms:List bV) (i j:Nat) (m:bV):Prop:=∃mj,ms[j]? =some mj/\Et mj m=true/\(Er mj m=true\/Ez (F j) (F i)=true)
structure Xs (F:Nat->Option FP) (ops:Array Oper) (ms:List bV):Prop where
 back:∀(i:Nat) (o:Oper),ops[i]? =some o->∀e∈o.after,Region.binds .any e=true->e.on<i
 pair:∀(i j:Nat) (o:Oper) (m:bV),ops[i]? =some o->ms[i]? =some m->j<i->vT ops i j\/XN F ms i j m
section
variable {B:Nat} {E:Ex} {w0 w w':World} {G G':Gh} {N:Nat}
variable {P:Program} {T:aT} {o:Oper} {mo:bV} {a:Act} {σ σ':St} {Q:Exit->Act->World->Prop} {ops:Array Oper}
theorem ac6 (hT:oG P T) {ms:List bV} {F:Nat->Option FP} (r8:∀(i:Nat) (m:bV),ms[i]? =some m->∃o,ops[i]? =some o/\uD P N ops o m=true) {i:Nat} {mi:bV} (hi:ms[i]? =some mi) {post:List Nat} {jt:St}:
  ∀{pre:List Nat} {σ:St},HC B E w0 N σ->Eb T ms F (pre++i::post) σ jt->(∀j∈pre,XN F ms i j mi)->
  ∃τ,F i=mi.fp σ/\ed T mi σ=some τ/\Eb T ms F (pre++post) τ jt
 |[],σ,hr,hx,hc=>by
  obtain⟨m,σ1,h1,h2,h3,h4⟩:=hx
  rw[hi] at h1
  injection h1 with h1
  subst h1
  exact⟨σ1,h2,h3,h4⟩
 |j::pre,σ,hr,hx,hc=>by
  obtain⟨mj,σ1,k1,k2,k3,k4⟩:=hx
  obtain⟨mj',hj,nQ,bT⟩:=hc j (by simp)
  rw[k1] at hj
  injection hj with hj
  subst hj
  obtain⟨oj,_,gG⟩:=r8 j mj k1
  obtain⟨pw,t0,t1,t2⟩:=ac6 hT r8 hi (acS hr hT gG k3) k4 (fun k hk=>hc k (by simp[hk]))
  obtain⟨a,w,G,r⟩:=hr
  rw[k2,t0] at bT
  obtain⟨τ,s1,s2,s3,s4⟩:=af5 r.wf nQ bT k3 t1
  exact⟨τ,by rw[t0,s3],s1,mj,pw,k1,by rw[s4];exact k2,s2,t2⟩
theorem atg (hT:oG P T) {ms:List bV} {F:Nat->Option FP} (r8:∀(i:Nat) (m:bV),ms[i]? =some m->∃o,ops[i]? =some o/\uD P N ops o m=true) (hlen:ms.length=ops.size) (hd:Xs F ops ms) {jt:St}
  (hQ:∀a w G,R B E w0 N jt a w G->Q .normal a w):
  ∀(iM:Nat) (L:List Nat) (de:Array Bool) (σ:St) (a:Act) (w:World) (G:Gh),R B E w0 N σ a w G->Eb T ms F L σ jt->L.Pairwise (·<·)->L.length<=iM->de.size=ops.size->
   (∀j,j∈L↔de.getD j true=false)->Mh ops de->wpAny P .any ops Q iM de a w:=by
 have first:∀(L:List Nat) (de:Array Bool),L.Pairwise (·<·)->de.size=ops.size->(∀j,j∈L↔de.getD j true=false)->Region.ready .any ops de=[]->L=[]:=by
  intro L de hp hs hL hr
  cases L with
  |nil=>rfl
  |cons j L=>
   exfalso
   have hj:=(hL j).1 (by simp)
   have lJ:j<ops.size:=by
    rw[<-hs]
    rcases Nat.lt_or_ge j de.size with h|h
    ·exact h
    ·simp[Array.getElem?_eq_none h] at hj
   have ho:ops[j]? =some ops[j]:=Array.getElem?_eq_getElem lJ
   have:j∈Region.ready .any ops de:=by
    rw[mem_ready]
    refine⟨hj,_,ho,fun e he hb=>?_⟩
    have bK:=hd.back j _ ho e he hb
    have oP:e.on∉j::L:=by
     intro hm
     cases hm with
     |head=>omega
     |tail _ hm=>have:=(List.pairwise_cons.1 hp).1 _ hm;omega
    have aD:de.getD e.on true≠false:=fun h=>oP ((hL e.on).2 h)
    have pQ:e.on<de.size:=by omega
    simp[pQ] at aD⊢
    exact aD
   rw[hr] at this
   cases this
 intro iM
 induction iM with
 |zero=>
  intro L de σ a w G r hx hp hl hs hL hC
  have r7:L=[]:=List.eq_nil_of_length_eq_zero (by omega)
  subst r7
  have hx:σ=jt:=hx
  subst hx
  refine⟨?_,hQ _ _ _ r⟩
  cases hr:Region.ready .any ops de with
  |nil=>rfl
  |cons i l=>
   have hm:i∈Region.ready .any ops de:=by rw[hr];simp
   have:=(hL i).2 (mem_ready.1 hm).1
   cases this
 |succ iM ih=>
  intro L de σ a w G r hx hp hl hs hL hC
  refine⟨fun hr=>?_,fun i hi=>?_⟩
  ·have r7:=first L de hp hs hL hr
   subst r7
   have hx:σ=jt:=hx
   subst hx
   exact hQ _ _ _ r
  ·obtain⟨PN,oi,kv,E0⟩:=mem_ready.1 hi
   have qU:i∈L:=(hL i).2 PN
   obtain⟨pre,post,rfl⟩:=List.append_of_mem qU
   have his:i<ops.size:=(Array.getElem?_eq_some_iff.1 kv).1
   have zm:ms[i]? =some ms[i]:=List.getElem?_eq_getElem (by omega)
   obtain⟨o',gU,Py⟩:=r8 i _ zm
   rw[kv] at gU
   injection gU with gU
   subst gU
   have fm:=List.pairwise_append.1 hp
   obtain⟨τ,t0,t1,t2⟩:=ac6 (ops:=ops) hT r8 zm ⟨a,w,G,r⟩ hx (fun j hj=>by
    have sd:j<i:=fm.2.2 j hj i (by simp)
    rcases hd.pair i j oi _ kv zm sd with Pn|h
    ·have h1:=Yd hC Pn (fun o ho e he hb=>by
      rw[kv] at ho
      injection ho with ho
      subst ho
      have h1:=E0 e he hb
      have bK:=hd.back i _ kv e he hb
      have pQ:e.on<de.size:=by omega
      simp[pQ] at h1⊢
      exact h1)
     have h2:=(hL j).1 (by simp[hj])
     rw[h1] at h2
     cases h2
    ·exact h)
   have zt:∀a' w',Nx B E w0 N τ a' w'->wpAny P .any ops Q iM (de.setIfInBounds i true) a' w':=by
    rintro a' w' ⟨G',r'⟩
    refine ih (pre++post) _ τ a' w' G' r' t2 ?_ (by simp at hl⊢;omega) (by simpa using hs) (fun j=>?_) (fun k o ho hk e he hb=>?_)
    ·rw[List.pairwise_append]
     exact⟨fm.1,(List.pairwise_cons.1 fm.2.1).2,fun x hx y hy=>fm.2.2 x hx y (by simp[hy])⟩
    ·by_cases sd:j=i
     ·subst sd
      have lJ:j<de.size:=by omega
      simp only[List.mem_append]
      constructor
      ·rintro(h|h)
       ·have:=fm.2.2 j h j (by simp);omega
       ·have:=(List.pairwise_cons.1 fm.2.1).1 j h;omega
      ·intro h
       simp[lJ] at h
     ·rw[getD_set_ne true (Ne.symm sd),<-hL j]
      simp[sd]
    ·have Fg:∀q,de.getD q true=true->(de.setIfInBounds i true).getD q true=true:=by
      intro q hq
      by_cases nc:q=i
      ·subst nc
       have:q<de.size:=by omega
       simp[this]
      ·rw[getD_set_ne true (Ne.symm nc)];exact hq
     by_cases zh:k=i
     ·subst zh
      rw[kv] at ho
      injection ho with ho
      subst ho
      have h1:=E0 e he hb
      have bK:=hd.back k _ kv e he hb
      have pQ:e.on<de.size:=by omega
      refine Fg _ ?_
      simp[pQ] at h1⊢
      exact h1
     ·rw[getD_set_ne true (Ne.symm zh)] at hk
      exact Fg _ (hC k o ho hk e he hb)
   unfold wpOp
   rw[kv]
   simp only
   rcases JD (Q:=Q) r hT Py t1 with⟨hw,h⟩|⟨hw,h⟩
   ·rw[if_pos hw]
    exact .inl (Oper.wp_mono zt h)
   ·rw[if_neg (by simp[hw])]
    exact zt _ _ h
def Jc (ps:List (Nat×Nat)) (ops:List Oper) (ms:List bV):Bool:=
 (fun ks:List Nat=>(List.range ops.length).all fun i=>match ops[i]?,ms[i]? with
  |some o,some m=>(o.after.toList.all fun e=> !Region.binds .any e||decide (e.on<i))&&
   (List.range i).all fun j=>(ks.getD i 0).testBit j||(match ms[j]? with|some mj=>Et mj m&&(Er mj m||ps.contains (j,i))|none=>false)
  |_,_=>false) (CT ops [])
theorem afP {ps:List (Nat×Nat)} {ms:List bV} {fs:List (Option FP)} (h:Jc ps ops.toList ms=true) (hp:xE ps fs=true):Xs (fun i=>fs.getD i none) ops ms:=by
  simp only[Jc,List.all_eq_true,List.mem_range] at h
  have bZ:∀(i:Nat) (o:Oper),ops[i]? =some o->∃m,ms[i]? =some m/\(o.after.toList.all fun e=> !Region.binds .any e||decide (e.on<i))=true/\
        ∀j,j<i->(((CT ops.toList []).getD i 0).testBit j||(match ms[j]? with|some mj=>Et mj m&&(Er mj m||ps.contains (j,i))|none=>false))=true:=by
    intro i o ho
    have hi:i<ops.toList.length:=by simpa using(Array.getElem?_eq_some_iff.1 ho).1
    have hi':=h i hi
    have gU:ops.toList[i]? =some o:=by simpa using ho
    rw[gU] at hi'
    cases hm:ms[i]? with
    |none=>rw[hm] at hi';cases hi'
    |some m=>
     rw[hm] at hi'
     simp only[Bool.and_eq_true,List.all_eq_true,List.mem_range] at hi'
     exact⟨m,rfl,by rw[List.all_eq_true];exact hi'.1,hi'.2⟩
  refine⟨fun i o ho e he hb=>?_,fun i j o m ho hm hj=>?_⟩
  · obtain⟨m,_,k1,_⟩:=bZ i o ho
    have:=List.all_eq_true.1 k1 e (Array.mem_toList_iff.2 he)
    simp[hb] at this
    exact this
  · obtain⟨m',bO,_,k2⟩:=bZ i o ho
    rw[hm] at bO
    injection bO with bO
    subst bO
    have:=k2 j hj
    rw[Bool.or_eq_true] at this
    rcases this with h1|h1
    · exact .inl (RG ops.toList [] [] rfl rfl (by intro i k hb;simp at hb) i j h1)
    · cases Cb:ms[j]? with
      |none=>rw[Cb] at h1;cases h1
      |some mj=>
       rw[Cb] at h1
       simp only[Bool.and_eq_true,Bool.or_eq_true] at h1
       refine .inr ⟨mj,Cb,h1.1,?_⟩
       rcases h1.2 with h2|h2
       · exact .inl h2
       · refine .inr ?_
         have:=List.all_eq_true.1 hp (j,i) (by simpa using h2)
         exact this
theorem ZA {ms:List bV}:∀(post pre:List bV) (σ jt:St) (fs c6:List (Option FP)),ms=pre++post->c6.length=pre.length->m4 T post c6 σ=some (fs,jt)->
  c6=fs.take c6.length/\Eb T ms (fun i=>fs.getD i none) (List.range' pre.length post.length) σ jt
 |[],pre,σ,jt,fs,c6,he,hl,hx=>by
  simp only[m4] at hx
  injection hx with hx
  injection hx with h1 h2
  subst h1 h2
  exact⟨by simp,rfl⟩
 |m::post,pre,σ,jt,fs,c6,he,hl,hx=>by
  simp only[m4] at hx
  split at hx
  ·rename_i σ1 e1
   obtain⟨h1,h2⟩:=ZA (ms:=ms) post (pre++[m]) σ1 jt fs (c6++[m.fp σ]) (by simp[he]) (by simp[hl]) hx
   have h3:fs[c6.length]? =some (m.fp σ):=by
    have:(fs.take (c6++[m.fp σ]).length)[c6.length]? =some (m.fp σ):=by rw[<-h1];simp
    rw[List.getElem?_take] at this
    split at this
    ·exact this
    ·cases this
   have h4:c6=fs.take c6.length:=by
    have:=congrArg (List.take c6.length) h1
    simpa[List.take_take] using this
   refine⟨h4,m,σ1,?_,?_,e1,?_⟩
   ·rw[he,List.getElem?_append_right (Nat.le_refl _),Nat.sub_self];rfl
   ·show fs.getD pre.length none=_
    rw[<-hl,List.getD_eq_getElem?_getD,h3];rfl
   ·simpa using h2
  ·cases hx
theorem aqO (hT:oG P T) (hm:P.follows .mixedOrders=true) {id:Nat} {ps:List (Nat×Nat)} {ms:List bV} {fs:List (Option FP)} (hc:pD P N ops ops.toList ms=true) (hd:Jc ps ops.toList ms=true)
  (hx:m4 T ms [] σ=some (fs,σ')) (hp:xE ps fs=true) (r:R B E w0 N σ a w G) (hQ:∀a w G,R B E w0 N σ' a w G->Q .normal a w):(Code.region id ops true).wp P Q a w:=by
 obtain⟨k1,k2⟩:=NC hc
 have hlen:ms.length=ops.size:=by simpa using k1
 refine wp_region_any hm (atg (B:=B) (E:=E) (w0:=w0) (N:=N) hT (fun i m h=>by
  obtain⟨o,h1,h2⟩:=k2 i m h;exact⟨o,by simpa using h1,h2⟩) hlen (afP hd hp) hQ ops.size (List.range ops.size) _ σ a _ G (r.drawn _) ?_ ?_ (by simp) (by simp) (fun j=>?_) (fun k o ho hk=>?_))
 ·have:=(ZA (T:=T) (ms:=ms) ms [] σ σ' fs [] rfl rfl hx).2
  simp only[List.length_nil,hlen,<-List.range_eq_range'] at this
  exact this
 ·exact List.pairwise_lt_range
 ·rw[List.mem_range]
  constructor
  ·intro h;simp[h]
  ·intro h
   rcases Nat.lt_or_ge j ops.size with h'|h'
   ·exact h'
   ·simp[Array.getElem?_eq_none (show(Array.replicate ops.size false).size<=j by simpa using h')] at h
 ·exfalso
  have PS:k<ops.size:=(Array.getElem?_eq_some_iff.1 ho).1
  simp[PS] at hk
end
end Go.Am
end
