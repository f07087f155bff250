/- Am20: two operations change places. No condition. -/
import Derived.Test.YtbgmbplglejidaaAm19
set_option linter.unusedVariables false
namespace Go.Am
def iD (e:Nat->ak) (d:Option Nat) (v:ak):Nat->ak:=
 match d with
 |some n=>aA e n v
 |none=>e
theorem pg (σ:St) (d:Option Nat) (v:ak):σ.put d v=σ.we (iD σ.env d v):=by cases d<;>rfl
theorem rp {e:Nat->ak} {d:Option Nat} {v:ak} {n:Nat} (h:d≠some n):iD e d v n=e n:=by
 cases d with
 |none=>rfl
 |some m=>exact cE _ _ _ _ (fun he=>h (by rw[he]))
theorem K9 (e:Nat->ak) {d d':Option Nat} (v v':ak) (h:∀n,d=some n->d'≠some n):iD (iD e d v) d' v'=iD (iD e d' v') d v:=by
 cases d with
 |none=>rfl
 |some n=>cases d' with
  |none=>rfl
  |some m=>
   have aD:m≠n:=fun he=>h n rfl (by rw[he])
   funext k
   simp only[iD,jr]
   by_cases h1:k=m
   ·by_cases h2:k=n
    ·omega
    ·simp[h1,aD]
   ·by_cases h2:k=n
    ·simp[h2,Ne.symm aD]
    ·simp[h1,h2]
def aeL (d:Option Nat) (x:Nat->ak):ak:=
 match d with
 |some n=>x n
 |none=>.one .bq
theorem Xe (e:Nat->ak) (d:Option Nat) (x:Nat->ak):vQ e d x=iD e d (aeL d x):=by cases d<;>rfl
theorem akV {σ σ1 σ2:St} {n m:Nat} {b c:ar} (h1:σ.ins n b=some σ1) (h2:σ1.ins m c=some σ2):∃τ,σ.ins m c=some τ/\τ.ins n b=some σ2:=by
 obtain⟨u1,rfl⟩:=mN h1
 obtain⟨u2,rfl⟩:=mN h2
 have aD:m≠n:=fun e=>by subst e;simp[bN] at u2
 have um:σ.used m=false:=by simpa[cE _ _ _ _ aD] using u2
 have un:aA σ.used m true n=false:=by rw[cE _ _ _ _ (Ne.symm aD)];exact u1
 refine⟨_,by unfold St.ins;rw[if_neg (by simp[um])],?_⟩
 unfold St.ins
 simp only[un,Bool.false_eq_true,if_false]
 congr 2<;>(funext k;simp only[jr];by_cases h1:k=m<;>by_cases h2:k=n<;>simp_all)
theorem abb {m:Nat} {c:ar}:∀{A:List (Nat×ar)} {σ σ1 σ2:St},σ.cM A=some σ1->σ1.ins m c=some σ2->∃τ,σ.ins m c=some τ/\τ.cM A=some σ2
 |[],σ,σ1,σ2,h1,h2=>by
  simp only[St.cM] at h1
  injection h1 with h1
  subst h1
  exact⟨σ2,h2,rfl⟩
 |(n,b)::A,σ,σ1,σ2,h1,h2=>by
  simp only[St.cM] at h1
  split at h1
  ·rename_i kg e
   obtain⟨τ,t1,t2⟩:=abb h1 h2
   obtain⟨Xq,s1,s2⟩:=akV e t1
   exact⟨Xq,s1,by simp only[St.cM,s2];exact t2⟩
  ·cases h1
theorem QH:∀{Bs A:List (Nat×ar)} {σ σ1 σ2:St},σ.cM A=some σ1->σ1.cM Bs=some σ2->∃τ,σ.cM Bs=some τ/\τ.cM A=some σ2
 |[],A,σ,σ1,σ2,h1,h2=>by
  simp only[St.cM] at h2
  injection h2 with h2
  subst h2
  exact⟨σ,rfl,h1⟩
 |(m,c)::Bs,A,σ,σ1,σ2,h1,h2=>by
  simp only[St.cM] at h2
  split at h2
  ·rename_i g9 e
   obtain⟨τ,t1,t2⟩:=abb h1 e
   obtain⟨Xq,s1,s2⟩:=QH t2 h2
   exact⟨Xq,by simp only[St.cM,t1];exact s1,s2⟩
  ·cases h2
theorem zD:∀{A:List (Nat×ar)} {σ σ1:St},σ.cM A=some σ1->(∀n,σ.used n=true->σ1.used n=true/\σ1.h n=σ.h n)/\σ1.env=σ.env
 |[],σ,σ1,h1=>by
  simp only[St.cM] at h1
  injection h1 with h1
  subst h1
  exact⟨fun n hn=>⟨hn,rfl⟩,rfl⟩
 |(m,c)::A,σ,σ1,h1=>by
  simp only[St.cM] at h1
  split at h1
  ·rename_i kg e
   obtain⟨u1,rfl⟩:=mN e
   obtain⟨t1,t2⟩:=zD h1
   refine⟨fun n hn=>?_,t2⟩
   have aD:n≠m:=fun he=>by subst he;rw[u1] at hn;cases hn
   obtain⟨s1,s2⟩:=t1 n (rI _ _ hn)
   exact⟨s1,by rw[s2];exact cE _ _ _ _ aD⟩
  ·cases h1
structure Wf (σ:St):Prop where
 env:∀s m,(σ.env s).ref m->σ.used m=true
 box:∀m cs c n,σ.h m=some (.box cs)->c∈cs->c.ref n->σ.used n=true
def aj.flat:aj->Bool
 |.c _|.nil _|.bq=>true
 |_=>false
def MO.flat:MO->Bool
 |.t _=>true
 |.k (.one c)=>c.flat
 |.k (.agg cs)=>cs.all aj.flat
 |.k (.br xs)=>xs.isEmpty
theorem aj.ZU {c:aj} (h:c.flat=true) (m:Nat):¬c.ref m:=by
 cases c<;>first|exact id|(simp[aj.flat] at h)
theorem Wf.arg {σ:St} (W:Wf σ) {x:MO} (hx:x.flat=true) (m:Nat) (hm:(σ.ev x).ref m):σ.used m=true:=by
 cases x with
 |t n=>exact W.env n m hm
 |k v=>cases v with
  |one c=>exact absurd hm (aj.ZU hx m)
  |agg cs=>
   obtain⟨c,hc,hm⟩:=hm
   exact absurd hm (aj.ZU (List.all_eq_true.1 hx c hc) m)
  |br xs=>
   have:xs=[]:=by simpa[MO.flat] using hx
   subst this
   obtain⟨c,hc,_⟩:=hm
   cases hc
theorem acO (T:aT) (d:Option Nat) (op:aH) (ev:MO->ak) (h:Nat->Option ar) (hc:op.dL=0) {x:ak×List (Nat×ar)} (hx:rd T d op ev h=some x):x.2=[]:=by
 cases op<;>simp[aH.dL] at hc<;>simp only[rd] at hx
 all_goals
  repeat' split at hx
  all_goals first|(cases hx;rfl)|(cases hx)
theorem JB {σ:St} {e:Nat->ak} {x:MO} (h:∀n,x=.t n->e n=σ.env n):(σ.we e).ev x=σ.ev x:=by
 cases x with
 |t n=>exact h n rfl
 |k v=>rfl
section
variable {T:aT} {dx dy:Option Nat} {x y:aH} {σ σ1 σ2:St}
theorem wI (uW:∀sz p v,x=.store sz p v->dx=none) (h1:exec T dx x σ=some σ1):σ1.env=iD σ.env dx (aeL dx σ1.env):=by
 have h:=NZ T dx x σ σ.env (fun _ _=>rfl) uW
 rw[atb,h1] at h
 simp only[Option.map_some] at h
 injection h with h
 rw[<-Xe]
 calc σ1.env=(σ1.we (vQ σ.env dx σ1.env)).env:=by rw[<-h]
  _=_:=rfl
theorem YJ (W:Wf σ) (hd:∀n,dx=some n->dy≠some n) (kT:∀n,dx=some n->MO.t n∉y.args) (tC:∀n,dy=some n->MO.t n∉x.args)
  (J5:∀a∈x.args,a.flat=true) (ze:∀a∈y.args,a.flat=true)
  (uW:∀sz p v,x=.store sz p v->dx=none) (E8:∀sz p v,y=.store sz p v->dy=none) (atn:x.dL=0\/y.dL=0\/(x.dL<=1/\y.dL<=1))
  (h1:exec T dx x σ=some σ1) (h2:exec T dy y σ1=some σ2):∃τ,exec T dy y σ=some τ/\exec T dx x τ=some σ2:=by
 have aaO:∀(e:Nat->ak) (v:ak) (s:St),∀a∈y.args,(s.we (iD s.env dx v)).ev a=s.ev a:=fun e v s a ha=>JB fun n hn=>rp fun pP=>kT n pP (hn▸ha)
 have aaM:∀(e:Nat->ak) (v:ak) (s:St),∀a∈x.args,(s.we (iD s.env dy v)).ev a=s.ev a:=fun e v s a ha=>JB fun n hn=>rp fun pP=>tC n pP (hn▸ha)
 by_cases cx:x.dL=0
 ·rw[pG T dx x σ (by omega)] at h1
  cases hr:rd T dx x σ.ev σ.h with
  |none=>rw[hr] at h1;cases h1
  |some p=>
   obtain⟨v,bs⟩:=p
   have hb:bs=[]:=acO T dx x _ _ cx hr
   subst hb
   rw[hr] at h1
   simp only[Option.bind_some,fin,St.cM,Option.map_some] at h1
   injection h1 with h1
   rw[pg] at h1
   subst h1
   rw[NZ T dy y σ _ (aaO σ.env v σ) E8] at h2
   cases hy:exec T dy y σ with
   |none=>rw[hy] at h2;cases h2
   |some τ=>
    rw[hy] at h2
    simp only[Option.map_some] at h2
    injection h2 with h2
    refine⟨τ,rfl,?_⟩
    have sk:=wI E8 hy
    rw[pG T dx x τ (by omega),acP T dx x τ.ev σ.h τ.h cx,Dc T dx x (ev:=σ.ev) (ev':=τ.ev) σ.h (fun a ha=>by
     cases a with
     |t n=>
      show τ.env n=σ.env n
      rw[sk]
      exact rp fun pP=>tC n pP ha
     |k v=>rfl),hr]
    simp only[Option.bind_some,fin,St.cM,Option.map_some]
    rw[<-h2,pg]
    congr 1
    have:iD τ.env dx v=vQ (iD σ.env dx v) dy τ.env:=by
     rw[Xe,K9 σ.env _ _ hd]
     rw[<-sk]
    rw[this]
 ·by_cases cy:y.dL=0
  ·rw[pG T dy y σ1 (by omega)] at h2
   cases hr:rd T dy y σ1.ev σ1.h with
   |none=>rw[hr] at h2;cases h2
   |some p=>
    obtain⟨v,bs⟩:=p
    have hb:bs=[]:=acO T dy y _ _ cy hr
    subst hb
    rw[hr] at h2
    simp only[Option.bind_some,fin,St.cM,Option.map_some] at h2
    injection h2 with h2
    have sk:=wI uW h1
    refine⟨σ.put dy v,?_,?_⟩
    ·rw[pG T dy y σ (by omega),acP T dy y σ.ev σ1.h σ.h cy,Dc T dy y (ev:=σ1.ev) (ev':=σ.ev) σ1.h (fun a ha=>by
      cases a with
      |t n=>
       show σ.env n=σ1.env n
       rw[sk]
       exact(rp fun pP=>kT n pP ha).symm
      |k v=>rfl),hr]
     rfl
    ·rw[pg,NZ T dx x σ _ (aaM σ.env v σ) uW,h1]
     simp only[Option.map_some]
     rw[<-h2,pg]
     congr 2
     rw[Xe,<-K9 σ.env _ _ hd,<-sk]
  ·have YW:x.dL<=1:=by omega
   have YX:y.dL<=1:=by omega
   rw[pG T dx x σ YW] at h1
   cases hr:rd T dx x σ.ev σ.h with
   |none=>rw[hr] at h1;cases h1
   |some p=>
    obtain⟨v,A⟩:=p
    rw[hr] at h1
    simp only[Option.bind_some,fin] at h1
    cases hA:σ.cM A with
    |none=>rw[hA] at h1;cases h1
    |some x4=>
     rw[hA] at h1
     simp only[Option.map_some] at h1
     injection h1 with h1
     rw[pg] at h1
     subst h1
     obtain⟨oa,ea⟩:=zD hA
     rw[pG T dy y _ YX] at h2
     have hry:rd T dy y (x4.we (iD x4.env dx v)).ev (x4.we (iD x4.env dx v)).h=rd T dy y σ.ev σ.h:=by
      rw[Dc T dy y (ev:=σ.ev) _ (fun a ha=>by rw[aaO σ.env v x4 a ha];cases a with
       |t n=>show x4.env n=σ.env n;rw[ea]
       |k v=>rfl)]
      exact acM (u:=fun n=>σ.used n=true) T dy y σ.ev (fun n hn=>(oa n hn).2) W.box (fun a ha m hm=>W.arg (ze a ha) m hm)
     rw[hry] at h2
     cases Fo:rd T dy y σ.ev σ.h with
     |none=>rw[Fo] at h2;cases h2
     |some q=>
      obtain⟨v2,Bs⟩:=q
      rw[Fo] at h2
      simp only[Option.bind_some,fin,zE] at h2
      cases hB:x4.cM Bs with
      |none=>rw[hB] at h2;cases h2
      |some aeW=>
       rw[hB] at h2
       simp only[Option.map_some] at h2
       injection h2 with h2
       obtain⟨x5,b1,b2⟩:=QH hA hB
       obtain⟨ob,eb⟩:=zD b1
       obtain⟨oab,eab⟩:=zD hB
       refine⟨x5.put dy v2,?_,?_⟩
       ·rw[pG T dy y σ YX,Fo]
        simp[fin,b1]
       ·rw[pg,pG T dx x _ YW]
        have hrx:rd T dx x (x5.we (iD x5.env dy v2)).ev (x5.we (iD x5.env dy v2)).h=rd T dx x σ.ev σ.h:=by
         rw[Dc T dx x (ev:=σ.ev) _ (fun a ha=>by rw[aaM σ.env v2 x5 a ha];cases a with
          |t n=>show x5.env n=σ.env n;rw[eb]
          |k v=>rfl)]
         exact acM (u:=fun n=>σ.used n=true) T dx x σ.ev (fun n hn=>(ob n hn).2) W.box (fun a ha m hm=>W.arg (J5 a ha) m hm)
        rw[hrx,hr]
        simp only[Option.bind_some,fin,zE,b2,Option.map_some]
        rw[<-h2,pg,pg]
        congr 1
        show aeW.we (iD (iD x5.env dy v2) dx v)=aeW.we (iD (iD x4.env dx v) dy v2)
        rw[eb,ea,K9 σ.env _ _ hd]
end
theorem BQ (T:aT) (o:bV) (σ:St):ed T o σ=(mZ o σ.env).bind fun op=>exec T o.dst op σ:=by
 unfold ed mZ
 cases hg:o.guard with
 |none=>rfl
 |some g=>
  obtain⟨s,lz⟩:=g
  simp only
  generalize σ.env s=v
  cases v with
  |one c=>cases c with
   |c x=>cases x with
    |bool b=>simp only;split<;>rfl
    |_=>rfl
   |_=>rfl
  |agg cs=>rfl
  |br xs=>cases xs<;>rfl
def bV.tU (o:bV) (n:Nat):Bool:=(o.op.args.all fun a=>match a with|.t m=>m !=n|_=>true)&&(match o.guard with|some (s,_)=>s !=n|none=>true)
def bV.qM (o:bV):Bool:=o.op.args.all MO.flat&&(match o.op with|.store ..=>o.dst.isNone|_=>true)
def BJ (x y:bV):Bool:=
 (match x.dst with|some d=>y.tU d&&(match y.dst with|some e=>e !=d|none=>true)|none=>true)&&
 (match y.dst with|some d=>x.tU d|none=>true)&&x.qM&&y.qM&&(x.op.dL==0||y.op.dL==0||(decide (x.op.dL<=1)&&decide (y.op.dL<=1)))
theorem bV.KV {o:bV} {n:Nat} (h:o.tU n=true):MO.t n∉o.op.args:=by
 intro hm
 simp only[bV.tU,Bool.and_eq_true,List.all_eq_true] at h
 have:=h.1 _ hm
 simp at this
theorem Ju {o:bV} {e:Nat->ak} {op:aH} (h:mZ o e=some op):op=o.op\/op=.mv (.k (.br [])):=by
 unfold mZ at h
 split at h
 ·injection h with h;exact .inl h.symm
 ·split at h
  ·split at h
   ·injection h with h;exact .inl h.symm
   ·injection h with h;exact .inr h.symm
  ·injection h with h;exact .inr h.symm
  ·cases h
theorem EA {o:bV} {e e':Nat->ak} (h:∀s w,o.guard=some (s,w)->e' s=e s):mZ o e'=mZ o e:=by
 unfold mZ
 cases hg:o.guard with
 |none=>rfl
 |some g=>obtain⟨s,w⟩:=g;simp only;rw[h s w hg]
theorem af3 {T:aT} {x y:bV} {σ σ1 σ2:St} (W:Wf σ) (hc:BJ x y=true) (h1:ed T x σ=some σ1) (h2:ed T y σ1=some σ2):
  ∃τ,ed T y σ=some τ/\ed T x τ=some σ2:=by
 simp only[BJ,Bool.and_eq_true] at hc
 obtain⟨⟨⟨⟨c1,c2⟩,c3⟩,c4⟩,c5⟩:=hc
 rw[BQ] at h1 h2
 cases ex:mZ x σ.env with
 |none=>rw[ex] at h1;cases h1
 |some jH=>
  rw[ex] at h1
  have h1:exec T x.dst jH σ=some σ1:=h1
  have jx:jH=x.op\/jH=.mv (.k (.br [])):=Ju ex
  have Az:∀sz p v,jH=.store sz p v->x.dst=none:=by
   intro sz p v he
   rcases jx with rfl|rfl
   ·simp only[bV.qM,Bool.and_eq_true,he] at c3;simpa using c3.2
   ·cases he
  have sk:=wI Az h1
  have Ql:∀s w,y.guard=some (s,w)->x.dst≠some s:=by
   intro s w hg hd
   rw[hd] at c1
   simp[bV.tU,hg] at c1
  have Kl:∀s w,x.guard=some (s,w)->y.dst≠some s:=by
   intro s w hg hd
   rw[hd] at c2
   simp[bV.tU,hg] at c2
  have JG:mZ y σ1.env=mZ y σ.env:=EA fun s w hg=>by rw[sk];exact rp (Ql s w hg)
  rw[JG] at h2
  cases ey:mZ y σ.env with
  |none=>rw[ey] at h2;cases h2
  |some jn=>
   rw[ey] at h2
   have h2:exec T y.dst jn σ1=some σ2:=h2
   have jy:jn=y.op\/jn=.mv (.k (.br [])):=Ju ey
   have xW:∀sz p v,jn=.store sz p v->y.dst=none:=by
    intro sz p v he
    rcases jy with rfl|rfl
    ·simp only[bV.qM,Bool.and_eq_true,he] at c4;simpa using c4.2
    ·cases he
   have EL:∀a∈jH.args,a.flat=true:=by
    rcases jx with rfl|rfl
    ·simp only[bV.qM,Bool.and_eq_true,List.all_eq_true] at c3;exact c3.1
    ·intro a ha;simp[aH.args] at ha;subst ha;rfl
   have EM:∀a∈jn.args,a.flat=true:=by
    rcases jy with rfl|rfl
    ·simp only[bV.qM,Bool.and_eq_true,List.all_eq_true] at c4;exact c4.1
    ·intro a ha;simp[aH.args] at ha;subst ha;rfl
   have kT:∀n,x.dst=some n->MO.t n∉jn.args:=by
    intro n hd
    rcases jy with rfl|rfl
    ·rw[hd] at c1
     simp only[Bool.and_eq_true] at c1
     exact bV.KV c1.1
    ·simp[aH.args]
   have tC:∀n,y.dst=some n->MO.t n∉jH.args:=by
    intro n hd
    rcases jx with rfl|rfl
    ·rw[hd] at c2
     exact bV.KV c2
    ·simp[aH.args]
   have tt:∀n,x.dst=some n->y.dst≠some n:=by
    intro n hd he
    rw[hd,he] at c1
    simp at c1
   have bT:jH.dL=0\/jn.dL=0\/(jH.dL<=1/\jn.dL<=1):=by
    rcases jx with rfl|rfl
    ·rcases jy with rfl|rfl
     ·simp only[Bool.or_eq_true,beq_iff_eq,Bool.and_eq_true,decide_eq_true_eq,or_assoc] at c5
      exact c5
     ·exact .inr (.inl rfl)
    ·exact .inl rfl
   obtain⟨τ,t1,t2⟩:=YJ W tt kT tC EL EM Az xW bT h1 h2
   refine⟨τ,?_,?_⟩
   ·rw[BQ,ey];exact t1
   ·rw[BQ,EA (e:=σ.env) (fun s w hg=>by rw[wI xW t1];exact rp (Kl s w hg)),ex];exact t2
end Go.Am
