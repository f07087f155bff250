/- Am20: two operations change places. No condition. -/
import Derived.Test.YtifmggmhdcdgbaaAm19
set_option linter.unusedVariables false
namespace Go.Am
def gE (e:Nat->ai) (d:Option Nat) (v:ai):Nat->ai:=
 match d with
 |some n=>av e n v
 |none=>e
theorem nO (σ:St) (d:Option Nat) (v:ai):σ.put d v=σ.we (gE σ.env d v):=by cases d<;>rfl
theorem pY {e:Nat->ai} {d:Option Nat} {v:ai} {n:Nat} (h:d≠some n):gE e d v n=e n:=by
 cases d with
 |none=>rfl
 |some m=>exact bS _ _ _ _ (fun he=>h (by rw[he]))
theorem JU (e:Nat->ai) {d d':Option Nat} (v v':ai) (h:∀n,d=some n->d'≠some n):gE (gE e d v) d' v'=gE (gE e d' v') d v:=by
 cases d with
 |none=>rfl
 |some n=>cases d' with
  |none=>rfl
  |some m=>
   have aA:m≠n:=fun he=>h n rfl (by rw[he])
   funext k
   simp only[gE,iE]
   by_cases h1:k=m
   ·by_cases h2:k=n
    ·omega
    ·simp[h1,aA]
   ·by_cases h2:k=n
    ·simp[h2,Ne.symm aA]
    ·simp[h1,h2]
def abY (d:Option Nat) (x:Nat->ai):ai:=
 match d with
 |some n=>x n
 |none=>.one .bg
theorem Ux (e:Nat->ai) (d:Option Nat) (x:Nat->ai):uL e d x=gE e d (abY d x):=by cases d<;>rfl
theorem ahu {σ σ1 σ2:St} {n m:Nat} {b c:ar} (h1:σ.ins n b=some σ1) (h2:σ1.ins m c=some σ2):∃τ,σ.ins m c=some τ/\τ.ins n b=some σ2:=by
 obtain⟨u1,rfl⟩:=lO h1
 obtain⟨u2,rfl⟩:=lO h2
 have aA:m≠n:=fun e=>by subst e;simp[bw] at u2
 have um:σ.used m=false:=by simpa[bS _ _ _ _ aA] using u2
 have un:av σ.used m true n=false:=by rw[bS _ _ _ _ (Ne.symm aA)];exact u1
 refine⟨_,by unfold St.ins;rw[if_neg (by simp[um])],?_⟩
 unfold St.ins
 simp only[un,Bool.false_eq_true,if_false]
 congr 2<;>(funext k;simp only[iE];by_cases h1:k=m<;>by_cases h2:k=n<;>simp_all)
theorem Yx {m:Nat} {c:ar}:∀{A:List (Nat×ar)} {σ σ1 σ2:St},σ.cu A=some σ1->σ1.ins m c=some σ2->∃τ,σ.ins m c=some τ/\τ.cu A=some σ2
 |[],σ,σ1,σ2,h1,h2=>by
  simp only[St.cu] at h1
  injection h1 with h1
  subst h1
  exact⟨σ2,h2,rfl⟩
 |(n,b)::A,σ,σ1,σ2,h1,h2=>by
  simp only[St.cu] at h1
  split at h1
  ·rename_i jb e
   obtain⟨τ,t1,t2⟩:=Yx h1 h2
   obtain⟨UL,s1,s2⟩:=ahu e t1
   exact⟨UL,s1,by simp only[St.cu,s2];exact t2⟩
  ·cases h1
theorem OM:∀{Bs A:List (Nat×ar)} {σ σ1 σ2:St},σ.cu A=some σ1->σ1.cu Bs=some σ2->∃τ,σ.cu Bs=some τ/\τ.cu A=some σ2
 |[],A,σ,σ1,σ2,h1,h2=>by
  simp only[St.cu] at h2
  injection h2 with h2
  subst h2
  exact⟨σ,rfl,h1⟩
 |(m,c)::Bs,A,σ,σ1,σ2,h1,h2=>by
  simp only[St.cu] at h2
  split at h2
  ·rename_i f9 e
   obtain⟨τ,t1,t2⟩:=Yx h1 e
   obtain⟨UL,s1,s2⟩:=OM t2 h2
   exact⟨UL,by simp only[St.cu,t1];exact s1,s2⟩
  ·cases h2
theorem yq:∀{A:List (Nat×ar)} {σ σ1:St},σ.cu A=some σ1->(∀n,σ.used n=true->σ1.used n=true/\σ1.h n=σ.h n)/\σ1.env=σ.env
 |[],σ,σ1,h1=>by
  simp only[St.cu] at h1
  injection h1 with h1
  subst h1
  exact⟨fun n hn=>⟨hn,rfl⟩,rfl⟩
 |(m,c)::A,σ,σ1,h1=>by
  simp only[St.cu] at h1
  split at h1
  ·rename_i jb e
   obtain⟨u1,rfl⟩:=lO e
   obtain⟨t1,t2⟩:=yq h1
   refine⟨fun n hn=>?_,t2⟩
   have aA:n≠m:=fun he=>by subst he;rw[u1] at hn;cases hn
   obtain⟨s1,s2⟩:=t1 n (qj _ _ hn)
   exact⟨s1,by rw[s2];exact bS _ _ _ _ aA⟩
  ·cases h1
structure Wf (σ:St):Prop where
 env:∀s m,(σ.env s).ref m->σ.used m=true
 box:∀m cs c n,σ.h m=some (.box cs)->c∈cs->c.ref n->σ.used n=true
def ah.flat:ah->Bool
 |.c _|.nil _|.bg=>true
 |_=>false
def MO.flat:MO->Bool
 |.t _=>true
 |.k (.one c)=>c.flat
 |.k (.agg cs)=>cs.all ah.flat
 |.k (.bj xs)=>xs.isEmpty
theorem ah.WJ {c:ah} (h:c.flat=true) (m:Nat):¬c.ref m:=by
 cases c<;>first|exact id|(simp[ah.flat] at h)
theorem Wf.arg {σ:St} (W:Wf σ) {x:MO} (hx:x.flat=true) (m:Nat) (hm:(σ.ev x).ref m):σ.used m=true:=by
 cases x with
 |t n=>exact W.env n m hm
 |k v=>cases v with
  |one c=>exact absurd hm (ah.WJ hx m)
  |agg cs=>
   obtain⟨c,hc,hm⟩:=hm
   exact absurd hm (ah.WJ (List.all_eq_true.1 hx c hc) m)
  |bj xs=>
   have:xs=[]:=by simpa[MO.flat] using hx
   subst this
   obtain⟨c,hc,_⟩:=hm
   cases hc
theorem aah (T:be) (d:Option Nat) (op:aC) (ev:MO->ai) (h:Nat->Option ar) (hc:op.dv=0) {x:ai×List (Nat×ar)} (hx:rd T d op ev h=some x):x.2=[]:=by
 cases op<;>simp[aC.dv] at hc<;>simp only[rd] at hx
 all_goals
  repeat' split at hx
  all_goals first|(cases hx;rfl)|(cases hx)
theorem Hy {σ:St} {e:Nat->ai} {x:MO} (h:∀n,x=.t n->e n=σ.env n):(σ.we e).ev x=σ.ev x:=by
 cases x with
 |t n=>exact h n rfl
 |k v=>rfl
section
variable {T:be} {dx dy:Option Nat} {x y:aC} {σ σ1 σ2:St}
theorem vp (tJ:∀sz p v,x=.store sz p v->dx=none) (h1:aI T dx x σ=some σ1):σ1.env=gE σ.env dx (abY dx σ1.env):=by
 have h:=Mk T dx x σ σ.env (fun _ _=>rfl) tJ
 rw[aoo,h1] at h
 simp only[Option.map_some] at h
 injection h with h
 rw[<-Ux]
 calc σ1.env=(σ1.we (uL σ.env dx σ1.env)).env:=by rw[<-h]
  _=_:=rfl
theorem VH (W:Wf σ) (hd:∀n,dx=some n->dy≠some n) (jF:∀n,dx=some n->MO.t n∉y.args) (r8:∀n,dy=some n->MO.t n∉x.args)
  (H5:∀a∈x.args,a.flat=true) (x7:∀a∈y.args,a.flat=true)
  (tJ:∀sz p v,x=.store sz p v->dx=none) (Dc:∀sz p v,y=.store sz p v->dy=none) (aoH:x.dv=0\/y.dv=0\/(x.dv<=1/\y.dv<=1))
  (h1:aI T dx x σ=some σ1) (h2:aI T dy y σ1=some σ2):∃τ,aI T dy y σ=some τ/\aI T dx x τ=some σ2:=by
 have XR:∀(e:Nat->ai) (v:ai) (s:St),∀a∈y.args,(s.we (gE s.env dx v)).ev a=s.ev a:=fun e v s a ha=>Hy fun n hn=>pY fun ot=>jF n ot (hn▸ha)
 have XO:∀(e:Nat->ai) (v:ai) (s:St),∀a∈x.args,(s.we (gE s.env dy v)).ev a=s.ev a:=fun e v s a ha=>Hy fun n hn=>pY fun ot=>r8 n ot (hn▸ha)
 by_cases cx:x.dv=0
 ·rw[pn T dx x σ (by omega)] at h1
  cases hr:rd T dx x σ.ev σ.h with
  |none=>rw[hr] at h1;cases h1
  |some p=>
   obtain⟨v,bs⟩:=p
   have hb:bs=[]:=aah T dx x _ _ cx hr
   subst hb
   rw[hr] at h1
   simp only[Option.bind_some,gb,St.cu,Option.map_some] at h1
   injection h1 with h1
   rw[nO] at h1
   subst h1
   rw[Mk T dy y σ _ (XR σ.env v σ) Dc] at h2
   cases hy:aI T dy y σ with
   |none=>rw[hy] at h2;cases h2
   |some τ=>
    rw[hy] at h2
    simp only[Option.map_some] at h2
    injection h2 with h2
    refine⟨τ,rfl,?_⟩
    have qS:=vp Dc hy
    rw[pn T dx x τ (by omega),aai T dx x τ.ev σ.h τ.h cx,Bv T dx x (ev:=σ.ev) (ev':=τ.ev) σ.h (fun a ha=>by
     cases a with
     |t n=>
      show τ.env n=σ.env n
      rw[qS]
      exact pY fun ot=>r8 n ot ha
     |k v=>rfl),hr]
    simp only[Option.bind_some,gb,St.cu,Option.map_some]
    rw[<-h2,nO]
    congr 1
    have:gE τ.env dx v=uL (gE σ.env dx v) dy τ.env:=by
     rw[Ux,JU σ.env _ _ hd]
     rw[<-qS]
    rw[this]
 ·by_cases cy:y.dv=0
  ·rw[pn T dy y σ1 (by omega)] at h2
   cases hr:rd T dy y σ1.ev σ1.h with
   |none=>rw[hr] at h2;cases h2
   |some p=>
    obtain⟨v,bs⟩:=p
    have hb:bs=[]:=aah T dy y _ _ cy hr
    subst hb
    rw[hr] at h2
    simp only[Option.bind_some,gb,St.cu,Option.map_some] at h2
    injection h2 with h2
    have qS:=vp tJ h1
    refine⟨σ.put dy v,?_,?_⟩
    ·rw[pn T dy y σ (by omega),aai T dy y σ.ev σ1.h σ.h cy,Bv T dy y (ev:=σ1.ev) (ev':=σ.ev) σ1.h (fun a ha=>by
      cases a with
      |t n=>
       show σ.env n=σ1.env n
       rw[qS]
       exact(pY fun ot=>jF n ot ha).symm
      |k v=>rfl),hr]
     rfl
    ·rw[nO,Mk T dx x σ _ (XO σ.env v σ) tJ,h1]
     simp only[Option.map_some]
     rw[<-h2,nO]
     congr 2
     rw[Ux,<-JU σ.env _ _ hd,<-qS]
  ·have VS:x.dv<=1:=by omega
   have VT:y.dv<=1:=by omega
   rw[pn T dx x σ VS] at h1
   cases hr:rd T dx x σ.ev σ.h with
   |none=>rw[hr] at h1;cases h1
   |some p=>
    obtain⟨v,A⟩:=p
    rw[hr] at h1
    simp only[Option.bind_some,gb] at h1
    cases hA:σ.cu A with
    |none=>rw[hA] at h1;cases h1
    |some w4=>
     rw[hA] at h1
     simp only[Option.map_some] at h1
     injection h1 with h1
     rw[nO] at h1
     subst h1
     obtain⟨oa,ea⟩:=yq hA
     rw[pn T dy y _ VT] at h2
     have hry:rd T dy y (w4.we (gE w4.env dx v)).ev (w4.we (gE w4.env dx v)).h=rd T dy y σ.ev σ.h:=by
      rw[Bv T dy y (ev:=σ.ev) _ (fun a ha=>by rw[XR σ.env v w4 a ha];cases a with
       |t n=>show w4.env n=σ.env n;rw[ea]
       |k v=>rfl)]
      exact aaf (u:=fun n=>σ.used n=true) T dy y σ.ev (fun n hn=>(oa n hn).2) W.box (fun a ha m hm=>W.arg (x7 a ha) m hm)
     rw[hry] at h2
     cases Ds:rd T dy y σ.ev σ.h with
     |none=>rw[Ds] at h2;cases h2
     |some q=>
      obtain⟨v2,Bs⟩:=q
      rw[Ds] at h2
      simp only[Option.bind_some,gb,yr] at h2
      cases hB:w4.cu Bs with
      |none=>rw[hB] at h2;cases h2
      |some ab8=>
       rw[hB] at h2
       simp only[Option.map_some] at h2
       injection h2 with h2
       obtain⟨w5,b1,b2⟩:=OM hA hB
       obtain⟨ob,eb⟩:=yq b1
       obtain⟨oab,eab⟩:=yq hB
       refine⟨w5.put dy v2,?_,?_⟩
       ·rw[pn T dy y σ VT,Ds]
        simp[gb,b1]
       ·rw[nO,pn T dx x _ VS]
        have hrx:rd T dx x (w5.we (gE w5.env dy v2)).ev (w5.we (gE w5.env dy v2)).h=rd T dx x σ.ev σ.h:=by
         rw[Bv T dx x (ev:=σ.ev) _ (fun a ha=>by rw[XO σ.env v2 w5 a ha];cases a with
          |t n=>show w5.env n=σ.env n;rw[eb]
          |k v=>rfl)]
         exact aaf (u:=fun n=>σ.used n=true) T dx x σ.ev (fun n hn=>(ob n hn).2) W.box (fun a ha m hm=>W.arg (H5 a ha) m hm)
        rw[hrx,hr]
        simp only[Option.bind_some,gb,yr,b2,Option.map_some]
        rw[<-h2,nO,nO]
        congr 1
        show ab8.we (gE (gE w5.env dy v2) dx v)=ab8.we (gE (gE w4.env dx v) dy v2)
        rw[eb,ea,JU σ.env _ _ hd]
end
theorem zV (T:be) (o:bH) (σ:St):d8 T o σ=(lD o σ.env).bind fun op=>aI T o.dst op σ:=by
 unfold d8 lD
 cases hg:o.guard with
 |none=>rfl
 |some g=>
  obtain⟨s,jW⟩:=g
  simp only
  generalize σ.env s=v
  cases v with
  |one c=>cases c with
   |c x=>cases x with
    |bool b=>simp only;split<;>rfl
    |_=>rfl
   |_=>rfl
  |agg cs=>rfl
  |bj xs=>cases xs<;>rfl
def bH.sT (o:bH) (n:Nat):Bool:=(o.op.args.all fun a=>match a with|.t m=>m !=n|_=>true)&&(match o.guard with|some (s,_)=>s !=n|none=>true)
def bH.po (o:bH):Bool:=o.op.args.all MO.flat&&(match o.op with|.store ..=>o.dst.isNone|_=>true)
def zN (x y:bH):Bool:=
 (match x.dst with|some d=>y.sT d&&(match y.dst with|some e=>e !=d|none=>true)|none=>true)&&
 (match y.dst with|some d=>x.sT d|none=>true)&&x.po&&y.po&&(x.op.dv==0||y.op.dv==0||(decide (x.op.dv<=1)&&decide (y.op.dv<=1)))
theorem bH.JO {o:bH} {n:Nat} (h:o.sT n=true):MO.t n∉o.op.args:=by
 intro hm
 simp only[bH.sT,Bool.and_eq_true,List.all_eq_true] at h
 have:=h.1 _ hm
 simp at this
theorem Hs {o:bH} {e:Nat->ai} {op:aC} (h:lD o e=some op):op=o.op\/op=.mv (.k (.bj [])):=by
 unfold lD at h
 split at h
 ·injection h with h;exact .inl h.symm
 ·split at h
  ·split at h
   ·injection h with h;exact .inl h.symm
   ·injection h with h;exact .inr h.symm
  ·injection h with h;exact .inr h.symm
  ·cases h
theorem CH {o:bH} {e e':Nat->ai} (h:∀s w,o.guard=some (s,w)->e' s=e s):lD o e'=lD o e:=by
 unfold lD
 cases hg:o.guard with
 |none=>rfl
 |some g=>obtain⟨s,w⟩:=g;simp only;rw[h s w hg]
theorem acZ {T:be} {x y:bH} {σ σ1 σ2:St} (W:Wf σ) (hc:zN x y=true) (h1:d8 T x σ=some σ1) (h2:d8 T y σ1=some σ2):
  ∃τ,d8 T y σ=some τ/\d8 T x τ=some σ2:=by
 simp only[zN,Bool.and_eq_true] at hc
 obtain⟨⟨⟨⟨c1,c2⟩,c3⟩,c4⟩,c5⟩:=hc
 rw[zV] at h1 h2
 cases ex:lD x σ.env with
 |none=>rw[ex] at h1;cases h1
 |some iC=>
  rw[ex] at h1
  have h1:aI T x.dst iC σ=some σ1:=h1
  have jx:iC=x.op\/iC=.mv (.k (.bj [])):=Hs ex
  have y5:∀sz p v,iC=.store sz p v->x.dst=none:=by
   intro sz p v he
   rcases jx with rfl|rfl
   ·simp only[bH.po,Bool.and_eq_true,he] at c3;simpa using c3.2
   ·cases he
  have qS:=vp y5 h1
  have Om:∀s w,y.guard=some (s,w)->x.dst≠some s:=by
   intro s w hg hd
   rw[hd] at c1
   simp[bH.sT,hg] at c1
  have Il:∀s w,x.guard=some (s,w)->y.dst≠some s:=by
   intro s w hg hd
   rw[hd] at c2
   simp[bH.sT,hg] at c2
  have HC:lD y σ1.env=lD y σ.env:=CH fun s w hg=>by rw[qS];exact pY (Om s w hg)
  rw[HC] at h2
  cases ey:lD y σ.env with
  |none=>rw[ey] at h2;cases h2
  |some ia=>
   rw[ey] at h2
   have h2:aI T y.dst ia σ1=some σ2:=h2
   have jy:ia=y.op\/ia=.mv (.k (.bj [])):=Hs ey
   have wT:∀sz p v,ia=.store sz p v->y.dst=none:=by
    intro sz p v he
    rcases jy with rfl|rfl
    ·simp only[bH.po,Bool.and_eq_true,he] at c4;simpa using c4.2
    ·cases he
   have CP:∀a∈iC.args,a.flat=true:=by
    rcases jx with rfl|rfl
    ·simp only[bH.po,Bool.and_eq_true,List.all_eq_true] at c3;exact c3.1
    ·intro a ha;simp[aC.args] at ha;subst ha;rfl
   have CQ:∀a∈ia.args,a.flat=true:=by
    rcases jy with rfl|rfl
    ·simp only[bH.po,Bool.and_eq_true,List.all_eq_true] at c4;exact c4.1
    ·intro a ha;simp[aC.args] at ha;subst ha;rfl
   have jF:∀n,x.dst=some n->MO.t n∉ia.args:=by
    intro n hd
    rcases jy with rfl|rfl
    ·rw[hd] at c1
     simp only[Bool.and_eq_true] at c1
     exact bH.JO c1.1
    ·simp[aC.args]
   have r8:∀n,y.dst=some n->MO.t n∉iC.args:=by
    intro n hd
    rcases jx with rfl|rfl
    ·rw[hd] at c2
     exact bH.JO c2
    ·simp[aC.args]
   have tI:∀n,x.dst=some n->y.dst≠some n:=by
    intro n hd he
    rw[hd,he] at c1
    simp at c1
   have bI:iC.dv=0\/ia.dv=0\/(iC.dv<=1/\ia.dv<=1):=by
    rcases jx with rfl|rfl
    ·rcases jy with rfl|rfl
     ·simp only[Bool.or_eq_true,beq_iff_eq,Bool.and_eq_true,decide_eq_true_eq,or_assoc] at c5
      exact c5
     ·exact .inr (.inl rfl)
    ·exact .inl rfl
   obtain⟨τ,t1,t2⟩:=VH W tI jF r8 CP CQ y5 wT bI h1 h2
   refine⟨τ,?_,?_⟩
   ·rw[zV,ey];exact t1
   ·rw[zV,CH (e:=σ.env) (fun s w hg=>by rw[vp wT t1];exact pY (Il s w hg)),ex];exact t2
end Go.Am
