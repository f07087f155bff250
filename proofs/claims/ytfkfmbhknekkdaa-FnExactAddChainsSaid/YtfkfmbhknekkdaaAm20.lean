/- Am20: two operations change places. No condition. -/
import Derived.Test.YtfkfmbhknekkdaaAm19
set_option linter.unusedVariables false
namespace Go.Am
def gp (e:Nat->ai) (d:Option Nat) (v:ai):Nat->ai:=
 match d with
 |some n=>aq e n v
 |none=>e
theorem mI (σ:St) (d:Option Nat) (v:ai):σ.put d v=σ.we (gp σ.env d v):=by cases d<;>rfl
theorem oE {e:Nat->ai} {d:Option Nat} {v:ai} {n:Nat} (h:d≠some n):gp e d v n=e n:=by
 cases d with
 |none=>rfl
 |some m=>exact cd _ _ _ _ (fun he=>h (by rw[he]))
theorem GD (e:Nat->ai) {d d':Option Nat} (v v':ai) (h:∀n,d=some n->d'≠some n):gp (gp e d v) d' v'=gp (gp e d' v') d v:=by
 cases d with
 |none=>rfl
 |some n=>cases d' with
  |none=>rfl
  |some m=>
   have av:m≠n:=fun he=>h n rfl (by rw[he])
   funext k
   simp only[gp,ik]
   by_cases h1:k=m
   ·by_cases h2:k=n
    ·omega
    ·simp[h1,av]
   ·by_cases h2:k=n
    ·simp[h2,Ne.symm av]
    ·simp[h1,h2]
def Zv (d:Option Nat) (x:Nat->ai):ai:=
 match d with
 |some n=>x n
 |none=>.one .bg
theorem Qt (e:Nat->ai) (d:Option Nat) (x:Nat->ai):qi e d x=gp e d (Zv d x):=by cases d<;>rfl
theorem aff {σ σ1 σ2:St} {n m:Nat} {b c:ak} (h1:σ.ins n b=some σ1) (h2:σ1.ins m c=some σ2):∃τ,σ.ins m c=some τ/\τ.ins n b=some σ2:=by
 obtain⟨u1,rfl⟩:=j8 h1
 obtain⟨u2,rfl⟩:=j8 h2
 have av:m≠n:=fun e=>by subst e;simp[bu] at u2
 have um:σ.used m=false:=by simpa[cd _ _ _ _ av] using u2
 have un:aq σ.used m true n=false:=by rw[cd _ _ _ _ (Ne.symm av)];exact u1
 refine⟨_,by unfold St.ins;rw[if_neg (by simp[um])],?_⟩
 unfold St.ins
 simp only[un,Bool.false_eq_true,if_false]
 congr 2<;>(funext k;simp only[ik];by_cases h1:k=m<;>by_cases h2:k=n<;>simp_all)
theorem V1 {m:Nat} {c:ak}:∀{A:List (Nat×ak)} {σ σ1 σ2:St},σ.cu A=some σ1->σ1.ins m c=some σ2->∃τ,σ.ins m c=some τ/\τ.cu A=some σ2
 |[],σ,σ1,σ2,h1,h2=>by
  simp only[St.cu] at h1
  injection h1 with h1
  subst h1
  exact⟨σ2,h2,rfl⟩
 |(n,b)::A,σ,σ1,σ2,h1,h2=>by
  simp only[St.cu] at h1
  split at h1
  ·rename_i iF e
   obtain⟨τ,t1,t2⟩:=V1 h1 h2
   obtain⟨QB,s1,s2⟩:=aff e t1
   exact⟨QB,s1,by simp only[St.cu,s2];exact t2⟩
  ·cases h1
theorem LN:∀{Bs A:List (Nat×ak)} {σ σ1 σ2:St},σ.cu A=some σ1->σ1.cu Bs=some σ2->∃τ,σ.cu Bs=some τ/\τ.cu A=some σ2
 |[],A,σ,σ1,σ2,h1,h2=>by
  simp only[St.cu] at h2
  injection h2 with h2
  subst h2
  exact⟨σ,rfl,h1⟩
 |(m,c)::Bs,A,σ,σ1,σ2,h1,h2=>by
  simp only[St.cu] at h2
  split at h2
  ·rename_i fm e
   obtain⟨τ,t1,t2⟩:=V1 h1 e
   obtain⟨QB,s1,s2⟩:=LN t2 h2
   exact⟨QB,by simp only[St.cu,t1];exact s1,s2⟩
  ·cases h2
theorem wK:∀{A:List (Nat×ak)} {σ σ1:St},σ.cu A=some σ1->(∀n,σ.used n=true->σ1.used n=true/\σ1.h n=σ.h n)/\σ1.env=σ.env
 |[],σ,σ1,h1=>by
  simp only[St.cu] at h1
  injection h1 with h1
  subst h1
  exact⟨fun n hn=>⟨hn,rfl⟩,rfl⟩
 |(m,c)::A,σ,σ1,h1=>by
  simp only[St.cu] at h1
  split at h1
  ·rename_i iF e
   obtain⟨u1,rfl⟩:=j8 e
   obtain⟨t1,t2⟩:=wK h1
   refine⟨fun n hn=>?_,t2⟩
   have av:n≠m:=fun he=>by subst he;rw[u1] at hn;cases hn
   obtain⟨s1,s2⟩:=t1 n (oT _ _ hn)
   exact⟨s1,by rw[s2];exact cd _ _ _ _ av⟩
  ·cases h1
structure Wf (σ:St):Prop where
 env:∀s m,(σ.env s).ref m->σ.used m=true
 box:∀m cs c n,σ.h m=some (.box cs)->c∈cs->c.ref n->σ.used n=true
def ae.flat:ae->Bool
 |.c _|.nil _|.bg=>true
 |_=>false
def MO.flat:MO->Bool
 |.t _=>true
 |.k (.one c)=>c.flat
 |.k (.agg cs)=>cs.all ae.flat
 |.k (.aY xs)=>xs.isEmpty
theorem ae.Tk {c:ae} (h:c.flat=true) (m:Nat):¬c.ref m:=by
 cases c<;>first|exact id|(simp[ae.flat] at h)
theorem Wf.arg {σ:St} (W:Wf σ) {x:MO} (hx:x.flat=true) (m:Nat) (hm:(σ.ev x).ref m):σ.used m=true:=by
 cases x with
 |t n=>exact W.env n m hm
 |k v=>cases v with
  |one c=>exact absurd hm (ae.Tk hx m)
  |agg cs=>
   obtain⟨c,hc,hm⟩:=hm
   exact absurd hm (ae.Tk (List.all_eq_true.1 hx c hc) m)
  |aY xs=>
   have:xs=[]:=by simpa[MO.flat] using hx
   subst this
   obtain⟨c,hc,_⟩:=hm
   cases hc
theorem XL (T:aA) (d:Option Nat) (op:aw) (ev:MO->ai) (h:Nat->Option ak) (hc:op.dq=0) {x:ai×List (Nat×ak)} (hx:rd T d op ev h=some x):x.2=[]:=by
 cases op<;>simp[aw.dq] at hc<;>simp only[rd] at hx
 all_goals
  repeat' split at hx
  all_goals first|(cases hx;rfl)|(cases hx)
theorem EV {σ:St} {e:Nat->ai} {x:MO} (h:∀n,x=.t n->e n=σ.env n):(σ.we e).ev x=σ.ev x:=by
 cases x with
 |t n=>exact h n rfl
 |k v=>rfl
section
variable {T:aA} {dx dy:Option Nat} {x y:aw} {σ σ1 σ2:St}
theorem tM (sv:∀sz p v,x=.store sz p v->dx=none) (h1:exec T dx x σ=some σ1):σ1.env=gp σ.env dx (Zv dx σ1.env):=by
 have h:=Js T dx x σ σ.env (fun _ _=>rfl) sv
 rw[alr,h1] at h
 simp only[Option.map_some] at h
 injection h with h
 rw[<-Qt]
 calc σ1.env=(σ1.we (qi σ.env dx σ1.env)).env:=by rw[<-h]
  _=_:=rfl
theorem RX (W:Wf σ) (hd:∀n,dx=some n->dy≠some n) (jf:∀n,dx=some n->MO.t n∉y.args) (qX:∀n,dy=some n->MO.t n∉x.args)
  (Fk:∀a∈x.args,a.flat=true) (wh:∀a∈y.args,a.flat=true)
  (sv:∀sz p v,x=.store sz p v->dx=none) (BE:∀sz p v,y=.store sz p v->dy=none) (alJ:x.dq=0\/y.dq=0\/(x.dq<=1/\y.dq<=1))
  (h1:exec T dx x σ=some σ1) (h2:exec T dy y σ1=some σ2):∃τ,exec T dy y σ=some τ/\exec T dx x τ=some σ2:=by
 have UE:∀(e:Nat->ai) (v:ai) (s:St),∀a∈y.args,(s.we (gp s.env dx v)).ev a=s.ev a:=fun e v s a ha=>EV fun n hn=>oE fun mb=>jf n mb (hn▸ha)
 have UB:∀(e:Nat->ai) (v:ai) (s:St),∀a∈x.args,(s.we (gp s.env dy v)).ev a=s.ev a:=fun e v s a ha=>EV fun n hn=>oE fun mb=>qX n mb (hn▸ha)
 by_cases cx:x.dq=0
 ·rw[mZ T dx x σ (by omega)] at h1
  cases hr:rd T dx x σ.ev σ.h with
  |none=>rw[hr] at h1;cases h1
  |some p=>
   obtain⟨v,bs⟩:=p
   have hb:bs=[]:=XL T dx x _ _ cx hr
   subst hb
   rw[hr] at h1
   simp only[Option.bind_some,fin,St.cu,Option.map_some] at h1
   injection h1 with h1
   rw[mI] at h1
   subst h1
   rw[Js T dy y σ _ (UE σ.env v σ) BE] at h2
   cases hy:exec T dy y σ with
   |none=>rw[hy] at h2;cases h2
   |some τ=>
    rw[hy] at h2
    simp only[Option.map_some] at h2
    injection h2 with h2
    refine⟨τ,rfl,?_⟩
    have pN:=tM BE hy
    rw[mZ T dx x τ (by omega),XM T dx x τ.ev σ.h τ.h cx,zM T dx x (ev:=σ.ev) (ev':=τ.ev) σ.h (fun a ha=>by
     cases a with
     |t n=>
      show τ.env n=σ.env n
      rw[pN]
      exact oE fun mb=>qX n mb ha
     |k v=>rfl),hr]
    simp only[Option.bind_some,fin,St.cu,Option.map_some]
    rw[<-h2,mI]
    congr 1
    have:gp τ.env dx v=qi (gp σ.env dx v) dy τ.env:=by
     rw[Qt,GD σ.env _ _ hd]
     rw[<-pN]
    rw[this]
 ·by_cases cy:y.dq=0
  ·rw[mZ T dy y σ1 (by omega)] at h2
   cases hr:rd T dy y σ1.ev σ1.h with
   |none=>rw[hr] at h2;cases h2
   |some p=>
    obtain⟨v,bs⟩:=p
    have hb:bs=[]:=XL T dy y _ _ cy hr
    subst hb
    rw[hr] at h2
    simp only[Option.bind_some,fin,St.cu,Option.map_some] at h2
    injection h2 with h2
    have pN:=tM sv h1
    refine⟨σ.put dy v,?_,?_⟩
    ·rw[mZ T dy y σ (by omega),XM T dy y σ.ev σ1.h σ.h cy,zM T dy y (ev:=σ1.ev) (ev':=σ.ev) σ1.h (fun a ha=>by
      cases a with
      |t n=>
       show σ.env n=σ1.env n
       rw[pN]
       exact(oE fun mb=>jf n mb ha).symm
      |k v=>rfl),hr]
     rfl
    ·rw[mI,Js T dx x σ _ (UB σ.env v σ) sv,h1]
     simp only[Option.map_some]
     rw[<-h2,mI]
     congr 2
     rw[Qt,<-GD σ.env _ _ hd,<-pN]
  ·have Sc:x.dq<=1:=by omega
   have Sd:y.dq<=1:=by omega
   rw[mZ T dx x σ Sc] at h1
   cases hr:rd T dx x σ.ev σ.h with
   |none=>rw[hr] at h1;cases h1
   |some p=>
    obtain⟨v,A⟩:=p
    rw[hr] at h1
    simp only[Option.bind_some,fin] at h1
    cases hA:σ.cu A with
    |none=>rw[hA] at h1;cases h1
    |some vj=>
     rw[hA] at h1
     simp only[Option.map_some] at h1
     injection h1 with h1
     rw[mI] at h1
     subst h1
     obtain⟨oa,ea⟩:=wK hA
     rw[mZ T dy y _ Sd] at h2
     have hry:rd T dy y (vj.we (gp vj.env dx v)).ev (vj.we (gp vj.env dx v)).h=rd T dy y σ.ev σ.h:=by
      rw[zM T dy y (ev:=σ.ev) _ (fun a ha=>by rw[UE σ.env v vj a ha];cases a with
       |t n=>show vj.env n=σ.env n;rw[ea]
       |k v=>rfl)]
      exact XJ (u:=fun n=>σ.used n=true) T dy y σ.ev (fun n hn=>(oa n hn).2) W.box (fun a ha m hm=>W.arg (wh a ha) m hm)
     rw[hry] at h2
     cases BS:rd T dy y σ.ev σ.h with
     |none=>rw[BS] at h2;cases h2
     |some q=>
      obtain⟨v2,Bs⟩:=q
      rw[BS] at h2
      simp only[Option.bind_some,fin,wL] at h2
      cases hB:vj.cu Bs with
      |none=>rw[hB] at h2;cases h2
      |some ZG=>
       rw[hB] at h2
       simp only[Option.map_some] at h2
       injection h2 with h2
       obtain⟨vk,b1,b2⟩:=LN hA hB
       obtain⟨ob,eb⟩:=wK b1
       obtain⟨oab,eab⟩:=wK hB
       refine⟨vk.put dy v2,?_,?_⟩
       ·rw[mZ T dy y σ Sd,BS]
        simp[fin,b1]
       ·rw[mI,mZ T dx x _ Sc]
        have hrx:rd T dx x (vk.we (gp vk.env dy v2)).ev (vk.we (gp vk.env dy v2)).h=rd T dx x σ.ev σ.h:=by
         rw[zM T dx x (ev:=σ.ev) _ (fun a ha=>by rw[UB σ.env v2 vk a ha];cases a with
          |t n=>show vk.env n=σ.env n;rw[eb]
          |k v=>rfl)]
         exact XJ (u:=fun n=>σ.used n=true) T dx x σ.ev (fun n hn=>(ob n hn).2) W.box (fun a ha m hm=>W.arg (Fk a ha) m hm)
        rw[hrx,hr]
        simp only[Option.bind_some,fin,wL,b2,Option.map_some]
        rw[<-h2,mI,mI]
        congr 1
        show ZG.we (gp (gp vk.env dy v2) dx v)=ZG.we (gp (gp vj.env dx v) dy v2)
        rw[eb,ea,GD σ.env _ _ hd]
end
theorem yy (T:aA) (o:bI) (σ:St):dJ T o σ=(kD o σ.env).bind fun op=>exec T o.dst op σ:=by
 unfold dJ kD
 cases hg:o.guard with
 |none=>rfl
 |some g=>
  obtain⟨s,jt⟩:=g
  simp only
  generalize σ.env s=v
  cases v with
  |one c=>cases c with
   |c x=>cases x with
    |bool b=>simp only;split<;>rfl
    |_=>rfl
   |_=>rfl
  |agg cs=>rfl
  |aY xs=>cases xs<;>rfl
def bI.rp (o:bI) (n:Nat):Bool:=(o.op.args.all fun a=>match a with|.t m=>m !=n|_=>true)&&(match o.guard with|some (s,_)=>s !=n|none=>true)
def bI.nX (o:bI):Bool:=o.op.args.all MO.flat&&(match o.op with|.store ..=>o.dst.isNone|_=>true)
def yj (x y:bI):Bool:=
 (match x.dst with|some d=>y.rp d&&(match y.dst with|some e=>e !=d|none=>true)|none=>true)&&
 (match y.dst with|some d=>x.rp d|none=>true)&&x.nX&&y.nX&&(x.op.dq==0||y.op.dq==0||(decide (x.op.dq<=1)&&decide (y.op.dq<=1)))
theorem bI.Gq {o:bI} {n:Nat} (h:o.rp n=true):MO.t n∉o.op.args:=by
 intro hm
 simp only[bI.rp,Bool.and_eq_true,List.all_eq_true] at h
 have:=h.1 _ hm
 simp at this
theorem EN {o:bI} {e:Nat->ai} {op:aw} (h:kD o e=some op):op=o.op\/op=.mv (.k (.aY [])):=by
 unfold kD at h
 split at h
 ·injection h with h;exact .inl h.symm
 ·split at h
  ·split at h
   ·injection h with h;exact .inl h.symm
   ·injection h with h;exact .inr h.symm
  ·injection h with h;exact .inr h.symm
  ·cases h
theorem Ba {o:bI} {e e':Nat->ai} (h:∀s w,o.guard=some (s,w)->e' s=e s):kD o e'=kD o e:=by
 unfold kD
 cases hg:o.guard with
 |none=>rfl
 |some g=>obtain⟨s,w⟩:=g;simp only;rw[h s w hg]
theorem aaO {T:aA} {x y:bI} {σ σ1 σ2:St} (W:Wf σ) (hc:yj x y=true) (h1:dJ T x σ=some σ1) (h2:dJ T y σ1=some σ2):
  ∃τ,dJ T y σ=some τ/\dJ T x τ=some σ2:=by
 simp only[yj,Bool.and_eq_true] at hc
 obtain⟨⟨⟨⟨c1,c2⟩,c3⟩,c4⟩,c5⟩:=hc
 rw[yy] at h1 h2
 cases ex:kD x σ.env with
 |none=>rw[ex] at h1;cases h1
 |some ig=>
  rw[ex] at h1
  have h1:exec T x.dst ig σ=some σ1:=h1
  have jx:ig=x.op\/ig=.mv (.k (.aY [])):=EN ex
  have xq:∀sz p v,ig=.store sz p v->x.dst=none:=by
   intro sz p v he
   rcases jx with rfl|rfl
   ·simp only[bI.nX,Bool.and_eq_true,he] at c3;simpa using c3.2
   ·cases he
  have pN:=tM xq h1
  have Lk:∀s w,y.guard=some (s,w)->x.dst≠some s:=by
   intro s w hg hd
   rw[hd] at c1
   simp[bI.rp,hg] at c1
  have FC:∀s w,x.guard=some (s,w)->y.dst≠some s:=by
   intro s w hg hd
   rw[hd] at c2
   simp[bI.rp,hg] at c2
  have EZ:kD y σ1.env=kD y σ.env:=Ba fun s w hg=>by rw[pN];exact oE (Lk s w hg)
  rw[EZ] at h2
  cases ey:kD y σ.env with
  |none=>rw[ey] at h2;cases h2
  |some gV=>
   rw[ey] at h2
   have h2:exec T y.dst gV σ1=some σ2:=h2
   have jy:gV=y.op\/gV=.mv (.k (.aY [])):=EN ey
   have vc:∀sz p v,gV=.store sz p v->y.dst=none:=by
    intro sz p v he
    rcases jy with rfl|rfl
    ·simp only[bI.nX,Bool.and_eq_true,he] at c4;simpa using c4.2
    ·cases he
   have Bh:∀a∈ig.args,a.flat=true:=by
    rcases jx with rfl|rfl
    ·simp only[bI.nX,Bool.and_eq_true,List.all_eq_true] at c3;exact c3.1
    ·intro a ha;simp[aw.args] at ha;subst ha;rfl
   have Bi:∀a∈gV.args,a.flat=true:=by
    rcases jy with rfl|rfl
    ·simp only[bI.nX,Bool.and_eq_true,List.all_eq_true] at c4;exact c4.1
    ·intro a ha;simp[aw.args] at ha;subst ha;rfl
   have jf:∀n,x.dst=some n->MO.t n∉gV.args:=by
    intro n hd
    rcases jy with rfl|rfl
    ·rw[hd] at c1
     simp only[Bool.and_eq_true] at c1
     exact bI.Gq c1.1
    ·simp[aw.args]
   have qX:∀n,y.dst=some n->MO.t n∉ig.args:=by
    intro n hd
    rcases jx with rfl|rfl
    ·rw[hd] at c2
     exact bI.Gq c2
    ·simp[aw.args]
   have yJ:∀n,x.dst=some n->y.dst≠some n:=by
    intro n hd he
    rw[hd,he] at c1
    simp at c1
   have bq:ig.dq=0\/gV.dq=0\/(ig.dq<=1/\gV.dq<=1):=by
    rcases jx with rfl|rfl
    ·rcases jy with rfl|rfl
     ·simp only[Bool.or_eq_true,beq_iff_eq,Bool.and_eq_true,decide_eq_true_eq,or_assoc] at c5
      exact c5
     ·exact .inr (.inl rfl)
    ·exact .inl rfl
   obtain⟨τ,t1,t2⟩:=RX W yJ jf qX Bh Bi xq vc bq h1 h2
   refine⟨τ,?_,?_⟩
   ·rw[yy,ey];exact t1
   ·rw[yy,Ba (e:=σ.env) (fun s w hg=>by rw[tM vc t1];exact oE (FC s w hg)),ex];exact t2
end Go.Am
