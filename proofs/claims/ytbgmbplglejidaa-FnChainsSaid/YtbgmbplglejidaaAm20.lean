/- Am20: two operations change places. No condition. -/
import Derived.Test.YtbgmbplglejidaaAm19
set_option linter.unusedVariables false
namespace Go.Am
def h9 (e:Nat->aj) (d:Option Nat) (v:aj):Nat->aj:=
 match d with
 |some n=>au e n v
 |none=>e
theorem oh (σ:St) (d:Option Nat) (v:aj):σ.put d v=σ.we (h9 σ.env d v):=by cases d<;>rfl
theorem qC {e:Nat->aj} {d:Option Nat} {v:aj} {n:Nat} (h:d≠some n):h9 e d v n=e n:=by
 cases d with
 |none=>rfl
 |some m=>exact cq _ _ _ _ (fun he=>h (by rw[he]))
theorem JM (e:Nat->aj) {d d':Option Nat} (v v':aj) (h:∀n,d=some n->d'≠some n):h9 (h9 e d v) d' v'=h9 (h9 e d' v') d v:=by
 cases d with
 |none=>rfl
 |some n=>cases d' with
  |none=>rfl
  |some m=>
   have aB:m≠n:=fun he=>h n rfl (by rw[he])
   funext k
   simp only[h9,iP]
   by_cases h1:k=m
   ·by_cases h2:k=n
    ·omega
    ·simp[h1,aB]
   ·by_cases h2:k=n
    ·simp[h2,Ne.symm aB]
    ·simp[h1,h2]
def acZ (d:Option Nat) (x:Nat->aj):aj:=
 match d with
 |some n=>x n
 |none=>.one .bm
theorem Vm (e:Nat->aj) (d:Option Nat) (x:Nat->aj):vd e d x=h9 e d (acZ d x):=by cases d<;>rfl
theorem ah1 {σ σ1 σ2:St} {n m:Nat} {b c:ao} (h1:σ.ins n b=some σ1) (h2:σ1.ins m c=some σ2):∃τ,σ.ins m c=some τ/\τ.ins n b=some σ2:=by
 obtain⟨u1,rfl⟩:=lL h1
 obtain⟨u2,rfl⟩:=lL h2
 have aB:m≠n:=fun e=>by subst e;simp[bF] at u2
 have um:σ.used m=false:=by simpa[cq _ _ _ _ aB] using u2
 have un:au σ.used m true n=false:=by rw[cq _ _ _ _ (Ne.symm aB)];exact u1
 refine⟨_,by unfold St.ins;rw[if_neg (by simp[um])],?_⟩
 unfold St.ins
 simp only[un,Bool.false_eq_true,if_false]
 congr 2<;>(funext k;simp only[iP];by_cases h1:k=m<;>by_cases h2:k=n<;>simp_all)
theorem ZB {m:Nat} {c:ao}:∀{A:List (Nat×ao)} {σ σ1 σ2:St},σ.cA A=some σ1->σ1.ins m c=some σ2->∃τ,σ.ins m c=some τ/\τ.cA A=some σ2
 |[],σ,σ1,σ2,h1,h2=>by
  simp only[St.cA] at h1
  injection h1 with h1
  subst h1
  exact⟨σ2,h2,rfl⟩
 |(n,b)::A,σ,σ1,σ2,h1,h2=>by
  simp only[St.cA] at h1
  split at h1
  ·rename_i jK e
   obtain⟨τ,t1,t2⟩:=ZB h1 h2
   obtain⟨Vy,s1,s2⟩:=ah1 e t1
   exact⟨Vy,s1,by simp only[St.cA,s2];exact t2⟩
  ·cases h1
theorem Pa:∀{Bs A:List (Nat×ao)} {σ σ1 σ2:St},σ.cA A=some σ1->σ1.cA Bs=some σ2->∃τ,σ.cA Bs=some τ/\τ.cA A=some σ2
 |[],A,σ,σ1,σ2,h1,h2=>by
  simp only[St.cA] at h2
  injection h2 with h2
  subst h2
  exact⟨σ,rfl,h1⟩
 |(m,c)::Bs,A,σ,σ1,σ2,h1,h2=>by
  simp only[St.cA] at h2
  split at h2
  ·rename_i gI e
   obtain⟨τ,t1,t2⟩:=ZB h1 e
   obtain⟨Vy,s1,s2⟩:=Pa t2 h2
   exact⟨Vy,by simp only[St.cA,t1];exact s1,s2⟩
  ·cases h2
theorem yF:∀{A:List (Nat×ao)} {σ σ1:St},σ.cA A=some σ1->(∀n,σ.used n=true->σ1.used n=true/\σ1.h n=σ.h n)/\σ1.env=σ.env
 |[],σ,σ1,h1=>by
  simp only[St.cA] at h1
  injection h1 with h1
  subst h1
  exact⟨fun n hn=>⟨hn,rfl⟩,rfl⟩
 |(m,c)::A,σ,σ1,h1=>by
  simp only[St.cA] at h1
  split at h1
  ·rename_i jK e
   obtain⟨u1,rfl⟩:=lL e
   obtain⟨t1,t2⟩:=yF h1
   refine⟨fun n hn=>?_,t2⟩
   have aB:n≠m:=fun he=>by subst he;rw[u1] at hn;cases hn
   obtain⟨s1,s2⟩:=t1 n (qR _ _ hn)
   exact⟨s1,by rw[s2];exact cq _ _ _ _ aB⟩
  ·cases h1
structure Wf (σ:St):Prop where
 env:∀s m,(σ.env s).ref m->σ.used m=true
 box:∀m cs c n,σ.h m=some (.box cs)->c∈cs->c.ref n->σ.used n=true
def ah.flat:ah->Bool
 |.c _|.nil _|.bm=>true
 |_=>false
def MO.flat:MO->Bool
 |.t _=>true
 |.k (.one c)=>c.flat
 |.k (.agg cs)=>cs.all ah.flat
 |.k (.bn xs)=>xs.isEmpty
theorem ah.X3 {c:ah} (h:c.flat=true) (m:Nat):¬c.ref m:=by
 cases c<;>first|exact id|(simp[ah.flat] at h)
theorem Wf.arg {σ:St} (W:Wf σ) {x:MO} (hx:x.flat=true) (m:Nat) (hm:(σ.ev x).ref m):σ.used m=true:=by
 cases x with
 |t n=>exact W.env n m hm
 |k v=>cases v with
  |one c=>exact absurd hm (ah.X3 hx m)
  |agg cs=>
   obtain⟨c,hc,hm⟩:=hm
   exact absurd hm (ah.X3 (List.all_eq_true.1 hx c hc) m)
  |bn xs=>
   have:xs=[]:=by simpa[MO.flat] using hx
   subst this
   obtain⟨c,hc,_⟩:=hm
   cases hc
theorem abc (T:aO) (d:Option Nat) (op:aE) (ev:MO->aj) (h:Nat->Option ao) (hc:op.dE=0) {x:aj×List (Nat×ao)} (hx:rd T d op ev h=some x):x.2=[]:=by
 cases op<;>simp[aE.dE] at hc<;>simp only[rd] at hx
 all_goals
  repeat' split at hx
  all_goals first|(cases hx;rfl)|(cases hx)
theorem Ig {σ:St} {e:Nat->aj} {x:MO} (h:∀n,x=.t n->e n=σ.env n):(σ.we e).ev x=σ.ev x:=by
 cases x with
 |t n=>exact h n rfl
 |k v=>rfl
section
variable {T:aO} {dx dy:Option Nat} {x y:aE} {σ σ1 σ2:St}
theorem vL (ua:∀sz p v,x=.store sz p v->dx=none) (h1:exec T dx x σ=some σ1):σ1.env=h9 σ.env dx (acZ dx σ1.env):=by
 have h:=Mz T dx x σ σ.env (fun _ _=>rfl) ua
 rw[apB,h1] at h
 simp only[Option.map_some] at h
 injection h with h
 rw[<-Vm]
 calc σ1.env=(σ1.we (vd σ.env dx σ1.env)).env:=by rw[<-h]
  _=_:=rfl
theorem WS (W:Wf σ) (hd:∀n,dx=some n->dy≠some n) (kf:∀n,dx=some n->MO.t n∉y.args) (sP:∀n,dy=some n->MO.t n∉x.args)
  (IK:∀a∈x.args,a.flat=true) (yi:∀a∈y.args,a.flat=true)
  (ua:∀sz p v,x=.store sz p v->dx=none) (DN:∀sz p v,y=.store sz p v->dy=none) (apN:x.dE=0\/y.dE=0\/(x.dE<=1/\y.dE<=1))
  (h1:exec T dx x σ=some σ1) (h2:exec T dy y σ1=some σ2):∃τ,exec T dy y σ=some τ/\exec T dx x τ=some σ2:=by
 have Zq:∀(e:Nat->aj) (v:aj) (s:St),∀a∈y.args,(s.we (h9 s.env dx v)).ev a=s.ev a:=fun e v s a ha=>Ig fun n hn=>qC fun oR=>kf n oR (hn▸ha)
 have Zn:∀(e:Nat->aj) (v:aj) (s:St),∀a∈x.args,(s.we (h9 s.env dy v)).ev a=s.ev a:=fun e v s a ha=>Ig fun n hn=>qC fun oR=>sP n oR (hn▸ha)
 by_cases cx:x.dE=0
 ·rw[oJ T dx x σ (by omega)] at h1
  cases hr:rd T dx x σ.ev σ.h with
  |none=>rw[hr] at h1;cases h1
  |some p=>
   obtain⟨v,bs⟩:=p
   have hb:bs=[]:=abc T dx x _ _ cx hr
   subst hb
   rw[hr] at h1
   simp only[Option.bind_some,fin,St.cA,Option.map_some] at h1
   injection h1 with h1
   rw[oh] at h1
   subst h1
   rw[Mz T dy y σ _ (Zq σ.env v σ) DN] at h2
   cases hy:exec T dy y σ with
   |none=>rw[hy] at h2;cases h2
   |some τ=>
    rw[hy] at h2
    simp only[Option.map_some] at h2
    injection h2 with h2
    refine⟨τ,rfl,?_⟩
    have rC:=vL DN hy
    rw[oJ T dx x τ (by omega),abd T dx x τ.ev σ.h τ.h cx,B0 T dx x (ev:=σ.ev) (ev':=τ.ev) σ.h (fun a ha=>by
     cases a with
     |t n=>
      show τ.env n=σ.env n
      rw[rC]
      exact qC fun oR=>sP n oR ha
     |k v=>rfl),hr]
    simp only[Option.bind_some,fin,St.cA,Option.map_some]
    rw[<-h2,oh]
    congr 1
    have:h9 τ.env dx v=vd (h9 σ.env dx v) dy τ.env:=by
     rw[Vm,JM σ.env _ _ hd]
     rw[<-rC]
    rw[this]
 ·by_cases cy:y.dE=0
  ·rw[oJ T dy y σ1 (by omega)] at h2
   cases hr:rd T dy y σ1.ev σ1.h with
   |none=>rw[hr] at h2;cases h2
   |some p=>
    obtain⟨v,bs⟩:=p
    have hb:bs=[]:=abc T dy y _ _ cy hr
    subst hb
    rw[hr] at h2
    simp only[Option.bind_some,fin,St.cA,Option.map_some] at h2
    injection h2 with h2
    have rC:=vL ua h1
    refine⟨σ.put dy v,?_,?_⟩
    ·rw[oJ T dy y σ (by omega),abd T dy y σ.ev σ1.h σ.h cy,B0 T dy y (ev:=σ1.ev) (ev':=σ.ev) σ1.h (fun a ha=>by
      cases a with
      |t n=>
       show σ.env n=σ1.env n
       rw[rC]
       exact(qC fun oR=>kf n oR ha).symm
      |k v=>rfl),hr]
     rfl
    ·rw[oh,Mz T dx x σ _ (Zn σ.env v σ) ua,h1]
     simp only[Option.map_some]
     rw[<-h2,oh]
     congr 2
     rw[Vm,<-JM σ.env _ _ hd,<-rC]
  ·have W7:x.dE<=1:=by omega
   have W8:y.dE<=1:=by omega
   rw[oJ T dx x σ W7] at h1
   cases hr:rd T dx x σ.ev σ.h with
   |none=>rw[hr] at h1;cases h1
   |some p=>
    obtain⟨v,A⟩:=p
    rw[hr] at h1
    simp only[Option.bind_some,fin] at h1
    cases hA:σ.cA A with
    |none=>rw[hA] at h1;cases h1
    |some xj=>
     rw[hA] at h1
     simp only[Option.map_some] at h1
     injection h1 with h1
     rw[oh] at h1
     subst h1
     obtain⟨oa,ea⟩:=yF hA
     rw[oJ T dy y _ W8] at h2
     have hry:rd T dy y (xj.we (h9 xj.env dx v)).ev (xj.we (h9 xj.env dx v)).h=rd T dy y σ.ev σ.h:=by
      rw[B0 T dy y (ev:=σ.ev) _ (fun a ha=>by rw[Zq σ.env v xj a ha];cases a with
       |t n=>show xj.env n=σ.env n;rw[ea]
       |k v=>rfl)]
      exact aba (u:=fun n=>σ.used n=true) T dy y σ.ev (fun n hn=>(oa n hn).2) W.box (fun a ha m hm=>W.arg (yi a ha) m hm)
     rw[hry] at h2
     cases D2:rd T dy y σ.ev σ.h with
     |none=>rw[D2] at h2;cases h2
     |some q=>
      obtain⟨v2,Bs⟩:=q
      rw[D2] at h2
      simp only[Option.bind_some,fin,yG] at h2
      cases hB:xj.cA Bs with
      |none=>rw[hB] at h2;cases h2
      |some ac9=>
       rw[hB] at h2
       simp only[Option.map_some] at h2
       injection h2 with h2
       obtain⟨xk,b1,b2⟩:=Pa hA hB
       obtain⟨ob,eb⟩:=yF b1
       obtain⟨oab,eab⟩:=yF hB
       refine⟨xk.put dy v2,?_,?_⟩
       ·rw[oJ T dy y σ W8,D2]
        simp[fin,b1]
       ·rw[oh,oJ T dx x _ W7]
        have hrx:rd T dx x (xk.we (h9 xk.env dy v2)).ev (xk.we (h9 xk.env dy v2)).h=rd T dx x σ.ev σ.h:=by
         rw[B0 T dx x (ev:=σ.ev) _ (fun a ha=>by rw[Zn σ.env v2 xk a ha];cases a with
          |t n=>show xk.env n=σ.env n;rw[eb]
          |k v=>rfl)]
         exact aba (u:=fun n=>σ.used n=true) T dx x σ.ev (fun n hn=>(ob n hn).2) W.box (fun a ha m hm=>W.arg (IK a ha) m hm)
        rw[hrx,hr]
        simp only[Option.bind_some,fin,yG,b2,Option.map_some]
        rw[<-h2,oh,oh]
        congr 1
        show ac9.we (h9 (h9 xk.env dy v2) dx v)=ac9.we (h9 (h9 xj.env dx v) dy v2)
        rw[eb,ea,JM σ.env _ _ hd]
end
theorem AF (T:aO) (o:bR) (σ:St):d7 T o σ=(mw o σ.env).bind fun op=>exec T o.dst op σ:=by
 unfold d7 mw
 cases hg:o.guard with
 |none=>rfl
 |some g=>
  obtain⟨s,ky⟩:=g
  simp only
  generalize σ.env s=v
  cases v with
  |one c=>cases c with
   |c x=>cases x with
    |bool b=>simp only;split<;>rfl
    |_=>rfl
   |_=>rfl
  |agg cs=>rfl
  |bn xs=>cases xs<;>rfl
def bR.s9 (o:bR) (n:Nat):Bool:=(o.op.args.all fun a=>match a with|.t m=>m !=n|_=>true)&&(match o.guard with|some (s,_)=>s !=n|none=>true)
def bR.pZ (o:bR):Bool:=o.op.args.all MO.flat&&(match o.op with|.store ..=>o.dst.isNone|_=>true)
def Aw (x y:bR):Bool:=
 (match x.dst with|some d=>y.s9 d&&(match y.dst with|some e=>e !=d|none=>true)|none=>true)&&
 (match y.dst with|some d=>x.s9 d|none=>true)&&x.pZ&&y.pZ&&(x.op.dE==0||y.op.dE==0||(decide (x.op.dE<=1)&&decide (y.op.dE<=1)))
theorem bR.Jz {o:bR} {n:Nat} (h:o.s9 n=true):MO.t n∉o.op.args:=by
 intro hm
 simp only[bR.s9,Bool.and_eq_true,List.all_eq_true] at h
 have:=h.1 _ hm
 simp at this
theorem H7 {o:bR} {e:Nat->aj} {op:aE} (h:mw o e=some op):op=o.op\/op=.mv (.k (.bn [])):=by
 unfold mw at h
 split at h
 ·injection h with h;exact .inl h.symm
 ·split at h
  ·split at h
   ·injection h with h;exact .inl h.symm
   ·injection h with h;exact .inr h.symm
  ·injection h with h;exact .inr h.symm
  ·cases h
theorem C9 {o:bR} {e e':Nat->aj} (h:∀s w,o.guard=some (s,w)->e' s=e s):mw o e'=mw o e:=by
 unfold mw
 cases hg:o.guard with
 |none=>rfl
 |some g=>obtain⟨s,w⟩:=g;simp only;rw[h s w hg]
theorem ael {T:aO} {x y:bR} {σ σ1 σ2:St} (W:Wf σ) (hc:Aw x y=true) (h1:d7 T x σ=some σ1) (h2:d7 T y σ1=some σ2):
  ∃τ,d7 T y σ=some τ/\d7 T x τ=some σ2:=by
 simp only[Aw,Bool.and_eq_true] at hc
 obtain⟨⟨⟨⟨c1,c2⟩,c3⟩,c4⟩,c5⟩:=hc
 rw[AF] at h1 h2
 cases ex:mw x σ.env with
 |none=>rw[ex] at h1;cases h1
 |some ji=>
  rw[ex] at h1
  have h1:exec T x.dst ji σ=some σ1:=h1
  have jx:ji=x.op\/ji=.mv (.k (.bn [])):=H7 ex
  have zp:∀sz p v,ji=.store sz p v->x.dst=none:=by
   intro sz p v he
   rcases jx with rfl|rfl
   ·simp only[bR.pZ,Bool.and_eq_true,he] at c3;simpa using c3.2
   ·cases he
  have rC:=vL zp h1
  have OX:∀s w,y.guard=some (s,w)->x.dst≠some s:=by
   intro s w hg hd
   rw[hd] at c1
   simp[bR.s9,hg] at c1
  have I2:∀s w,x.guard=some (s,w)->y.dst≠some s:=by
   intro s w hg hd
   rw[hd] at c2
   simp[bR.s9,hg] at c2
  have Ik:mw y σ1.env=mw y σ.env:=C9 fun s w hg=>by rw[rC];exact qC (OX s w hg)
  rw[Ik] at h2
  cases ey:mw y σ.env with
  |none=>rw[ey] at h2;cases h2
  |some iO=>
   rw[ey] at h2
   have h2:exec T y.dst iO σ1=some σ2:=h2
   have jy:iO=y.op\/iO=.mv (.k (.bn [])):=H7 ey
   have xc:∀sz p v,iO=.store sz p v->y.dst=none:=by
    intro sz p v he
    rcases jy with rfl|rfl
    ·simp only[bR.pZ,Bool.and_eq_true,he] at c4;simpa using c4.2
    ·cases he
   have Dk:∀a∈ji.args,a.flat=true:=by
    rcases jx with rfl|rfl
    ·simp only[bR.pZ,Bool.and_eq_true,List.all_eq_true] at c3;exact c3.1
    ·intro a ha;simp[aE.args] at ha;subst ha;rfl
   have Dl:∀a∈iO.args,a.flat=true:=by
    rcases jy with rfl|rfl
    ·simp only[bR.pZ,Bool.and_eq_true,List.all_eq_true] at c4;exact c4.1
    ·intro a ha;simp[aE.args] at ha;subst ha;rfl
   have kf:∀n,x.dst=some n->MO.t n∉iO.args:=by
    intro n hd
    rcases jy with rfl|rfl
    ·rw[hd] at c1
     simp only[Bool.and_eq_true] at c1
     exact bR.Jz c1.1
    ·simp[aE.args]
   have sP:∀n,y.dst=some n->MO.t n∉ji.args:=by
    intro n hd
    rcases jx with rfl|rfl
    ·rw[hd] at c2
     exact bR.Jz c2
    ·simp[aE.args]
   have t9:∀n,x.dst=some n->y.dst≠some n:=by
    intro n hd he
    rw[hd,he] at c1
    simp at c1
   have bL:ji.dE=0\/iO.dE=0\/(ji.dE<=1/\iO.dE<=1):=by
    rcases jx with rfl|rfl
    ·rcases jy with rfl|rfl
     ·simp only[Bool.or_eq_true,beq_iff_eq,Bool.and_eq_true,decide_eq_true_eq,or_assoc] at c5
      exact c5
     ·exact .inr (.inl rfl)
    ·exact .inl rfl
   obtain⟨τ,t1,t2⟩:=WS W t9 kf sP Dk Dl zp xc bL h1 h2
   refine⟨τ,?_,?_⟩
   ·rw[AF,ey];exact t1
   ·rw[AF,C9 (e:=σ.env) (fun s w hg=>by rw[vL xc t1];exact qC (I2 s w hg)),ex];exact t2
end Go.Am
