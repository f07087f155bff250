/- Am20: two operations change places. No condition. -/
import Derived.Test.YthildlkhnnogiaaAm19
set_option linter.unusedVariables false
namespace Go.Am
def g9 (e:Nat->ah) (d:Option Nat) (v:ah):Nat->ah:=
 match d with
 |some n=>ao e n v
 |none=>e
theorem oK (σ:St) (d:Option Nat) (v:ah):σ.put d v=σ.we (g9 σ.env d v):=by cases d<;>rfl
theorem ra {e:Nat->ah} {d:Option Nat} {v:ah} {n:Nat} (h:d≠some n):g9 e d v n=e n:=by
 cases d with
 |none=>rfl
 |some m=>exact bP _ _ _ _ (fun he=>h (by rw[he]))
theorem J5 (e:Nat->ah) {d d':Option Nat} (v v':ah) (h:∀n,d=some n->d'≠some n):g9 (g9 e d v) d' v'=g9 (g9 e d' v') d v:=by
 cases d with
 |none=>rfl
 |some n=>cases d' with
  |none=>rfl
  |some m=>
   have av:m≠n:=fun he=>h n rfl (by rw[he])
   funext k
   simp only[g9,iU]
   by_cases h1:k=m
   ·by_cases h2:k=n
    ·omega
    ·simp[h1,av]
   ·by_cases h2:k=n
    ·simp[h2,Ne.symm av]
    ·simp[h1,h2]
def abN (d:Option Nat) (x:Nat->ah):ah:=
 match d with
 |some n=>x n
 |none=>.one .aX
theorem UH (e:Nat->ah) (d:Option Nat) (x:Nat->ah):sH e d x=g9 e d (abN d x):=by cases d<;>rfl
theorem agE {σ σ1 σ2:St} {n m:Nat} {b c:aj} (h1:σ.ins n b=some σ1) (h2:σ1.ins m c=some σ2):∃τ,σ.ins m c=some τ/\τ.ins n b=some σ2:=by
 obtain⟨u1,rfl⟩:=iI h1
 obtain⟨u2,rfl⟩:=iI h2
 have av:m≠n:=fun e=>by subst e;simp[bo] at u2
 have um:σ.used m=false:=by simpa[bP _ _ _ _ av] using u2
 have un:ao σ.used m true n=false:=by rw[bP _ _ _ _ (Ne.symm av)];exact u1
 refine⟨_,by unfold St.ins;rw[if_neg (by simp[um])],?_⟩
 unfold St.ins
 simp only[un,Bool.false_eq_true,if_false]
 congr 2<;>(funext k;simp only[iU];by_cases h1:k=m<;>by_cases h2:k=n<;>simp_all)
theorem Yw {m:Nat} {c:aj}:∀{A:List (Nat×aj)} {σ σ1 σ2:St},σ.cr A=some σ1->σ1.ins m c=some σ2->∃τ,σ.ins m c=some τ/\τ.cr A=some σ2
 |[],σ,σ1,σ2,h1,h2=>by
  simp only[St.cr] at h1
  injection h1 with h1
  subst h1
  exact⟨σ2,h2,rfl⟩
 |(n,b)::A,σ,σ1,σ2,h1,h2=>by
  simp only[St.cr] at h1
  split at h1
  ·rename_i jE e
   obtain⟨τ,t1,t2⟩:=Yw h1 h2
   obtain⟨UU,s1,s2⟩:=agE e t1
   exact⟨UU,s1,by simp only[St.cr,s2];exact t2⟩
  ·cases h1
theorem Pn:∀{Bs A:List (Nat×aj)} {σ σ1 σ2:St},σ.cr A=some σ1->σ1.cr Bs=some σ2->∃τ,σ.cr Bs=some τ/\τ.cr A=some σ2
 |[],A,σ,σ1,σ2,h1,h2=>by
  simp only[St.cr] at h2
  injection h2 with h2
  subst h2
  exact⟨σ,rfl,h1⟩
 |(m,c)::Bs,A,σ,σ1,σ2,h1,h2=>by
  simp only[St.cr] at h2
  split at h2
  ·rename_i fE e
   obtain⟨τ,t1,t2⟩:=Yw h1 e
   obtain⟨UU,s1,s2⟩:=Pn t2 h2
   exact⟨UU,by simp only[St.cr,t1];exact s1,s2⟩
  ·cases h2
theorem zN:∀{A:List (Nat×aj)} {σ σ1:St},σ.cr A=some σ1->(∀n,σ.used n=true->σ1.used n=true/\σ1.h n=σ.h n)/\σ1.env=σ.env
 |[],σ,σ1,h1=>by
  simp only[St.cr] at h1
  injection h1 with h1
  subst h1
  exact⟨fun n hn=>⟨hn,rfl⟩,rfl⟩
 |(m,c)::A,σ,σ1,h1=>by
  simp only[St.cr] at h1
  split at h1
  ·rename_i jE e
   obtain⟨u1,rfl⟩:=iI e
   obtain⟨t1,t2⟩:=zN h1
   refine⟨fun n hn=>?_,t2⟩
   have av:n≠m:=fun he=>by subst he;rw[u1] at hn;cases hn
   obtain⟨s1,s2⟩:=t1 n (lQ _ _ hn)
   exact⟨s1,by rw[s2];exact bP _ _ _ _ av⟩
  ·cases h1
structure Wf (σ:St):Prop where
 env:∀s m,(σ.env s).ref m->σ.used m=true
 box:∀m cs c n,σ.h m=some (.box cs)->c∈cs->c.ref n->σ.used n=true
def ab.flat:ab->Bool
 |.c _|.nil _|.aX=>true
 |_=>false
def MO.flat:MO->Bool
 |.t _=>true
 |.k (.one c)=>c.flat
 |.k (.agg cs)=>cs.all ab.flat
 |.k (.bk xs)=>xs.isEmpty
theorem ab.W0 {c:ab} (h:c.flat=true) (m:Nat):¬c.ref m:=by
 cases c<;>first|exact id|(simp[ab.flat] at h)
theorem Wf.arg {σ:St} (W:Wf σ) {x:MO} (hx:x.flat=true) (m:Nat) (hm:(σ.ev x).ref m):σ.used m=true:=by
 cases x with
 |t n=>exact W.env n m hm
 |k v=>cases v with
  |one c=>exact absurd hm (ab.W0 hx m)
  |agg cs=>
   obtain⟨c,hc,hm⟩:=hm
   exact absurd hm (ab.W0 (List.all_eq_true.1 hx c hc) m)
  |bk xs=>
   have:xs=[]:=by simpa[MO.flat] using hx
   subst this
   obtain⟨c,hc,_⟩:=hm
   cases hc
theorem ZZ (T:aF) (d:Option Nat) (op:aI) (ev:MO->ah) (h:Nat->Option aj) (hc:op.dD=0) {x:ah×List (Nat×aj)} (hx:rd T d op ev h=some x):x.2=[]:=by
 cases op<;>simp[aI.dD] at hc<;>simp only[rd] at hx
 all_goals
  repeat' split at hx
  all_goals first|(cases hx;rfl)|(cases hx)
theorem IA {σ:St} {e:Nat->ah} {x:MO} (h:∀n,x=.t n->e n=σ.env n):(σ.we e).ev x=σ.ev x:=by
 cases x with
 |t n=>exact h n rfl
 |k v=>rfl
section
variable {T:aF} {dx dy:Option Nat} {x y:aI} {σ σ1 σ2:St}
theorem wV (u7:∀sz p v,x=.store sz p v->dx=none) (h1:exec T dx x σ=some σ1):σ1.env=g9 σ.env dx (abN dx σ1.env):=by
 have h:=MT T dx x σ σ.env (fun _ _=>rfl) u7
 rw[amM,h1] at h
 simp only[Option.map_some] at h
 injection h with h
 rw[<-UH]
 calc σ1.env=(σ1.we (sH σ.env dx σ1.env)).env:=by rw[<-h]
  _=_:=rfl
theorem VT (W:Wf σ) (hd:∀n,dx=some n->dy≠some n) (j4:∀n,dx=some n->MO.t n∉y.args) (tE:∀n,dy=some n->MO.t n∉x.args)
  (I0:∀a∈x.args,a.flat=true) (zq:∀a∈y.args,a.flat=true)
  (u7:∀sz p v,x=.store sz p v->dx=none) (En:∀sz p v,y=.store sz p v->dy=none) (am8:x.dD=0\/y.dD=0\/(x.dD<=1/\y.dD<=1))
  (h1:exec T dx x σ=some σ1) (h2:exec T dy y σ1=some σ2):∃τ,exec T dy y σ=some τ/\exec T dx x τ=some σ2:=by
 have Yh:∀(e:Nat->ah) (v:ah) (s:St),∀a∈y.args,(s.we (g9 s.env dx v)).ev a=s.ev a:=fun e v s a ha=>IA fun n hn=>ra fun pq=>j4 n pq (hn▸ha)
 have Yd:∀(e:Nat->ah) (v:ah) (s:St),∀a∈x.args,(s.we (g9 s.env dy v)).ev a=s.ev a:=fun e v s a ha=>IA fun n hn=>ra fun pq=>tE n pq (hn▸ha)
 by_cases cx:x.dD=0
 ·rw[pd T dx x σ (by omega)] at h1
  cases hr:rd T dx x σ.ev σ.h with
  |none=>rw[hr] at h1;cases h1
  |some p=>
   obtain⟨v,bs⟩:=p
   have hb:bs=[]:=ZZ T dx x _ _ cx hr
   subst hb
   rw[hr] at h1
   simp only[Option.bind_some,gv,St.cr,Option.map_some] at h1
   injection h1 with h1
   rw[oK] at h1
   subst h1
   rw[MT T dy y σ _ (Yh σ.env v σ) En] at h2
   cases hy:exec T dy y σ with
   |none=>rw[hy] at h2;cases h2
   |some τ=>
    rw[hy] at h2
    simp only[Option.map_some] at h2
    injection h2 with h2
    refine⟨τ,rfl,?_⟩
    have r5:=wV En hy
    rw[pd T dx x τ (by omega),Z0 T dx x τ.ev σ.h τ.h cx,CI T dx x (ev:=σ.ev) (ev':=τ.ev) σ.h (fun a ha=>by
     cases a with
     |t n=>
      show τ.env n=σ.env n
      rw[r5]
      exact ra fun pq=>tE n pq ha
     |k v=>rfl),hr]
    simp only[Option.bind_some,gv,St.cr,Option.map_some]
    rw[<-h2,oK]
    congr 1
    have:g9 τ.env dx v=sH (g9 σ.env dx v) dy τ.env:=by
     rw[UH,J5 σ.env _ _ hd]
     rw[<-r5]
    rw[this]
 ·by_cases cy:y.dD=0
  ·rw[pd T dy y σ1 (by omega)] at h2
   cases hr:rd T dy y σ1.ev σ1.h with
   |none=>rw[hr] at h2;cases h2
   |some p=>
    obtain⟨v,bs⟩:=p
    have hb:bs=[]:=ZZ T dy y _ _ cy hr
    subst hb
    rw[hr] at h2
    simp only[Option.bind_some,gv,St.cr,Option.map_some] at h2
    injection h2 with h2
    have r5:=wV u7 h1
    refine⟨σ.put dy v,?_,?_⟩
    ·rw[pd T dy y σ (by omega),Z0 T dy y σ.ev σ1.h σ.h cy,CI T dy y (ev:=σ1.ev) (ev':=σ.ev) σ1.h (fun a ha=>by
      cases a with
      |t n=>
       show σ.env n=σ1.env n
       rw[r5]
       exact(ra fun pq=>j4 n pq ha).symm
      |k v=>rfl),hr]
     rfl
    ·rw[oK,MT T dx x σ _ (Yd σ.env v σ) u7,h1]
     simp only[Option.map_some]
     rw[<-h2,oK]
     congr 2
     rw[UH,<-J5 σ.env _ _ hd,<-r5]
  ·have V4:x.dD<=1:=by omega
   have V5:y.dD<=1:=by omega
   rw[pd T dx x σ V4] at h1
   cases hr:rd T dx x σ.ev σ.h with
   |none=>rw[hr] at h1;cases h1
   |some p=>
    obtain⟨v,A⟩:=p
    rw[hr] at h1
    simp only[Option.bind_some,gv] at h1
    cases hA:σ.cr A with
    |none=>rw[hA] at h1;cases h1
    |some yu=>
     rw[hA] at h1
     simp only[Option.map_some] at h1
     injection h1 with h1
     rw[oK] at h1
     subst h1
     obtain⟨oa,ea⟩:=zN hA
     rw[pd T dy y _ V5] at h2
     have hry:rd T dy y (yu.we (g9 yu.env dx v)).ev (yu.we (g9 yu.env dx v)).h=rd T dy y σ.ev σ.h:=by
      rw[CI T dy y (ev:=σ.ev) _ (fun a ha=>by rw[Yh σ.env v yu a ha];cases a with
       |t n=>show yu.env n=σ.env n;rw[ea]
       |k v=>rfl)]
      exact ZX (u:=fun n=>σ.used n=true) T dy y σ.ev (fun n hn=>(oa n hn).2) W.box (fun a ha m hm=>W.arg (zq a ha) m hm)
     rw[hry] at h2
     cases EH:rd T dy y σ.ev σ.h with
     |none=>rw[EH] at h2;cases h2
     |some q=>
      obtain⟨v2,Bs⟩:=q
      rw[EH] at h2
      simp only[Option.bind_some,gv,zO] at h2
      cases hB:yu.cr Bs with
      |none=>rw[hB] at h2;cases h2
      |some abY=>
       rw[hB] at h2
       simp only[Option.map_some] at h2
       injection h2 with h2
       obtain⟨yw,b1,b2⟩:=Pn hA hB
       obtain⟨ob,eb⟩:=zN b1
       obtain⟨oab,eab⟩:=zN hB
       refine⟨yw.put dy v2,?_,?_⟩
       ·rw[pd T dy y σ V5,EH]
        simp[gv,b1]
       ·rw[oK,pd T dx x _ V4]
        have hrx:rd T dx x (yw.we (g9 yw.env dy v2)).ev (yw.we (g9 yw.env dy v2)).h=rd T dx x σ.ev σ.h:=by
         rw[CI T dx x (ev:=σ.ev) _ (fun a ha=>by rw[Yd σ.env v2 yw a ha];cases a with
          |t n=>show yw.env n=σ.env n;rw[eb]
          |k v=>rfl)]
         exact ZX (u:=fun n=>σ.used n=true) T dx x σ.ev (fun n hn=>(ob n hn).2) W.box (fun a ha m hm=>W.arg (I0 a ha) m hm)
        rw[hrx,hr]
        simp only[Option.bind_some,gv,zO,b2,Option.map_some]
        rw[<-h2,oK,oK]
        congr 1
        show abY.we (g9 (g9 yw.env dy v2) dx v)=abY.we (g9 (g9 yu.env dx v) dy v2)
        rw[eb,ea,J5 σ.env _ _ hd]
end
theorem BB (T:aF) (o:bq) (σ:St):cQ T o σ=(mb o σ.env).bind fun op=>exec T o.dst op σ:=by
 unfold cQ mb
 cases hg:o.guard with
 |none=>rfl
 |some g=>
  obtain⟨s,kl⟩:=g
  simp only
  generalize σ.env s=v
  cases v with
  |one c=>cases c with
   |c x=>cases x with
    |bool b=>simp only;split<;>rfl
    |_=>rfl
   |_=>rfl
  |agg cs=>rfl
  |bk xs=>cases xs<;>rfl
def bq.t7 (o:bq) (n:Nat):Bool:=(o.op.args.all fun a=>match a with|.t m=>m !=n|_=>true)&&(match o.guard with|some (s,_)=>s !=n|none=>true)
def bq.qy (o:bq):Bool:=o.op.args.all MO.flat&&(match o.op with|.store ..=>o.dst.isNone|_=>true)
def Bn (x y:bq):Bool:=
 (match x.dst with|some d=>y.t7 d&&(match y.dst with|some e=>e !=d|none=>true)|none=>true)&&
 (match y.dst with|some d=>x.t7 d|none=>true)&&x.qy&&y.qy&&(x.op.dD==0||y.op.dD==0||(decide (x.op.dD<=1)&&decide (y.op.dD<=1)))
theorem bq.JV {o:bq} {n:Nat} (h:o.t7 n=true):MO.t n∉o.op.args:=by
 intro hm
 simp only[bq.t7,Bool.and_eq_true,List.all_eq_true] at h
 have:=h.1 _ hm
 simp at this
theorem Iv {o:bq} {e:Nat->ah} {op:aI} (h:mb o e=some op):op=o.op\/op=.mv (.k (.bk [])):=by
 unfold mb at h
 split at h
 ·injection h with h;exact .inl h.symm
 ·split at h
  ·split at h
   ·injection h with h;exact .inl h.symm
   ·injection h with h;exact .inr h.symm
  ·injection h with h;exact .inr h.symm
  ·cases h
theorem DV {o:bq} {e e':Nat->ah} (h:∀s w,o.guard=some (s,w)->e' s=e s):mb o e'=mb o e:=by
 unfold mb
 cases hg:o.guard with
 |none=>rfl
 |some g=>obtain⟨s,w⟩:=g;simp only;rw[h s w hg]
theorem acO {T:aF} {x y:bq} {σ σ1 σ2:St} (W:Wf σ) (hc:Bn x y=true) (h1:cQ T x σ=some σ1) (h2:cQ T y σ1=some σ2):
  ∃τ,cQ T y σ=some τ/\cQ T x τ=some σ2:=by
 simp only[Bn,Bool.and_eq_true] at hc
 obtain⟨⟨⟨⟨c1,c2⟩,c3⟩,c4⟩,c5⟩:=hc
 rw[BB] at h1 h2
 cases ex:mb x σ.env with
 |none=>rw[ex] at h1;cases h1
 |some jf=>
  rw[ex] at h1
  have h1:exec T x.dst jf σ=some σ1:=h1
  have jx:jf=x.op\/jf=.mv (.k (.bk [])):=Iv ex
  have Ak:∀sz p v,jf=.store sz p v->x.dst=none:=by
   intro sz p v he
   rcases jx with rfl|rfl
   ·simp only[bq.qy,Bool.and_eq_true,he] at c3;simpa using c3.2
   ·cases he
  have r5:=wV Ak h1
  have O2:∀s w,y.guard=some (s,w)->x.dst≠some s:=by
   intro s w hg hd
   rw[hd] at c1
   simp[bq.t7,hg] at c1
  have Jj:∀s w,x.guard=some (s,w)->y.dst≠some s:=by
   intro s w hg hd
   rw[hd] at c2
   simp[bq.t7,hg] at c2
  have ID:mb y σ1.env=mb y σ.env:=DV fun s w hg=>by rw[r5];exact ra (O2 s w hg)
  rw[ID] at h2
  cases ey:mb y σ.env with
  |none=>rw[ey] at h2;cases h2
  |some iP=>
   rw[ey] at h2
   have h2:exec T y.dst iP σ1=some σ2:=h2
   have jy:iP=y.op\/iP=.mv (.k (.bk [])):=Iv ey
   have yl:∀sz p v,iP=.store sz p v->y.dst=none:=by
    intro sz p v he
    rcases jy with rfl|rfl
    ·simp only[bq.qy,Bool.and_eq_true,he] at c4;simpa using c4.2
    ·cases he
   have D4:∀a∈jf.args,a.flat=true:=by
    rcases jx with rfl|rfl
    ·simp only[bq.qy,Bool.and_eq_true,List.all_eq_true] at c3;exact c3.1
    ·intro a ha;simp[aI.args] at ha;subst ha;rfl
   have D5:∀a∈iP.args,a.flat=true:=by
    rcases jy with rfl|rfl
    ·simp only[bq.qy,Bool.and_eq_true,List.all_eq_true] at c4;exact c4.1
    ·intro a ha;simp[aI.args] at ha;subst ha;rfl
   have j4:∀n,x.dst=some n->MO.t n∉iP.args:=by
    intro n hd
    rcases jy with rfl|rfl
    ·rw[hd] at c1
     simp only[Bool.and_eq_true] at c1
     exact bq.JV c1.1
    ·simp[aI.args]
   have tE:∀n,y.dst=some n->MO.t n∉jf.args:=by
    intro n hd
    rcases jx with rfl|rfl
    ·rw[hd] at c2
     exact bq.JV c2
    ·simp[aI.args]
   have u6:∀n,x.dst=some n->y.dst≠some n:=by
    intro n hd he
    rw[hd,he] at c1
    simp at c1
   have bA:jf.dD=0\/iP.dD=0\/(jf.dD<=1/\iP.dD<=1):=by
    rcases jx with rfl|rfl
    ·rcases jy with rfl|rfl
     ·simp only[Bool.or_eq_true,beq_iff_eq,Bool.and_eq_true,decide_eq_true_eq,or_assoc] at c5
      exact c5
     ·exact .inr (.inl rfl)
    ·exact .inl rfl
   obtain⟨τ,t1,t2⟩:=VT W u6 j4 tE D4 D5 Ak yl bA h1 h2
   refine⟨τ,?_,?_⟩
   ·rw[BB,ey];exact t1
   ·rw[BB,DV (e:=σ.env) (fun s w hg=>by rw[wV yl t1];exact ra (Jj s w hg)),ex];exact t2
end Go.Am
