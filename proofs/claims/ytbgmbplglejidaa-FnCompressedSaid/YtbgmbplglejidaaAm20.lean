/- Am20: two operations change places. No condition. -/
import Derived.Test.YtbgmbplglejidaaAm19
set_option linter.unusedVariables false
namespace Go.Am
def io (e:Nat->aj) (d:Option Nat) (v:aj):Nat->aj:=
 match d with
 |some n=>av e n v
 |none=>e
theorem oS (σ:St) (d:Option Nat) (v:aj):σ.put d v=σ.we (io σ.env d v):=by cases d<;>rfl
theorem rh {e:Nat->aj} {d:Option Nat} {v:aj} {n:Nat} (h:d≠some n):io e d v n=e n:=by
 cases d with
 |none=>rfl
 |some m=>exact cz _ _ _ _ (fun he=>h (by rw[he]))
theorem KB (e:Nat->aj) {d d':Option Nat} (v v':aj) (h:∀n,d=some n->d'≠some n):io (io e d v) d' v'=io (io e d' v') d v:=by
 cases d with
 |none=>rfl
 |some n=>cases d' with
  |none=>rfl
  |some m=>
   have aC:m≠n:=fun he=>h n rfl (by rw[he])
   funext k
   simp only[io,iY]
   by_cases h1:k=m
   ·by_cases h2:k=n
    ·omega
    ·simp[h1,aC]
   ·by_cases h2:k=n
    ·simp[h2,Ne.symm aC]
    ·simp[h1,h2]
def adQ (d:Option Nat) (x:Nat->aj):aj:=
 match d with
 |some n=>x n
 |none=>.one .bn
theorem V5 (e:Nat->aj) (d:Option Nat) (x:Nat->aj):vt e d x=io e d (adQ d x):=by cases d<;>rfl
theorem aiE {σ σ1 σ2:St} {n m:Nat} {b c:ao} (h1:σ.ins n b=some σ1) (h2:σ1.ins m c=some σ2):∃τ,σ.ins m c=some τ/\τ.ins n b=some σ2:=by
 obtain⟨u1,rfl⟩:=mE h1
 obtain⟨u2,rfl⟩:=mE h2
 have aC:m≠n:=fun e=>by subst e;simp[bG] at u2
 have um:σ.used m=false:=by simpa[cz _ _ _ _ aC] using u2
 have un:av σ.used m true n=false:=by rw[cz _ _ _ _ (Ne.symm aC)];exact u1
 refine⟨_,by unfold St.ins;rw[if_neg (by simp[um])],?_⟩
 unfold St.ins
 simp only[un,Bool.false_eq_true,if_false]
 congr 2<;>(funext k;simp only[iY];by_cases h1:k=m<;>by_cases h2:k=n<;>simp_all)
theorem aal {m:Nat} {c:ao}:∀{A:List (Nat×ao)} {σ σ1 σ2:St},σ.cD A=some σ1->σ1.ins m c=some σ2->∃τ,σ.ins m c=some τ/\τ.cD A=some σ2
 |[],σ,σ1,σ2,h1,h2=>by
  simp only[St.cD] at h1
  injection h1 with h1
  subst h1
  exact⟨σ2,h2,rfl⟩
 |(n,b)::A,σ,σ1,σ2,h1,h2=>by
  simp only[St.cD] at h1
  split at h1
  ·rename_i jT e
   obtain⟨τ,t1,t2⟩:=aal h1 h2
   obtain⟨Wi,s1,s2⟩:=aiE e t1
   exact⟨Wi,s1,by simp only[St.cD,s2];exact t2⟩
  ·cases h1
theorem P9:∀{Bs A:List (Nat×ao)} {σ σ1 σ2:St},σ.cD A=some σ1->σ1.cD Bs=some σ2->∃τ,σ.cD Bs=some τ/\τ.cD A=some σ2
 |[],A,σ,σ1,σ2,h1,h2=>by
  simp only[St.cD] at h2
  injection h2 with h2
  subst h2
  exact⟨σ,rfl,h1⟩
 |(m,c)::Bs,A,σ,σ1,σ2,h1,h2=>by
  simp only[St.cD] at h2
  split at h2
  ·rename_i gW e
   obtain⟨τ,t1,t2⟩:=aal h1 e
   obtain⟨Wi,s1,s2⟩:=P9 t2 h2
   exact⟨Wi,by simp only[St.cD,t1];exact s1,s2⟩
  ·cases h2
theorem yY:∀{A:List (Nat×ao)} {σ σ1:St},σ.cD A=some σ1->(∀n,σ.used n=true->σ1.used n=true/\σ1.h n=σ.h n)/\σ1.env=σ.env
 |[],σ,σ1,h1=>by
  simp only[St.cD] at h1
  injection h1 with h1
  subst h1
  exact⟨fun n hn=>⟨hn,rfl⟩,rfl⟩
 |(m,c)::A,σ,σ1,h1=>by
  simp only[St.cD] at h1
  split at h1
  ·rename_i jT e
   obtain⟨u1,rfl⟩:=mE e
   obtain⟨t1,t2⟩:=yY h1
   refine⟨fun n hn=>?_,t2⟩
   have aC:n≠m:=fun he=>by subst he;rw[u1] at hn;cases hn
   obtain⟨s1,s2⟩:=t1 n (rE _ _ hn)
   exact⟨s1,by rw[s2];exact cz _ _ _ _ aC⟩
  ·cases h1
structure Wf (σ:St):Prop where
 env:∀s m,(σ.env s).ref m->σ.used m=true
 box:∀m cs c n,σ.h m=some (.box cs)->c∈cs->c.ref n->σ.used n=true
def ah.flat:ah->Bool
 |.c _|.nil _|.bn=>true
 |_=>false
def MO.flat:MO->Bool
 |.t _=>true
 |.k (.one c)=>c.flat
 |.k (.agg cs)=>cs.all ah.flat
 |.k (.bq xs)=>xs.isEmpty
theorem ah.YO {c:ah} (h:c.flat=true) (m:Nat):¬c.ref m:=by
 cases c<;>first|exact id|(simp[ah.flat] at h)
theorem Wf.arg {σ:St} (W:Wf σ) {x:MO} (hx:x.flat=true) (m:Nat) (hm:(σ.ev x).ref m):σ.used m=true:=by
 cases x with
 |t n=>exact W.env n m hm
 |k v=>cases v with
  |one c=>exact absurd hm (ah.YO hx m)
  |agg cs=>
   obtain⟨c,hc,hm⟩:=hm
   exact absurd hm (ah.YO (List.all_eq_true.1 hx c hc) m)
  |bq xs=>
   have:xs=[]:=by simpa[MO.flat] using hx
   subst this
   obtain⟨c,hc,_⟩:=hm
   cases hc
theorem abW (T:aO) (d:Option Nat) (op:aH) (ev:MO->aj) (h:Nat->Option ao) (hc:op.dI=0) {x:aj×List (Nat×ao)} (hx:rd T d op ev h=some x):x.2=[]:=by
 cases op<;>simp[aH.dI] at hc<;>simp only[rd] at hx
 all_goals
  repeat' split at hx
  all_goals first|(cases hx;rfl)|(cases hx)
theorem IY {σ:St} {e:Nat->aj} {x:MO} (h:∀n,x=.t n->e n=σ.env n):(σ.we e).ev x=σ.ev x:=by
 cases x with
 |t n=>exact h n rfl
 |k v=>rfl
section
variable {T:aO} {dx dy:Option Nat} {x y:aH} {σ σ1 σ2:St}
theorem v7 (uA:∀sz p v,x=.store sz p v->dx=none) (h1:exec T dx x σ=some σ1):σ1.env=io σ.env dx (adQ dx σ1.env):=by
 have h:=Nu T dx x σ σ.env (fun _ _=>rfl) uA
 rw[ap0,h1] at h
 simp only[Option.map_some] at h
 injection h with h
 rw[<-V5]
 calc σ1.env=(σ1.we (vt σ.env dx σ1.env)).env:=by rw[<-h]
  _=_:=rfl
theorem XC (W:Wf σ) (hd:∀n,dx=some n->dy≠some n) (kA:∀n,dx=some n->MO.t n∉y.args) (tp:∀n,dy=some n->MO.t n∉x.args)
  (Ju:∀a∈x.args,a.flat=true) (yD:∀a∈y.args,a.flat=true)
  (uA:∀sz p v,x=.store sz p v->dx=none) (Er:∀sz p v,y=.store sz p v->dy=none) (aqc:x.dI=0\/y.dI=0\/(x.dI<=1/\y.dI<=1))
  (h1:exec T dx x σ=some σ1) (h2:exec T dy y σ1=some σ2):∃τ,exec T dy y σ=some τ/\exec T dx x τ=some σ2:=by
 have aab:∀(e:Nat->aj) (v:aj) (s:St),∀a∈y.args,(s.we (io s.env dx v)).ev a=s.ev a:=fun e v s a ha=>IY fun n hn=>rh fun pF=>kA n pF (hn▸ha)
 have Z8:∀(e:Nat->aj) (v:aj) (s:St),∀a∈x.args,(s.we (io s.env dy v)).ev a=s.ev a:=fun e v s a ha=>IY fun n hn=>rh fun pF=>tp n pF (hn▸ha)
 by_cases cx:x.dI=0
 ·rw[pu T dx x σ (by omega)] at h1
  cases hr:rd T dx x σ.ev σ.h with
  |none=>rw[hr] at h1;cases h1
  |some p=>
   obtain⟨v,bs⟩:=p
   have hb:bs=[]:=abW T dx x _ _ cx hr
   subst hb
   rw[hr] at h1
   simp only[Option.bind_some,fin,St.cD,Option.map_some] at h1
   injection h1 with h1
   rw[oS] at h1
   subst h1
   rw[Nu T dy y σ _ (aab σ.env v σ) Er] at h2
   cases hy:exec T dy y σ with
   |none=>rw[hy] at h2;cases h2
   |some τ=>
    rw[hy] at h2
    simp only[Option.map_some] at h2
    injection h2 with h2
    refine⟨τ,rfl,?_⟩
    have sf:=v7 Er hy
    rw[pu T dx x τ (by omega),abX T dx x τ.ev σ.h τ.h cx,Cx T dx x (ev:=σ.ev) (ev':=τ.ev) σ.h (fun a ha=>by
     cases a with
     |t n=>
      show τ.env n=σ.env n
      rw[sf]
      exact rh fun pF=>tp n pF ha
     |k v=>rfl),hr]
    simp only[Option.bind_some,fin,St.cD,Option.map_some]
    rw[<-h2,oS]
    congr 1
    have:io τ.env dx v=vt (io σ.env dx v) dy τ.env:=by
     rw[V5,KB σ.env _ _ hd]
     rw[<-sf]
    rw[this]
 ·by_cases cy:y.dI=0
  ·rw[pu T dy y σ1 (by omega)] at h2
   cases hr:rd T dy y σ1.ev σ1.h with
   |none=>rw[hr] at h2;cases h2
   |some p=>
    obtain⟨v,bs⟩:=p
    have hb:bs=[]:=abW T dy y _ _ cy hr
    subst hb
    rw[hr] at h2
    simp only[Option.bind_some,fin,St.cD,Option.map_some] at h2
    injection h2 with h2
    have sf:=v7 uA h1
    refine⟨σ.put dy v,?_,?_⟩
    ·rw[pu T dy y σ (by omega),abX T dy y σ.ev σ1.h σ.h cy,Cx T dy y (ev:=σ1.ev) (ev':=σ.ev) σ1.h (fun a ha=>by
      cases a with
      |t n=>
       show σ.env n=σ1.env n
       rw[sf]
       exact(rh fun pF=>kA n pF ha).symm
      |k v=>rfl),hr]
     rfl
    ·rw[oS,Nu T dx x σ _ (Z8 σ.env v σ) uA,h1]
     simp only[Option.map_some]
     rw[<-h2,oS]
     congr 2
     rw[V5,<-KB σ.env _ _ hd,<-sf]
  ·have XP:x.dI<=1:=by omega
   have XQ:y.dI<=1:=by omega
   rw[pu T dx x σ XP] at h1
   cases hr:rd T dx x σ.ev σ.h with
   |none=>rw[hr] at h1;cases h1
   |some p=>
    obtain⟨v,A⟩:=p
    rw[hr] at h1
    simp only[Option.bind_some,fin] at h1
    cases hA:σ.cD A with
    |none=>rw[hA] at h1;cases h1
    |some xw=>
     rw[hA] at h1
     simp only[Option.map_some] at h1
     injection h1 with h1
     rw[oS] at h1
     subst h1
     obtain⟨oa,ea⟩:=yY hA
     rw[pu T dy y _ XQ] at h2
     have hry:rd T dy y (xw.we (io xw.env dx v)).ev (xw.we (io xw.env dx v)).h=rd T dy y σ.ev σ.h:=by
      rw[Cx T dy y (ev:=σ.ev) _ (fun a ha=>by rw[aab σ.env v xw a ha];cases a with
       |t n=>show xw.env n=σ.env n;rw[ea]
       |k v=>rfl)]
      exact abU (u:=fun n=>σ.used n=true) T dy y σ.ev (fun n hn=>(oa n hn).2) W.box (fun a ha m hm=>W.arg (yD a ha) m hm)
     rw[hry] at h2
     cases EF:rd T dy y σ.ev σ.h with
     |none=>rw[EF] at h2;cases h2
     |some q=>
      obtain⟨v2,Bs⟩:=q
      rw[EF] at h2
      simp only[Option.bind_some,fin,yZ] at h2
      cases hB:xw.cD Bs with
      |none=>rw[hB] at h2;cases h2
      |some ad3=>
       rw[hB] at h2
       simp only[Option.map_some] at h2
       injection h2 with h2
       obtain⟨xx,b1,b2⟩:=P9 hA hB
       obtain⟨ob,eb⟩:=yY b1
       obtain⟨oab,eab⟩:=yY hB
       refine⟨xx.put dy v2,?_,?_⟩
       ·rw[pu T dy y σ XQ,EF]
        simp[fin,b1]
       ·rw[oS,pu T dx x _ XP]
        have hrx:rd T dx x (xx.we (io xx.env dy v2)).ev (xx.we (io xx.env dy v2)).h=rd T dx x σ.ev σ.h:=by
         rw[Cx T dx x (ev:=σ.ev) _ (fun a ha=>by rw[Z8 σ.env v2 xx a ha];cases a with
          |t n=>show xx.env n=σ.env n;rw[eb]
          |k v=>rfl)]
         exact abU (u:=fun n=>σ.used n=true) T dx x σ.ev (fun n hn=>(ob n hn).2) W.box (fun a ha m hm=>W.arg (Ju a ha) m hm)
        rw[hrx,hr]
        simp only[Option.bind_some,fin,yZ,b2,Option.map_some]
        rw[<-h2,oS,oS]
        congr 1
        show ad3.we (io (io xx.env dy v2) dx v)=ad3.we (io (io xw.env dx v) dy v2)
        rw[eb,ea,KB σ.env _ _ hd]
end
theorem Bc (T:aO) (o:bV) (σ:St):d9 T o σ=(mT o σ.env).bind fun op=>exec T o.dst op σ:=by
 unfold d9 mT
 cases hg:o.guard with
 |none=>rfl
 |some g=>
  obtain⟨s,kP⟩:=g
  simp only
  generalize σ.env s=v
  cases v with
  |one c=>cases c with
   |c x=>cases x with
    |bool b=>simp only;split<;>rfl
    |_=>rfl
   |_=>rfl
  |agg cs=>rfl
  |bq xs=>cases xs<;>rfl
def bV.tC (o:bV) (n:Nat):Bool:=(o.op.args.all fun a=>match a with|.t m=>m !=n|_=>true)&&(match o.guard with|some (s,_)=>s !=n|none=>true)
def bV.qG (o:bV):Bool:=o.op.args.all MO.flat&&(match o.op with|.store ..=>o.dst.isNone|_=>true)
def AY (x y:bV):Bool:=
 (match x.dst with|some d=>y.tC d&&(match y.dst with|some e=>e !=d|none=>true)|none=>true)&&
 (match y.dst with|some d=>x.tC d|none=>true)&&x.qG&&y.qG&&(x.op.dI==0||y.op.dI==0||(decide (x.op.dI<=1)&&decide (y.op.dI<=1)))
theorem bV.Kr {o:bV} {n:Nat} (h:o.tC n=true):MO.t n∉o.op.args:=by
 intro hm
 simp only[bV.tC,Bool.and_eq_true,List.all_eq_true] at h
 have:=h.1 _ hm
 simp at this
theorem IM {o:bV} {e:Nat->aj} {op:aH} (h:mT o e=some op):op=o.op\/op=.mv (.k (.bq [])):=by
 unfold mT at h
 split at h
 ·injection h with h;exact .inl h.symm
 ·split at h
  ·split at h
   ·injection h with h;exact .inl h.symm
   ·injection h with h;exact .inr h.symm
  ·injection h with h;exact .inr h.symm
  ·cases h
theorem DP {o:bV} {e e':Nat->aj} (h:∀s w,o.guard=some (s,w)->e' s=e s):mT o e'=mT o e:=by
 unfold mT
 cases hg:o.guard with
 |none=>rfl
 |some g=>obtain⟨s,w⟩:=g;simp only;rw[h s w hg]
theorem ae7 {T:aO} {x y:bV} {σ σ1 σ2:St} (W:Wf σ) (hc:AY x y=true) (h1:d9 T x σ=some σ1) (h2:d9 T y σ1=some σ2):
  ∃τ,d9 T y σ=some τ/\d9 T x τ=some σ2:=by
 simp only[AY,Bool.and_eq_true] at hc
 obtain⟨⟨⟨⟨c1,c2⟩,c3⟩,c4⟩,c5⟩:=hc
 rw[Bc] at h1 h2
 cases ex:mT x σ.env with
 |none=>rw[ex] at h1;cases h1
 |some jt=>
  rw[ex] at h1
  have h1:exec T x.dst jt σ=some σ1:=h1
  have jx:jt=x.op\/jt=.mv (.k (.bq [])):=IM ex
  have zQ:∀sz p v,jt=.store sz p v->x.dst=none:=by
   intro sz p v he
   rcases jx with rfl|rfl
   ·simp only[bV.qG,Bool.and_eq_true,he] at c3;simpa using c3.2
   ·cases he
  have sf:=v7 zQ h1
  have PT:∀s w,y.guard=some (s,w)->x.dst≠some s:=by
   intro s w hg hd
   rw[hd] at c1
   simp[bV.tC,hg] at c1
  have JH:∀s w,x.guard=some (s,w)->y.dst≠some s:=by
   intro s w hg hd
   rw[hd] at c2
   simp[bV.tC,hg] at c2
  have I3:mT y σ1.env=mT y σ.env:=DP fun s w hg=>by rw[sf];exact rh (PT s w hg)
  rw[I3] at h2
  cases ey:mT y σ.env with
  |none=>rw[ey] at h2;cases h2
  |some iV=>
   rw[ey] at h2
   have h2:exec T y.dst iV σ1=some σ2:=h2
   have jy:iV=y.op\/iV=.mv (.k (.bq [])):=IM ey
   have xr:∀sz p v,iV=.store sz p v->y.dst=none:=by
    intro sz p v he
    rcases jy with rfl|rfl
    ·simp only[bV.qG,Bool.and_eq_true,he] at c4;simpa using c4.2
    ·cases he
   have DZ:∀a∈jt.args,a.flat=true:=by
    rcases jx with rfl|rfl
    ·simp only[bV.qG,Bool.and_eq_true,List.all_eq_true] at c3;exact c3.1
    ·intro a ha;simp[aH.args] at ha;subst ha;rfl
   have D2:∀a∈iV.args,a.flat=true:=by
    rcases jy with rfl|rfl
    ·simp only[bV.qG,Bool.and_eq_true,List.all_eq_true] at c4;exact c4.1
    ·intro a ha;simp[aH.args] at ha;subst ha;rfl
   have kA:∀n,x.dst=some n->MO.t n∉iV.args:=by
    intro n hd
    rcases jy with rfl|rfl
    ·rw[hd] at c1
     simp only[Bool.and_eq_true] at c1
     exact bV.Kr c1.1
    ·simp[aH.args]
   have tp:∀n,y.dst=some n->MO.t n∉jt.args:=by
    intro n hd
    rcases jx with rfl|rfl
    ·rw[hd] at c2
     exact bV.Kr c2
    ·simp[aH.args]
   have uz:∀n,x.dst=some n->y.dst≠some n:=by
    intro n hd he
    rw[hd,he] at c1
    simp at c1
   have bO:jt.dI=0\/iV.dI=0\/(jt.dI<=1/\iV.dI<=1):=by
    rcases jx with rfl|rfl
    ·rcases jy with rfl|rfl
     ·simp only[Bool.or_eq_true,beq_iff_eq,Bool.and_eq_true,decide_eq_true_eq,or_assoc] at c5
      exact c5
     ·exact .inr (.inl rfl)
    ·exact .inl rfl
   obtain⟨τ,t1,t2⟩:=XC W uz kA tp DZ D2 zQ xr bO h1 h2
   refine⟨τ,?_,?_⟩
   ·rw[Bc,ey];exact t1
   ·rw[Bc,DP (e:=σ.env) (fun s w hg=>by rw[v7 xr t1];exact rh (JH s w hg)),ex];exact t2
end Go.Am
