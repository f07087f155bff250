/- Am20: two operations change places. No condition. -/
import Derived.Test.YtifmggmhdcdgbaaAm19
set_option linter.unusedVariables false
namespace Go.Am
def ie (e:Nat->aj) (d:Option Nat) (v:aj):Nat->aj:=
 match d with
 |some n=>av e n v
 |none=>e
theorem oA (σ:St) (d:Option Nat) (v:aj):σ.put d v=σ.we (ie σ.env d v):=by cases d<;>rfl
theorem qv {e:Nat->aj} {d:Option Nat} {v:aj} {n:Nat} (h:d≠some n):ie e d v n=e n:=by
 cases d with
 |none=>rfl
 |some m=>exact cd _ _ _ _ (fun he=>h (by rw[he]))
theorem Iz (e:Nat->aj) {d d':Option Nat} (v v':aj) (h:∀n,d=some n->d'≠some n):ie (ie e d v) d' v'=ie (ie e d' v') d v:=by
 cases d with
 |none=>rfl
 |some n=>cases d' with
  |none=>rfl
  |some m=>
   have aC:m≠n:=fun he=>h n rfl (by rw[he])
   funext k
   simp only[ie,jp]
   by_cases h1:k=m
   ·by_cases h2:k=n
    ·omega
    ·simp[h1,aC]
   ·by_cases h2:k=n
    ·simp[h2,Ne.symm aC]
    ·simp[h1,h2]
def aai (d:Option Nat) (x:Nat->aj):aj:=
 match d with
 |some n=>x n
 |none=>.one .bj
theorem Tk (e:Nat->aj) (d:Option Nat) (x:Nat->aj):uQ e d x=ie e d (aai d x):=by cases d<;>rfl
theorem aeR {σ σ1 σ2:St} {n m:Nat} {b c:aq} (h1:σ.ins n b=some σ1) (h2:σ1.ins m c=some σ2):∃τ,σ.ins m c=some τ/\τ.ins n b=some σ2:=by
 obtain⟨u1,rfl⟩:=mJ h1
 obtain⟨u2,rfl⟩:=mJ h2
 have aC:m≠n:=fun e=>by subst e;simp[bD] at u2
 have um:σ.used m=false:=by simpa[cd _ _ _ _ aC] using u2
 have un:av σ.used m true n=false:=by rw[cd _ _ _ _ (Ne.symm aC)];exact u1
 refine⟨_,by unfold St.ins;rw[if_neg (by simp[um])],?_⟩
 unfold St.ins
 simp only[un,Bool.false_eq_true,if_false]
 congr 2<;>(funext k;simp only[jp];by_cases h1:k=m<;>by_cases h2:k=n<;>simp_all)
theorem W4 {m:Nat} {c:aq}:∀{A:List (Nat×aq)} {σ σ1 σ2:St},σ.cF A=some σ1->σ1.ins m c=some σ2->∃τ,σ.ins m c=some τ/\τ.cF A=some σ2
 |[],σ,σ1,σ2,h1,h2=>by
  simp only[St.cF] at h1
  injection h1 with h1
  subst h1
  exact⟨σ2,h2,rfl⟩
 |(n,b)::A,σ,σ1,σ2,h1,h2=>by
  simp only[St.cF] at h1
  split at h1
  ·rename_i jP e
   obtain⟨τ,t1,t2⟩:=W4 h1 h2
   obtain⟨TB,s1,s2⟩:=aeR e t1
   exact⟨TB,s1,by simp only[St.cF,s2];exact t2⟩
  ·cases h1
theorem ND:∀{Bs A:List (Nat×aq)} {σ σ1 σ2:St},σ.cF A=some σ1->σ1.cF Bs=some σ2->∃τ,σ.cF Bs=some τ/\τ.cF A=some σ2
 |[],A,σ,σ1,σ2,h1,h2=>by
  simp only[St.cF] at h2
  injection h2 with h2
  subst h2
  exact⟨σ,rfl,h1⟩
 |(m,c)::Bs,A,σ,σ1,σ2,h1,h2=>by
  simp only[St.cF] at h2
  split at h2
  ·rename_i gF e
   obtain⟨τ,t1,t2⟩:=W4 h1 e
   obtain⟨TB,s1,s2⟩:=ND t2 h2
   exact⟨TB,by simp only[St.cF,t1];exact s1,s2⟩
  ·cases h2
theorem x7:∀{A:List (Nat×aq)} {σ σ1:St},σ.cF A=some σ1->(∀n,σ.used n=true->σ1.used n=true/\σ1.h n=σ.h n)/\σ1.env=σ.env
 |[],σ,σ1,h1=>by
  simp only[St.cF] at h1
  injection h1 with h1
  subst h1
  exact⟨fun n hn=>⟨hn,rfl⟩,rfl⟩
 |(m,c)::A,σ,σ1,h1=>by
  simp only[St.cF] at h1
  split at h1
  ·rename_i jP e
   obtain⟨u1,rfl⟩:=mJ e
   obtain⟨t1,t2⟩:=x7 h1
   refine⟨fun n hn=>?_,t2⟩
   have aC:n≠m:=fun he=>by subst he;rw[u1] at hn;cases hn
   obtain⟨s1,s2⟩:=t1 n (qI _ _ hn)
   exact⟨s1,by rw[s2];exact cd _ _ _ _ aC⟩
  ·cases h1
structure Wf (σ:St):Prop where
 env:∀s m,(σ.env s).ref m->σ.used m=true
 box:∀m cs c n,σ.h m=some (.box cs)->c∈cs->c.ref n->σ.used n=true
def ah.flat:ah->Bool
 |.c _|.nil _|.bj=>true
 |_=>false
def MO.flat:MO->Bool
 |.t _=>true
 |.k (.one c)=>c.flat
 |.k (.agg cs)=>cs.all ah.flat
 |.k (.bk xs)=>xs.isEmpty
theorem ah.Vs {c:ah} (h:c.flat=true) (m:Nat):¬c.ref m:=by
 cases c<;>first|exact id|(simp[ah.flat] at h)
theorem Wf.arg {σ:St} (W:Wf σ) {x:MO} (hx:x.flat=true) (m:Nat) (hm:(σ.ev x).ref m):σ.used m=true:=by
 cases x with
 |t n=>exact W.env n m hm
 |k v=>cases v with
  |one c=>exact absurd hm (ah.Vs hx m)
  |agg cs=>
   obtain⟨c,hc,hm⟩:=hm
   exact absurd hm (ah.Vs (List.all_eq_true.1 hx c hc) m)
  |bk xs=>
   have:xs=[]:=by simpa[MO.flat] using hx
   subst this
   obtain⟨c,hc,_⟩:=hm
   cases hc
theorem YC (T:bh) (d:Option Nat) (op:aD) (ev:MO->aj) (h:Nat->Option aq) (hc:op.dJ=0) {x:aj×List (Nat×aq)} (hx:rd T d op ev h=some x):x.2=[]:=by
 cases op<;>simp[aD.dJ] at hc<;>simp only[rd] at hx
 all_goals
  repeat' split at hx
  all_goals first|(cases hx;rfl)|(cases hx)
theorem GP {σ:St} {e:Nat->aj} {x:MO} (h:∀n,x=.t n->e n=σ.env n):(σ.we e).ev x=σ.ev x:=by
 cases x with
 |t n=>exact h n rfl
 |k v=>rfl
section
variable {T:bh} {dx dy:Option Nat} {x y:aD} {σ σ1 σ2:St}
theorem vo (tN:∀sz p v,x=.store sz p v->dx=none) (h1:aJ T dx x σ=some σ1):σ1.env=ie σ.env dx (aai dx σ1.env):=by
 have h:=Lc T dx x σ σ.env (fun _ _=>rfl) tN
 rw[ale,h1] at h
 simp only[Option.map_some] at h
 injection h with h
 rw[<-Tk]
 calc σ1.env=(σ1.we (uQ σ.env dx σ1.env)).env:=by rw[<-h]
  _=_:=rfl
theorem Ut (W:Wf σ) (hd:∀n,dx=some n->dy≠some n) (ku:∀n,dx=some n->MO.t n∉y.args) (sA:∀n,dy=some n->MO.t n∉x.args)
  (vz:∀a∈x.args,a.flat=true) (xM:∀a∈y.args,a.flat=true)
  (tN:∀sz p v,x=.store sz p v->dx=none) (CK:∀sz p v,y=.store sz p v->dy=none) (alw:x.dJ=0\/y.dJ=0\/(x.dJ<=1/\y.dJ<=1))
  (h1:aJ T dx x σ=some σ1) (h2:aJ T dy y σ1=some σ2):∃τ,aJ T dy y σ=some τ/\aJ T dx x τ=some σ2:=by
 have WB:∀(e:Nat->aj) (v:aj) (s:St),∀a∈y.args,(s.we (ie s.env dx v)).ev a=s.ev a:=fun e v s a ha=>GP fun n hn=>qv fun oW=>ku n oW (hn▸ha)
 have Wy:∀(e:Nat->aj) (v:aj) (s:St),∀a∈x.args,(s.we (ie s.env dy v)).ev a=s.ev a:=fun e v s a ha=>GP fun n hn=>qv fun oW=>sA n oW (hn▸ha)
 by_cases cx:x.dJ=0
 ·rw[pQ T dx x σ (by omega)] at h1
  cases hr:rd T dx x σ.ev σ.h with
  |none=>rw[hr] at h1;cases h1
  |some p=>
   obtain⟨v,bs⟩:=p
   have hb:bs=[]:=YC T dx x _ _ cx hr
   subst hb
   rw[hr] at h1
   simp only[Option.bind_some,gI,St.cF,Option.map_some] at h1
   injection h1 with h1
   rw[oA] at h1
   subst h1
   rw[Lc T dy y σ _ (WB σ.env v σ) CK] at h2
   cases hy:aJ T dy y σ with
   |none=>rw[hy] at h2;cases h2
   |some τ=>
    rw[hy] at h2
    simp only[Option.map_some] at h2
    injection h2 with h2
    refine⟨τ,rfl,?_⟩
    have re:=vo CK hy
    rw[pQ T dx x τ (by omega),YD T dx x τ.ev σ.h τ.h cx,A6 T dx x (ev:=σ.ev) (ev':=τ.ev) σ.h (fun a ha=>by
     cases a with
     |t n=>
      show τ.env n=σ.env n
      rw[re]
      exact qv fun oW=>sA n oW ha
     |k v=>rfl),hr]
    simp only[Option.bind_some,gI,St.cF,Option.map_some]
    rw[<-h2,oA]
    congr 1
    have:ie τ.env dx v=uQ (ie σ.env dx v) dy τ.env:=by
     rw[Tk,Iz σ.env _ _ hd]
     rw[<-re]
    rw[this]
 ·by_cases cy:y.dJ=0
  ·rw[pQ T dy y σ1 (by omega)] at h2
   cases hr:rd T dy y σ1.ev σ1.h with
   |none=>rw[hr] at h2;cases h2
   |some p=>
    obtain⟨v,bs⟩:=p
    have hb:bs=[]:=YC T dy y _ _ cy hr
    subst hb
    rw[hr] at h2
    simp only[Option.bind_some,gI,St.cF,Option.map_some] at h2
    injection h2 with h2
    have re:=vo tN h1
    refine⟨σ.put dy v,?_,?_⟩
    ·rw[pQ T dy y σ (by omega),YD T dy y σ.ev σ1.h σ.h cy,A6 T dy y (ev:=σ1.ev) (ev':=σ.ev) σ1.h (fun a ha=>by
      cases a with
      |t n=>
       show σ.env n=σ1.env n
       rw[re]
       exact(qv fun oW=>ku n oW ha).symm
      |k v=>rfl),hr]
     rfl
    ·rw[oA,Lc T dx x σ _ (Wy σ.env v σ) tN,h1]
     simp only[Option.map_some]
     rw[<-h2,oA]
     congr 2
     rw[Tk,<-Iz σ.env _ _ hd,<-re]
  ·have UE:x.dJ<=1:=by omega
   have UF:y.dJ<=1:=by omega
   rw[pQ T dx x σ UE] at h1
   cases hr:rd T dx x σ.ev σ.h with
   |none=>rw[hr] at h1;cases h1
   |some p=>
    obtain⟨v,A⟩:=p
    rw[hr] at h1
    simp only[Option.bind_some,gI] at h1
    cases hA:σ.cF A with
    |none=>rw[hA] at h1;cases h1
    |some wP=>
     rw[hA] at h1
     simp only[Option.map_some] at h1
     injection h1 with h1
     rw[oA] at h1
     subst h1
     obtain⟨oa,ea⟩:=x7 hA
     rw[pQ T dy y _ UF] at h2
     have hry:rd T dy y (wP.we (ie wP.env dx v)).ev (wP.we (ie wP.env dx v)).h=rd T dy y σ.ev σ.h:=by
      rw[A6 T dy y (ev:=σ.ev) _ (fun a ha=>by rw[WB σ.env v wP a ha];cases a with
       |t n=>show wP.env n=σ.env n;rw[ea]
       |k v=>rfl)]
      exact YA (u:=fun n=>σ.used n=true) T dy y σ.ev (fun n hn=>(oa n hn).2) W.box (fun a ha m hm=>W.arg (xM a ha) m hm)
     rw[hry] at h2
     cases CY:rd T dy y σ.ev σ.h with
     |none=>rw[CY] at h2;cases h2
     |some q=>
      obtain⟨v2,Bs⟩:=q
      rw[CY] at h2
      simp only[Option.bind_some,gI,x8] at h2
      cases hB:wP.cF Bs with
      |none=>rw[hB] at h2;cases h2
      |some aar=>
       rw[hB] at h2
       simp only[Option.map_some] at h2
       injection h2 with h2
       obtain⟨wQ,b1,b2⟩:=ND hA hB
       obtain⟨ob,eb⟩:=x7 b1
       obtain⟨oab,eab⟩:=x7 hB
       refine⟨wQ.put dy v2,?_,?_⟩
       ·rw[pQ T dy y σ UF,CY]
        simp[gI,b1]
       ·rw[oA,pQ T dx x _ UE]
        have hrx:rd T dx x (wQ.we (ie wQ.env dy v2)).ev (wQ.we (ie wQ.env dy v2)).h=rd T dx x σ.ev σ.h:=by
         rw[A6 T dx x (ev:=σ.ev) _ (fun a ha=>by rw[Wy σ.env v2 wQ a ha];cases a with
          |t n=>show wQ.env n=σ.env n;rw[eb]
          |k v=>rfl)]
         exact YA (u:=fun n=>σ.used n=true) T dx x σ.ev (fun n hn=>(ob n hn).2) W.box (fun a ha m hm=>W.arg (vz a ha) m hm)
        rw[hrx,hr]
        simp only[Option.bind_some,gI,x8,b2,Option.map_some]
        rw[<-h2,oA,oA]
        congr 1
        show aar.we (ie (ie wQ.env dy v2) dx v)=aar.we (ie (ie wP.env dx v) dy v2)
        rw[eb,ea,Iz σ.env _ _ hd]
end
theorem zF (T:bh) (o:bO) (σ:St):eN T o σ=(mA o σ.env).bind fun op=>aJ T o.dst op σ:=by
 unfold eN mA
 cases hg:o.guard with
 |none=>rfl
 |some g=>
  obtain⟨s,kK⟩:=g
  simp only
  generalize σ.env s=v
  cases v with
  |one c=>cases c with
   |c x=>cases x with
    |bool b=>simp only;split<;>rfl
    |_=>rfl
   |_=>rfl
  |agg cs=>rfl
  |bk xs=>cases xs<;>rfl
def bO.sR (o:bO) (n:Nat):Bool:=(o.op.args.all fun a=>match a with|.t m=>m !=n|_=>true)&&(match o.guard with|some (s,_)=>s !=n|none=>true)
def bO.pR (o:bO):Bool:=o.op.args.all MO.flat&&(match o.op with|.store ..=>o.dst.isNone|_=>true)
def zx (x y:bO):Bool:=
 (match x.dst with|some d=>y.sR d&&(match y.dst with|some e=>e !=d|none=>true)|none=>true)&&
 (match y.dst with|some d=>x.sR d|none=>true)&&x.pR&&y.pR&&(x.op.dJ==0||y.op.dJ==0||(decide (x.op.dJ<=1)&&decide (y.op.dJ<=1)))
theorem bO.Iq {o:bO} {n:Nat} (h:o.sR n=true):MO.t n∉o.op.args:=by
 intro hm
 simp only[bO.sR,Bool.and_eq_true,List.all_eq_true] at h
 have:=h.1 _ hm
 simp at this
theorem GJ {o:bO} {e:Nat->aj} {op:aD} (h:mA o e=some op):op=o.op\/op=.mv (.k (.bk [])):=by
 unfold mA at h
 split at h
 ·injection h with h;exact .inl h.symm
 ·split at h
  ·split at h
   ·injection h with h;exact .inl h.symm
   ·injection h with h;exact .inr h.symm
  ·injection h with h;exact .inr h.symm
  ·cases h
theorem B9 {o:bO} {e e':Nat->aj} (h:∀s w,o.guard=some (s,w)->e' s=e s):mA o e'=mA o e:=by
 unfold mA
 cases hg:o.guard with
 |none=>rfl
 |some g=>obtain⟨s,w⟩:=g;simp only;rw[h s w hg]
theorem abg {T:bh} {x y:bO} {σ σ1 σ2:St} (W:Wf σ) (hc:zx x y=true) (h1:eN T x σ=some σ1) (h2:eN T y σ1=some σ2):
  ∃τ,eN T y σ=some τ/\eN T x τ=some σ2:=by
 simp only[zx,Bool.and_eq_true] at hc
 obtain⟨⟨⟨⟨c1,c2⟩,c3⟩,c4⟩,c5⟩:=hc
 rw[zF] at h1 h2
 cases ex:mA x σ.env with
 |none=>rw[ex] at h1;cases h1
 |some jo=>
  rw[ex] at h1
  have h1:aJ T x.dst jo σ=some σ1:=h1
  have jx:jo=x.op\/jo=.mv (.k (.bk [])):=GJ ex
  have yI:∀sz p v,jo=.store sz p v->x.dst=none:=by
   intro sz p v he
   rcases jx with rfl|rfl
   ·simp only[bO.pR,Bool.and_eq_true,he] at c3;simpa using c3.2
   ·cases he
  have re:=vo yI h1
  have Nj:∀s w,y.guard=some (s,w)->x.dst≠some s:=by
   intro s w hg hd
   rw[hd] at c1
   simp[bO.sR,hg] at c1
  have HD:∀s w,x.guard=some (s,w)->y.dst≠some s:=by
   intro s w hg hd
   rw[hd] at c2
   simp[bO.sR,hg] at c2
  have GU:mA y σ1.env=mA y σ.env:=B9 fun s w hg=>by rw[re];exact qv (Nj s w hg)
  rw[GU] at h2
  cases ey:mA y σ.env with
  |none=>rw[ey] at h2;cases h2
  |some iU=>
   rw[ey] at h2
   have h2:aJ T y.dst iU σ1=some σ2:=h2
   have jy:iU=y.op\/iU=.mv (.k (.bk [])):=GJ ey
   have wI:∀sz p v,iU=.store sz p v->y.dst=none:=by
    intro sz p v he
    rcases jy with rfl|rfl
    ·simp only[bO.pR,Bool.and_eq_true,he] at c4;simpa using c4.2
    ·cases he
   have Ch:∀a∈jo.args,a.flat=true:=by
    rcases jx with rfl|rfl
    ·simp only[bO.pR,Bool.and_eq_true,List.all_eq_true] at c3;exact c3.1
    ·intro a ha;simp[aD.args] at ha;subst ha;rfl
   have Ci:∀a∈iU.args,a.flat=true:=by
    rcases jy with rfl|rfl
    ·simp only[bO.pR,Bool.and_eq_true,List.all_eq_true] at c4;exact c4.1
    ·intro a ha;simp[aD.args] at ha;subst ha;rfl
   have ku:∀n,x.dst=some n->MO.t n∉iU.args:=by
    intro n hd
    rcases jy with rfl|rfl
    ·rw[hd] at c1
     simp only[Bool.and_eq_true] at c1
     exact bO.Iq c1.1
    ·simp[aD.args]
   have sA:∀n,y.dst=some n->MO.t n∉jo.args:=by
    intro n hd
    rcases jx with rfl|rfl
    ·rw[hd] at c2
     exact bO.Iq c2
    ·simp[aD.args]
   have zP:∀n,x.dst=some n->y.dst≠some n:=by
    intro n hd he
    rw[hd,he] at c1
    simp at c1
   have bQ:jo.dJ=0\/iU.dJ=0\/(jo.dJ<=1/\iU.dJ<=1):=by
    rcases jx with rfl|rfl
    ·rcases jy with rfl|rfl
     ·simp only[Bool.or_eq_true,beq_iff_eq,Bool.and_eq_true,decide_eq_true_eq,or_assoc] at c5
      exact c5
     ·exact .inr (.inl rfl)
    ·exact .inl rfl
   obtain⟨τ,t1,t2⟩:=Ut W zP ku sA Ch Ci yI wI bQ h1 h2
   refine⟨τ,?_,?_⟩
   ·rw[zF,ey];exact t1
   ·rw[zF,B9 (e:=σ.env) (fun s w hg=>by rw[vo wI t1];exact qv (HD s w hg)),ex];exact t2
end Go.Am
