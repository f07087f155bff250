/- Am20: two operations change places. No condition. -/
import Derived.Test.YtbgmbplglejidaaAm19
set_option linter.unusedVariables false
namespace Go.Am
def hY (e:Nat->aj) (d:Option Nat) (v:aj):Nat->aj:=
 match d with
 |some n=>ax e n v
 |none=>e
theorem oh (σ:St) (d:Option Nat) (v:aj):σ.put d v=σ.we (hY σ.env d v):=by cases d<;>rfl
theorem qG {e:Nat->aj} {d:Option Nat} {v:aj} {n:Nat} (h:d≠some n):hY e d v n=e n:=by
 cases d with
 |none=>rfl
 |some m=>exact cb _ _ _ _ (fun he=>h (by rw[he]))
theorem JY (e:Nat->aj) {d d':Option Nat} (v v':aj) (h:∀n,d=some n->d'≠some n):hY (hY e d v) d' v'=hY (hY e d' v') d v:=by
 cases d with
 |none=>rfl
 |some n=>cases d' with
  |none=>rfl
  |some m=>
   have aE:m≠n:=fun he=>h n rfl (by rw[he])
   funext k
   simp only[hY,iO]
   by_cases h1:k=m
   ·by_cases h2:k=n
    ·omega
    ·simp[h1,aE]
   ·by_cases h2:k=n
    ·simp[h2,Ne.symm aE]
    ·simp[h1,h2]
def adW (d:Option Nat) (x:Nat->aj):aj:=
 match d with
 |some n=>x n
 |none=>.one .bn
theorem Wx (e:Nat->aj) (d:Option Nat) (x:Nat->aj):vi e d x=hY e d (adW d x):=by cases d<;>rfl
theorem aiR {σ σ1 σ2:St} {n m:Nat} {b c:aq} (h1:σ.ins n b=some σ1) (h2:σ1.ins m c=some σ2):∃τ,σ.ins m c=some τ/\τ.ins n b=some σ2:=by
 obtain⟨u1,rfl⟩:=lP h1
 obtain⟨u2,rfl⟩:=lP h2
 have aE:m≠n:=fun e=>by subst e;simp[bE] at u2
 have um:σ.used m=false:=by simpa[cb _ _ _ _ aE] using u2
 have un:ax σ.used m true n=false:=by rw[cb _ _ _ _ (Ne.symm aE)];exact u1
 refine⟨_,by unfold St.ins;rw[if_neg (by simp[um])],?_⟩
 unfold St.ins
 simp only[un,Bool.false_eq_true,if_false]
 congr 2<;>(funext k;simp only[iO];by_cases h1:k=m<;>by_cases h2:k=n<;>simp_all)
theorem aap {m:Nat} {c:aq}:∀{A:List (Nat×aq)} {σ σ1 σ2:St},σ.ct A=some σ1->σ1.ins m c=some σ2->∃τ,σ.ins m c=some τ/\τ.ct A=some σ2
 |[],σ,σ1,σ2,h1,h2=>by
  simp only[St.ct] at h1
  injection h1 with h1
  subst h1
  exact⟨σ2,h2,rfl⟩
 |(n,b)::A,σ,σ1,σ2,h1,h2=>by
  simp only[St.ct] at h1
  split at h1
  ·rename_i jJ e
   obtain⟨τ,t1,t2⟩:=aap h1 h2
   obtain⟨WH,s1,s2⟩:=aiR e t1
   exact⟨WH,s1,by simp only[St.ct,s2];exact t2⟩
  ·cases h1
theorem PZ:∀{Bs A:List (Nat×aq)} {σ σ1 σ2:St},σ.ct A=some σ1->σ1.ct Bs=some σ2->∃τ,σ.ct Bs=some τ/\τ.ct A=some σ2
 |[],A,σ,σ1,σ2,h1,h2=>by
  simp only[St.ct] at h2
  injection h2 with h2
  subst h2
  exact⟨σ,rfl,h1⟩
 |(m,c)::Bs,A,σ,σ1,σ2,h1,h2=>by
  simp only[St.ct] at h2
  split at h2
  ·rename_i gD e
   obtain⟨τ,t1,t2⟩:=aap h1 e
   obtain⟨WH,s1,s2⟩:=PZ t2 h2
   exact⟨WH,by simp only[St.ct,t1];exact s1,s2⟩
  ·cases h2
theorem yO:∀{A:List (Nat×aq)} {σ σ1:St},σ.ct A=some σ1->(∀n,σ.used n=true->σ1.used n=true/\σ1.h n=σ.h n)/\σ1.env=σ.env
 |[],σ,σ1,h1=>by
  simp only[St.ct] at h1
  injection h1 with h1
  subst h1
  exact⟨fun n hn=>⟨hn,rfl⟩,rfl⟩
 |(m,c)::A,σ,σ1,h1=>by
  simp only[St.ct] at h1
  split at h1
  ·rename_i jJ e
   obtain⟨u1,rfl⟩:=lP e
   obtain⟨t1,t2⟩:=yO h1
   refine⟨fun n hn=>?_,t2⟩
   have aE:n≠m:=fun he=>by subst he;rw[u1] at hn;cases hn
   obtain⟨s1,s2⟩:=t1 n (qT _ _ hn)
   exact⟨s1,by rw[s2];exact cb _ _ _ _ aE⟩
  ·cases h1
structure Wf (σ:St):Prop where
 env:∀s m,(σ.env s).ref m->σ.used m=true
 box:∀m cs c n,σ.h m=some (.box cs)->c∈cs->c.ref n->σ.used n=true
def ah.flat:ah->Bool
 |.c _|.nil _|.bn=>true
 |_=>false
def MO.flat:MO->Bool
 |.t _=>true
 |.k (.one c)=>c.flat
 |.k (.agg cs)=>cs.all ah.flat
 |.k (.bo xs)=>xs.isEmpty
theorem ah.Y4 {c:ah} (h:c.flat=true) (m:Nat):¬c.ref m:=by
 cases c<;>first|exact id|(simp[ah.flat] at h)
theorem Wf.arg {σ:St} (W:Wf σ) {x:MO} (hx:x.flat=true) (m:Nat) (hm:(σ.ev x).ref m):σ.used m=true:=by
 cases x with
 |t n=>exact W.env n m hm
 |k v=>cases v with
  |one c=>exact absurd hm (ah.Y4 hx m)
  |agg cs=>
   obtain⟨c,hc,hm⟩:=hm
   exact absurd hm (ah.Y4 (List.all_eq_true.1 hx c hc) m)
  |bo xs=>
   have:xs=[]:=by simpa[MO.flat] using hx
   subst this
   obtain⟨c,hc,_⟩:=hm
   cases hc
theorem abY (T:aS) (d:Option Nat) (op:aF) (ev:MO->aj) (h:Nat->Option aq) (hc:op.dE=0) {x:aj×List (Nat×aq)} (hx:rd T d op ev h=some x):x.2=[]:=by
 cases op<;>simp[aF.dE] at hc<;>simp only[rd] at hx
 all_goals
  repeat' split at hx
  all_goals first|(cases hx;rfl)|(cases hx)
theorem Iq {σ:St} {e:Nat->aj} {x:MO} (h:∀n,x=.t n->e n=σ.env n):(σ.we e).ev x=σ.ev x:=by
 cases x with
 |t n=>exact h n rfl
 |k v=>rfl
section
variable {T:aS} {dx dy:Option Nat} {x y:aF} {σ σ1 σ2:St}
theorem vQ (uo:∀sz p v,x=.store sz p v->dx=none) (h1:exec T dx x σ=some σ1):σ1.env=hY σ.env dx (adW dx σ1.env):=by
 have h:=M6 T dx x σ σ.env (fun _ _=>rfl) uo
 rw[aqE,h1] at h
 simp only[Option.map_some] at h
 injection h with h
 rw[<-Wx]
 calc σ1.env=(σ1.we (vi σ.env dx σ1.env)).env:=by rw[<-h]
  _=_:=rfl
theorem XS (W:Wf σ) (hd:∀n,dx=some n->dy≠some n) (kg:∀n,dx=some n->MO.t n∉y.args) (sZ:∀n,dy=some n->MO.t n∉x.args)
  (IU:∀a∈x.args,a.flat=true) (yt:∀a∈y.args,a.flat=true)
  (uo:∀sz p v,x=.store sz p v->dx=none) (DN:∀sz p v,y=.store sz p v->dy=none) (aqU:x.dE=0\/y.dE=0\/(x.dE<=1/\y.dE<=1))
  (h1:exec T dx x σ=some σ1) (h2:exec T dy y σ1=some σ2):∃τ,exec T dy y σ=some τ/\exec T dx x τ=some σ2:=by
 have aae:∀(e:Nat->aj) (v:aj) (s:St),∀a∈y.args,(s.we (hY s.env dx v)).ev a=s.ev a:=fun e v s a ha=>Iq fun n hn=>qG fun oS=>kg n oS (hn▸ha)
 have aac:∀(e:Nat->aj) (v:aj) (s:St),∀a∈x.args,(s.we (hY s.env dy v)).ev a=s.ev a:=fun e v s a ha=>Iq fun n hn=>qG fun oS=>sZ n oS (hn▸ha)
 by_cases cx:x.dE=0
 ·rw[oK T dx x σ (by omega)] at h1
  cases hr:rd T dx x σ.ev σ.h with
  |none=>rw[hr] at h1;cases h1
  |some p=>
   obtain⟨v,bs⟩:=p
   have hb:bs=[]:=abY T dx x _ _ cx hr
   subst hb
   rw[hr] at h1
   simp only[Option.bind_some,fin,St.ct,Option.map_some] at h1
   injection h1 with h1
   rw[oh] at h1
   subst h1
   rw[M6 T dy y σ _ (aae σ.env v σ) DN] at h2
   cases hy:exec T dy y σ with
   |none=>rw[hy] at h2;cases h2
   |some τ=>
    rw[hy] at h2
    simp only[Option.map_some] at h2
    injection h2 with h2
    refine⟨τ,rfl,?_⟩
    have rD:=vQ DN hy
    rw[oK T dx x τ (by omega),abZ T dx x τ.ev σ.h τ.h cx,B0 T dx x (ev:=σ.ev) (ev':=τ.ev) σ.h (fun a ha=>by
     cases a with
     |t n=>
      show τ.env n=σ.env n
      rw[rD]
      exact qG fun oS=>sZ n oS ha
     |k v=>rfl),hr]
    simp only[Option.bind_some,fin,St.ct,Option.map_some]
    rw[<-h2,oh]
    congr 1
    have:hY τ.env dx v=vi (hY σ.env dx v) dy τ.env:=by
     rw[Wx,JY σ.env _ _ hd]
     rw[<-rD]
    rw[this]
 ·by_cases cy:y.dE=0
  ·rw[oK T dy y σ1 (by omega)] at h2
   cases hr:rd T dy y σ1.ev σ1.h with
   |none=>rw[hr] at h2;cases h2
   |some p=>
    obtain⟨v,bs⟩:=p
    have hb:bs=[]:=abY T dy y _ _ cy hr
    subst hb
    rw[hr] at h2
    simp only[Option.bind_some,fin,St.ct,Option.map_some] at h2
    injection h2 with h2
    have rD:=vQ uo h1
    refine⟨σ.put dy v,?_,?_⟩
    ·rw[oK T dy y σ (by omega),abZ T dy y σ.ev σ1.h σ.h cy,B0 T dy y (ev:=σ1.ev) (ev':=σ.ev) σ1.h (fun a ha=>by
      cases a with
      |t n=>
       show σ.env n=σ1.env n
       rw[rD]
       exact(qG fun oS=>kg n oS ha).symm
      |k v=>rfl),hr]
     rfl
    ·rw[oh,M6 T dx x σ _ (aac σ.env v σ) uo,h1]
     simp only[Option.map_some]
     rw[<-h2,oh]
     congr 2
     rw[Wx,<-JY σ.env _ _ hd,<-rD]
  ·have X5:x.dE<=1:=by omega
   have X6:y.dE<=1:=by omega
   rw[oK T dx x σ X5] at h1
   cases hr:rd T dx x σ.ev σ.h with
   |none=>rw[hr] at h1;cases h1
   |some p=>
    obtain⟨v,A⟩:=p
    rw[hr] at h1
    simp only[Option.bind_some,fin] at h1
    cases hA:σ.ct A with
    |none=>rw[hA] at h1;cases h1
    |some xz=>
     rw[hA] at h1
     simp only[Option.map_some] at h1
     injection h1 with h1
     rw[oh] at h1
     subst h1
     obtain⟨oa,ea⟩:=yO hA
     rw[oK T dy y _ X6] at h2
     have hry:rd T dy y (xz.we (hY xz.env dx v)).ev (xz.we (hY xz.env dx v)).h=rd T dy y σ.ev σ.h:=by
      rw[B0 T dy y (ev:=σ.ev) _ (fun a ha=>by rw[aae σ.env v xz a ha];cases a with
       |t n=>show xz.env n=σ.env n;rw[ea]
       |k v=>rfl)]
      exact abW (u:=fun n=>σ.used n=true) T dy y σ.ev (fun n hn=>(oa n hn).2) W.box (fun a ha m hm=>W.arg (yt a ha) m hm)
     rw[hry] at h2
     cases D4:rd T dy y σ.ev σ.h with
     |none=>rw[D4] at h2;cases h2
     |some q=>
      obtain⟨v2,Bs⟩:=q
      rw[D4] at h2
      simp only[Option.bind_some,fin,yP] at h2
      cases hB:xz.ct Bs with
      |none=>rw[hB] at h2;cases h2
      |some aea=>
       rw[hB] at h2
       simp only[Option.map_some] at h2
       injection h2 with h2
       obtain⟨xA,b1,b2⟩:=PZ hA hB
       obtain⟨ob,eb⟩:=yO b1
       obtain⟨oab,eab⟩:=yO hB
       refine⟨xA.put dy v2,?_,?_⟩
       ·rw[oK T dy y σ X6,D4]
        simp[fin,b1]
       ·rw[oh,oK T dx x _ X5]
        have hrx:rd T dx x (xA.we (hY xA.env dy v2)).ev (xA.we (hY xA.env dy v2)).h=rd T dx x σ.ev σ.h:=by
         rw[B0 T dx x (ev:=σ.ev) _ (fun a ha=>by rw[aac σ.env v2 xA a ha];cases a with
          |t n=>show xA.env n=σ.env n;rw[eb]
          |k v=>rfl)]
         exact abW (u:=fun n=>σ.used n=true) T dx x σ.ev (fun n hn=>(ob n hn).2) W.box (fun a ha m hm=>W.arg (IU a ha) m hm)
        rw[hrx,hr]
        simp only[Option.bind_some,fin,yP,b2,Option.map_some]
        rw[<-h2,oh,oh]
        congr 1
        show aea.we (hY (hY xA.env dy v2) dx v)=aea.we (hY (hY xz.env dx v) dy v2)
        rw[eb,ea,JY σ.env _ _ hd]
end
theorem AG (T:aS) (o:bK) (σ:St):d8 T o σ=(mq o σ.env).bind fun op=>exec T o.dst op σ:=by
 unfold d8 mq
 cases hg:o.guard with
 |none=>rfl
 |some g=>
  obtain⟨s,kx⟩:=g
  simp only
  generalize σ.env s=v
  cases v with
  |one c=>cases c with
   |c x=>cases x with
    |bool b=>simp only;split<;>rfl
    |_=>rfl
   |_=>rfl
  |agg cs=>rfl
  |bo xs=>cases xs<;>rfl
def bK.tm (o:bK) (n:Nat):Bool:=(o.op.args.all fun a=>match a with|.t m=>m !=n|_=>true)&&(match o.guard with|some (s,_)=>s !=n|none=>true)
def bK.pU (o:bK):Bool:=o.op.args.all MO.flat&&(match o.op with|.store ..=>o.dst.isNone|_=>true)
def Az (x y:bK):Bool:=
 (match x.dst with|some d=>y.tm d&&(match y.dst with|some e=>e !=d|none=>true)|none=>true)&&
 (match y.dst with|some d=>x.tm d|none=>true)&&x.pU&&y.pU&&(x.op.dE==0||y.op.dE==0||(decide (x.op.dE<=1)&&decide (y.op.dE<=1)))
theorem bK.JO {o:bK} {n:Nat} (h:o.tm n=true):MO.t n∉o.op.args:=by
 intro hm
 simp only[bK.tm,Bool.and_eq_true,List.all_eq_true] at h
 have:=h.1 _ hm
 simp at this
theorem Ii {o:bK} {e:Nat->aj} {op:aF} (h:mq o e=some op):op=o.op\/op=.mv (.k (.bo [])):=by
 unfold mq at h
 split at h
 ·injection h with h;exact .inl h.symm
 ·split at h
  ·split at h
   ·injection h with h;exact .inl h.symm
   ·injection h with h;exact .inr h.symm
  ·injection h with h;exact .inr h.symm
  ·cases h
theorem Db {o:bK} {e e':Nat->aj} (h:∀s w,o.guard=some (s,w)->e' s=e s):mq o e'=mq o e:=by
 unfold mq
 cases hg:o.guard with
 |none=>rfl
 |some g=>obtain⟨s,w⟩:=g;simp only;rw[h s w hg]
theorem ae5 {T:aS} {x y:bK} {σ σ1 σ2:St} (W:Wf σ) (hc:Az x y=true) (h1:d8 T x σ=some σ1) (h2:d8 T y σ1=some σ2):
  ∃τ,d8 T y σ=some τ/\d8 T x τ=some σ2:=by
 simp only[Az,Bool.and_eq_true] at hc
 obtain⟨⟨⟨⟨c1,c2⟩,c3⟩,c4⟩,c5⟩:=hc
 rw[AG] at h1 h2
 cases ex:mq x σ.env with
 |none=>rw[ex] at h1;cases h1
 |some jb=>
  rw[ex] at h1
  have h1:exec T x.dst jb σ=some σ1:=h1
  have jx:jb=x.op\/jb=.mv (.k (.bo [])):=Ii ex
  have zu:∀sz p v,jb=.store sz p v->x.dst=none:=by
   intro sz p v he
   rcases jx with rfl|rfl
   ·simp only[bK.pU,Bool.and_eq_true,he] at c3;simpa using c3.2
   ·cases he
  have rD:=vQ zu h1
  have PF:∀s w,y.guard=some (s,w)->x.dst≠some s:=by
   intro s w hg hd
   rw[hd] at c1
   simp[bK.tm,hg] at c1
  have Jc:∀s w,x.guard=some (s,w)->y.dst≠some s:=by
   intro s w hg hd
   rw[hd] at c2
   simp[bK.tm,hg] at c2
  have Iu:mq y σ1.env=mq y σ.env:=Db fun s w hg=>by rw[rD];exact qG (PF s w hg)
  rw[Iu] at h2
  cases ey:mq y σ.env with
  |none=>rw[ey] at h2;cases h2
  |some iL=>
   rw[ey] at h2
   have h2:exec T y.dst iL σ1=some σ2:=h2
   have jy:iL=y.op\/iL=.mv (.k (.bo [])):=Ii ey
   have xq:∀sz p v,iL=.store sz p v->y.dst=none:=by
    intro sz p v he
    rcases jy with rfl|rfl
    ·simp only[bK.pU,Bool.and_eq_true,he] at c4;simpa using c4.2
    ·cases he
   have Dl:∀a∈jb.args,a.flat=true:=by
    rcases jx with rfl|rfl
    ·simp only[bK.pU,Bool.and_eq_true,List.all_eq_true] at c3;exact c3.1
    ·intro a ha;simp[aF.args] at ha;subst ha;rfl
   have Dm:∀a∈iL.args,a.flat=true:=by
    rcases jy with rfl|rfl
    ·simp only[bK.pU,Bool.and_eq_true,List.all_eq_true] at c4;exact c4.1
    ·intro a ha;simp[aF.args] at ha;subst ha;rfl
   have kg:∀n,x.dst=some n->MO.t n∉iL.args:=by
    intro n hd
    rcases jy with rfl|rfl
    ·rw[hd] at c1
     simp only[Bool.and_eq_true] at c1
     exact bK.JO c1.1
    ·simp[aF.args]
   have sZ:∀n,y.dst=some n->MO.t n∉jb.args:=by
    intro n hd
    rcases jx with rfl|rfl
    ·rw[hd] at c2
     exact bK.JO c2
    ·simp[aF.args]
   have vY:∀n,x.dst=some n->y.dst≠some n:=by
    intro n hd he
    rw[hd,he] at c1
    simp at c1
   have bG:jb.dE=0\/iL.dE=0\/(jb.dE<=1/\iL.dE<=1):=by
    rcases jx with rfl|rfl
    ·rcases jy with rfl|rfl
     ·simp only[Bool.or_eq_true,beq_iff_eq,Bool.and_eq_true,decide_eq_true_eq,or_assoc] at c5
      exact c5
     ·exact .inr (.inl rfl)
    ·exact .inl rfl
   obtain⟨τ,t1,t2⟩:=XS W vY kg sZ Dl Dm zu xq bG h1 h2
   refine⟨τ,?_,?_⟩
   ·rw[AG,ey];exact t1
   ·rw[AG,Db (e:=σ.env) (fun s w hg=>by rw[vQ xq t1];exact qG (Jc s w hg)),ex];exact t2
end Go.Am
