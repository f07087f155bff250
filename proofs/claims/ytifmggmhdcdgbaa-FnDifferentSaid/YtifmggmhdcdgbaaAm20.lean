/- Am20: two operations change places. No condition. -/
import Derived.Test.YtifmggmhdcdgbaaAm19
set_option linter.unusedVariables false
namespace Go.Am
def gX (e:Nat->aj) (d:Option Nat) (v:aj):Nat->aj:=
 match d with
 |some n=>aw e n v
 |none=>e
theorem n9 (σ:St) (d:Option Nat) (v:aj):σ.put d v=σ.we (gX σ.env d v):=by cases d<;>rfl
theorem qw {e:Nat->aj} {d:Option Nat} {v:aj} {n:Nat} (h:d≠some n):gX e d v n=e n:=by
 cases d with
 |none=>rfl
 |some m=>exact bZ _ _ _ _ (fun he=>h (by rw[he]))
theorem Kt (e:Nat->aj) {d d':Option Nat} (v v':aj) (h:∀n,d=some n->d'≠some n):gX (gX e d v) d' v'=gX (gX e d' v') d v:=by
 cases d with
 |none=>rfl
 |some n=>cases d' with
  |none=>rfl
  |some m=>
   have ax:m≠n:=fun he=>h n rfl (by rw[he])
   funext k
   simp only[gX,jg]
   by_cases h1:k=m
   ·by_cases h2:k=n
    ·omega
    ·simp[h1,ax]
   ·by_cases h2:k=n
    ·simp[h2,Ne.symm ax]
    ·simp[h1,h2]
def acG (d:Option Nat) (x:Nat->aj):aj:=
 match d with
 |some n=>x n
 |none=>.one .bh
theorem U3 (e:Nat->aj) (d:Option Nat) (x:Nat->aj):vp e d x=gX e d (acG d x):=by cases d<;>rfl
theorem ahX {σ σ1 σ2:St} {n m:Nat} {b c:ar} (h1:σ.ins n b=some σ1) (h2:σ1.ins m c=some σ2):∃τ,σ.ins m c=some τ/\τ.ins n b=some σ2:=by
 obtain⟨u1,rfl⟩:=mg h1
 obtain⟨u2,rfl⟩:=mg h2
 have ax:m≠n:=fun e=>by subst e;simp[bA] at u2
 have um:σ.used m=false:=by simpa[bZ _ _ _ _ ax] using u2
 have un:aw σ.used m true n=false:=by rw[bZ _ _ _ _ (Ne.symm ax)];exact u1
 refine⟨_,by unfold St.ins;rw[if_neg (by simp[um])],?_⟩
 unfold St.ins
 simp only[un,Bool.false_eq_true,if_false]
 congr 2<;>(funext k;simp only[jg];by_cases h1:k=m<;>by_cases h2:k=n<;>simp_all)
theorem Zb {m:Nat} {c:ar}:∀{A:List (Nat×ar)} {σ σ1 σ2:St},σ.cH A=some σ1->σ1.ins m c=some σ2->∃τ,σ.ins m c=some τ/\τ.cH A=some σ2
 |[],σ,σ1,σ2,h1,h2=>by
  simp only[St.cH] at h1
  injection h1 with h1
  subst h1
  exact⟨σ2,h2,rfl⟩
 |(n,b)::A,σ,σ1,σ2,h1,h2=>by
  simp only[St.cH] at h1
  split at h1
  ·rename_i jD e
   obtain⟨τ,t1,t2⟩:=Zb h1 h2
   obtain⟨Vi,s1,s2⟩:=ahX e t1
   exact⟨Vi,s1,by simp only[St.cH,s2];exact t2⟩
  ·cases h1
theorem Pr:∀{Bs A:List (Nat×ar)} {σ σ1 σ2:St},σ.cH A=some σ1->σ1.cH Bs=some σ2->∃τ,σ.cH Bs=some τ/\τ.cH A=some σ2
 |[],A,σ,σ1,σ2,h1,h2=>by
  simp only[St.cH] at h2
  injection h2 with h2
  subst h2
  exact⟨σ,rfl,h1⟩
 |(m,c)::Bs,A,σ,σ1,σ2,h1,h2=>by
  simp only[St.cH] at h2
  split at h2
  ·rename_i gz e
   obtain⟨τ,t1,t2⟩:=Zb h1 e
   obtain⟨Vi,s1,s2⟩:=Pr t2 h2
   exact⟨Vi,by simp only[St.cH,t1];exact s1,s2⟩
  ·cases h2
theorem yT:∀{A:List (Nat×ar)} {σ σ1:St},σ.cH A=some σ1->(∀n,σ.used n=true->σ1.used n=true/\σ1.h n=σ.h n)/\σ1.env=σ.env
 |[],σ,σ1,h1=>by
  simp only[St.cH] at h1
  injection h1 with h1
  subst h1
  exact⟨fun n hn=>⟨hn,rfl⟩,rfl⟩
 |(m,c)::A,σ,σ1,h1=>by
  simp only[St.cH] at h1
  split at h1
  ·rename_i jD e
   obtain⟨u1,rfl⟩:=mg e
   obtain⟨t1,t2⟩:=yT h1
   refine⟨fun n hn=>?_,t2⟩
   have ax:n≠m:=fun he=>by subst he;rw[u1] at hn;cases hn
   obtain⟨s1,s2⟩:=t1 n (qI _ _ hn)
   exact⟨s1,by rw[s2];exact bZ _ _ _ _ ax⟩
  ·cases h1
structure Wf (σ:St):Prop where
 env:∀s m,(σ.env s).ref m->σ.used m=true
 box:∀m cs c n,σ.h m=some (.box cs)->c∈cs->c.ref n->σ.used n=true
def ai.flat:ai->Bool
 |.c _|.nil _|.bh=>true
 |_=>false
def MO.flat:MO->Bool
 |.t _=>true
 |.k (.one c)=>c.flat
 |.k (.agg cs)=>cs.all ai.flat
 |.k (.bn xs)=>xs.isEmpty
theorem ai.Xm {c:ai} (h:c.flat=true) (m:Nat):¬c.ref m:=by
 cases c<;>first|exact id|(simp[ai.flat] at h)
theorem Wf.arg {σ:St} (W:Wf σ) {x:MO} (hx:x.flat=true) (m:Nat) (hm:(σ.ev x).ref m):σ.used m=true:=by
 cases x with
 |t n=>exact W.env n m hm
 |k v=>cases v with
  |one c=>exact absurd hm (ai.Xm hx m)
  |agg cs=>
   obtain⟨c,hc,hm⟩:=hm
   exact absurd hm (ai.Xm (List.all_eq_true.1 hx c hc) m)
  |bn xs=>
   have:xs=[]:=by simpa[MO.flat] using hx
   subst this
   obtain⟨c,hc,_⟩:=hm
   cases hc
theorem aaV (T:bj) (d:Option Nat) (op:aC) (ev:MO->aj) (h:Nat->Option ar) (hc:op.dH=0) {x:aj×List (Nat×ar)} (hx:rd T d op ev h=some x):x.2=[]:=by
 cases op<;>simp[aC.dH] at hc<;>simp only[rd] at hx
 all_goals
  repeat' split at hx
  all_goals first|(cases hx;rfl)|(cases hx)
theorem Ia {σ:St} {e:Nat->aj} {x:MO} (h:∀n,x=.t n->e n=σ.env n):(σ.we e).ev x=σ.ev x:=by
 cases x with
 |t n=>exact h n rfl
 |k v=>rfl
section
variable {T:bj} {dx dy:Option Nat} {x y:aC} {σ σ1 σ2:St}
theorem v7 (uu:∀sz p v,x=.store sz p v->dx=none) (h1:aG T dx x σ=some σ1):σ1.env=gX σ.env dx (acG dx σ1.env):=by
 have h:=MW T dx x σ σ.env (fun _ _=>rfl) uu
 rw[aoK,h1] at h
 simp only[Option.map_some] at h
 injection h with h
 rw[<-U3]
 calc σ1.env=(σ1.we (vp σ.env dx σ1.env)).env:=by rw[<-h]
  _=_:=rfl
theorem Wi (W:Wf σ) (hd:∀n,dx=some n->dy≠some n) (j5:∀n,dx=some n->MO.t n∉y.args) (sI:∀n,dy=some n->MO.t n∉x.args)
  (IE:∀a∈x.args,a.flat=true) (yF:∀a∈y.args,a.flat=true)
  (uu:∀sz p v,x=.store sz p v->dx=none) (DN:∀sz p v,y=.store sz p v->dy=none) (aoX:x.dH=0\/y.dH=0\/(x.dH<=1/\y.dH<=1))
  (h1:aG T dx x σ=some σ1) (h2:aG T dy y σ1=some σ2):∃τ,aG T dy y σ=some τ/\aG T dx x τ=some σ2:=by
 have Yz:∀(e:Nat->aj) (v:aj) (s:St),∀a∈y.args,(s.we (gX s.env dx v)).ev a=s.ev a:=fun e v s a ha=>Ia fun n hn=>qw fun oM=>j5 n oM (hn▸ha)
 have Yw:∀(e:Nat->aj) (v:aj) (s:St),∀a∈x.args,(s.we (gX s.env dy v)).ev a=s.ev a:=fun e v s a ha=>Ia fun n hn=>qw fun oM=>sI n oM (hn▸ha)
 by_cases cx:x.dH=0
 ·rw[pE T dx x σ (by omega)] at h1
  cases hr:rd T dx x σ.ev σ.h with
  |none=>rw[hr] at h1;cases h1
  |some p=>
   obtain⟨v,bs⟩:=p
   have hb:bs=[]:=aaV T dx x _ _ cx hr
   subst hb
   rw[hr] at h1
   simp only[Option.bind_some,gB,St.cH,Option.map_some] at h1
   injection h1 with h1
   rw[n9] at h1
   subst h1
   rw[MW T dy y σ _ (Yz σ.env v σ) DN] at h2
   cases hy:aG T dy y σ with
   |none=>rw[hy] at h2;cases h2
   |some τ=>
    rw[hy] at h2
    simp only[Option.map_some] at h2
    injection h2 with h2
    refine⟨τ,rfl,?_⟩
    have rq:=v7 DN hy
    rw[pE T dx x τ (by omega),aaW T dx x τ.ev σ.h τ.h cx,Ca T dx x (ev:=σ.ev) (ev':=τ.ev) σ.h (fun a ha=>by
     cases a with
     |t n=>
      show τ.env n=σ.env n
      rw[rq]
      exact qw fun oM=>sI n oM ha
     |k v=>rfl),hr]
    simp only[Option.bind_some,gB,St.cH,Option.map_some]
    rw[<-h2,n9]
    congr 1
    have:gX τ.env dx v=vp (gX σ.env dx v) dy τ.env:=by
     rw[U3,Kt σ.env _ _ hd]
     rw[<-rq]
    rw[this]
 ·by_cases cy:y.dH=0
  ·rw[pE T dy y σ1 (by omega)] at h2
   cases hr:rd T dy y σ1.ev σ1.h with
   |none=>rw[hr] at h2;cases h2
   |some p=>
    obtain⟨v,bs⟩:=p
    have hb:bs=[]:=aaV T dy y _ _ cy hr
    subst hb
    rw[hr] at h2
    simp only[Option.bind_some,gB,St.cH,Option.map_some] at h2
    injection h2 with h2
    have rq:=v7 uu h1
    refine⟨σ.put dy v,?_,?_⟩
    ·rw[pE T dy y σ (by omega),aaW T dy y σ.ev σ1.h σ.h cy,Ca T dy y (ev:=σ1.ev) (ev':=σ.ev) σ1.h (fun a ha=>by
      cases a with
      |t n=>
       show σ.env n=σ1.env n
       rw[rq]
       exact(qw fun oM=>j5 n oM ha).symm
      |k v=>rfl),hr]
     rfl
    ·rw[n9,MW T dx x σ _ (Yw σ.env v σ) uu,h1]
     simp only[Option.map_some]
     rw[<-h2,n9]
     congr 2
     rw[U3,<-Kt σ.env _ _ hd,<-rq]
  ·have Wt:x.dH<=1:=by omega
   have Wu:y.dH<=1:=by omega
   rw[pE T dx x σ Wt] at h1
   cases hr:rd T dx x σ.ev σ.h with
   |none=>rw[hr] at h1;cases h1
   |some p=>
    obtain⟨v,A⟩:=p
    rw[hr] at h1
    simp only[Option.bind_some,gB] at h1
    cases hA:σ.cH A with
    |none=>rw[hA] at h1;cases h1
    |some xA=>
     rw[hA] at h1
     simp only[Option.map_some] at h1
     injection h1 with h1
     rw[n9] at h1
     subst h1
     obtain⟨oa,ea⟩:=yT hA
     rw[pE T dy y _ Wu] at h2
     have hry:rd T dy y (xA.we (gX xA.env dx v)).ev (xA.we (gX xA.env dx v)).h=rd T dy y σ.ev σ.h:=by
      rw[Ca T dy y (ev:=σ.ev) _ (fun a ha=>by rw[Yz σ.env v xA a ha];cases a with
       |t n=>show xA.env n=σ.env n;rw[ea]
       |k v=>rfl)]
      exact aaT (u:=fun n=>σ.used n=true) T dy y σ.ev (fun n hn=>(oa n hn).2) W.box (fun a ha m hm=>W.arg (yF a ha) m hm)
     rw[hry] at h2
     cases D4:rd T dy y σ.ev σ.h with
     |none=>rw[D4] at h2;cases h2
     |some q=>
      obtain⟨v2,Bs⟩:=q
      rw[D4] at h2
      simp only[Option.bind_some,gB,yU] at h2
      cases hB:xA.cH Bs with
      |none=>rw[hB] at h2;cases h2
      |some acS=>
       rw[hB] at h2
       simp only[Option.map_some] at h2
       injection h2 with h2
       obtain⟨xB,b1,b2⟩:=Pr hA hB
       obtain⟨ob,eb⟩:=yT b1
       obtain⟨oab,eab⟩:=yT hB
       refine⟨xB.put dy v2,?_,?_⟩
       ·rw[pE T dy y σ Wu,D4]
        simp[gB,b1]
       ·rw[n9,pE T dx x _ Wt]
        have hrx:rd T dx x (xB.we (gX xB.env dy v2)).ev (xB.we (gX xB.env dy v2)).h=rd T dx x σ.ev σ.h:=by
         rw[Ca T dx x (ev:=σ.ev) _ (fun a ha=>by rw[Yw σ.env v2 xB a ha];cases a with
          |t n=>show xB.env n=σ.env n;rw[eb]
          |k v=>rfl)]
         exact aaT (u:=fun n=>σ.used n=true) T dx x σ.ev (fun n hn=>(ob n hn).2) W.box (fun a ha m hm=>W.arg (IE a ha) m hm)
        rw[hrx,hr]
        simp only[Option.bind_some,gB,yU,b2,Option.map_some]
        rw[<-h2,n9,n9]
        congr 1
        show acS.we (gX (gX xB.env dy v2) dx v)=acS.we (gX (gX xA.env dx v) dy v2)
        rw[eb,ea,Kt σ.env _ _ hd]
end
theorem Aq (T:bj) (o:bL) (σ:St):eC T o σ=(lV o σ.env).bind fun op=>aG T o.dst op σ:=by
 unfold eC lV
 cases hg:o.guard with
 |none=>rfl
 |some g=>
  obtain⟨s,kl⟩:=g
  simp only
  generalize σ.env s=v
  cases v with
  |one c=>cases c with
   |c x=>cases x with
    |bool b=>simp only;split<;>rfl
    |_=>rfl
   |_=>rfl
  |agg cs=>rfl
  |bn xs=>cases xs<;>rfl
def bL.tA (o:bL) (n:Nat):Bool:=(o.op.args.all fun a=>match a with|.t m=>m !=n|_=>true)&&(match o.guard with|some (s,_)=>s !=n|none=>true)
def bL.pF (o:bL):Bool:=o.op.args.all MO.flat&&(match o.op with|.store ..=>o.dst.isNone|_=>true)
def Ah (x y:bL):Bool:=
 (match x.dst with|some d=>y.tA d&&(match y.dst with|some e=>e !=d|none=>true)|none=>true)&&
 (match y.dst with|some d=>x.tA d|none=>true)&&x.pF&&y.pF&&(x.op.dH==0||y.op.dH==0||(decide (x.op.dH<=1)&&decide (y.op.dH<=1)))
theorem bL.Km {o:bL} {n:Nat} (h:o.tA n=true):MO.t n∉o.op.args:=by
 intro hm
 simp only[bL.tA,Bool.and_eq_true,List.all_eq_true] at h
 have:=h.1 _ hm
 simp at this
theorem H4 {o:bL} {e:Nat->aj} {op:aC} (h:lV o e=some op):op=o.op\/op=.mv (.k (.bn [])):=by
 unfold lV at h
 split at h
 ·injection h with h;exact .inl h.symm
 ·split at h
  ·split at h
   ·injection h with h;exact .inl h.symm
   ·injection h with h;exact .inr h.symm
  ·injection h with h;exact .inr h.symm
  ·cases h
theorem Dg {o:bL} {e e':Nat->aj} (h:∀s w,o.guard=some (s,w)->e' s=e s):lV o e'=lV o e:=by
 unfold lV
 cases hg:o.guard with
 |none=>rfl
 |some g=>obtain⟨s,w⟩:=g;simp only;rw[h s w hg]
theorem adG {T:bj} {x y:bL} {σ σ1 σ2:St} (W:Wf σ) (hc:Ah x y=true) (h1:eC T x σ=some σ1) (h2:eC T y σ1=some σ2):
  ∃τ,eC T y σ=some τ/\eC T x τ=some σ2:=by
 simp only[Ah,Bool.and_eq_true] at hc
 obtain⟨⟨⟨⟨c1,c2⟩,c3⟩,c4⟩,c5⟩:=hc
 rw[Aq] at h1 h2
 cases ex:lV x σ.env with
 |none=>rw[ex] at h1;cases h1
 |some je=>
  rw[ex] at h1
  have h1:aG T x.dst je σ=some σ1:=h1
  have jx:je=x.op\/je=.mv (.k (.bn [])):=H4 ex
  have zv:∀sz p v,je=.store sz p v->x.dst=none:=by
   intro sz p v he
   rcases jx with rfl|rfl
   ·simp only[bL.pF,Bool.and_eq_true,he] at c3;simpa using c3.2
   ·cases he
  have rq:=v7 zv h1
  have O2:∀s w,y.guard=some (s,w)->x.dst≠some s:=by
   intro s w hg hd
   rw[hd] at c1
   simp[bL.tA,hg] at c1
  have IX:∀s w,x.guard=some (s,w)->y.dst≠some s:=by
   intro s w hg hd
   rw[hd] at c2
   simp[bL.tA,hg] at c2
  have Ig:lV y σ1.env=lV y σ.env:=Dg fun s w hg=>by rw[rq];exact qw (O2 s w hg)
  rw[Ig] at h2
  cases ey:lV y σ.env with
  |none=>rw[ey] at h2;cases h2
  |some iL=>
   rw[ey] at h2
   have h2:aG T y.dst iL σ1=some σ2:=h2
   have jy:iL=y.op\/iL=.mv (.k (.bn [])):=H4 ey
   have xt:∀sz p v,iL=.store sz p v->y.dst=none:=by
    intro sz p v he
    rcases jy with rfl|rfl
    ·simp only[bL.pF,Bool.and_eq_true,he] at c4;simpa using c4.2
    ·cases he
   have Dq:∀a∈je.args,a.flat=true:=by
    rcases jx with rfl|rfl
    ·simp only[bL.pF,Bool.and_eq_true,List.all_eq_true] at c3;exact c3.1
    ·intro a ha;simp[aC.args] at ha;subst ha;rfl
   have Dr:∀a∈iL.args,a.flat=true:=by
    rcases jy with rfl|rfl
    ·simp only[bL.pF,Bool.and_eq_true,List.all_eq_true] at c4;exact c4.1
    ·intro a ha;simp[aC.args] at ha;subst ha;rfl
   have j5:∀n,x.dst=some n->MO.t n∉iL.args:=by
    intro n hd
    rcases jy with rfl|rfl
    ·rw[hd] at c1
     simp only[Bool.and_eq_true] at c1
     exact bL.Km c1.1
    ·simp[aC.args]
   have sI:∀n,y.dst=some n->MO.t n∉je.args:=by
    intro n hd
    rcases jx with rfl|rfl
    ·rw[hd] at c2
     exact bL.Km c2
    ·simp[aC.args]
   have ur:∀n,x.dst=some n->y.dst≠some n:=by
    intro n hd he
    rw[hd,he] at c1
    simp at c1
   have bN:je.dH=0\/iL.dH=0\/(je.dH<=1/\iL.dH<=1):=by
    rcases jx with rfl|rfl
    ·rcases jy with rfl|rfl
     ·simp only[Bool.or_eq_true,beq_iff_eq,Bool.and_eq_true,decide_eq_true_eq,or_assoc] at c5
      exact c5
     ·exact .inr (.inl rfl)
    ·exact .inl rfl
   obtain⟨τ,t1,t2⟩:=Wi W ur j5 sI Dq Dr zv xt bN h1 h2
   refine⟨τ,?_,?_⟩
   ·rw[Aq,ey];exact t1
   ·rw[Aq,Dg (e:=σ.env) (fun s w hg=>by rw[v7 xt t1];exact qw (IX s w hg)),ex];exact t2
end Go.Am
