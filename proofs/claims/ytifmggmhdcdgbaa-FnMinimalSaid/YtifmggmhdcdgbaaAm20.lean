/- Am20: two operations change places. No condition. -/
import Derived.Test.YtifmggmhdcdgbaaAm19
set_option linter.unusedVariables false
namespace Go.Am
def gO (e:Nat->ak) (d:Option Nat) (v:ak):Nat->ak:=
 match d with
 |some n=>au e n v
 |none=>e
theorem nG (σ:St) (d:Option Nat) (v:ak):σ.put d v=σ.we (gO σ.env d v):=by cases d<;>rfl
theorem pL {e:Nat->ak} {d:Option Nat} {v:ak} {n:Nat} (h:d≠some n):gO e d v n=e n:=by
 cases d with
 |none=>rfl
 |some m=>exact cb _ _ _ _ (fun he=>h (by rw[he]))
theorem Ie (e:Nat->ak) {d d':Option Nat} (v v':ak) (h:∀n,d=some n->d'≠some n):gO (gO e d v) d' v'=gO (gO e d' v') d v:=by
 cases d with
 |none=>rfl
 |some n=>cases d' with
  |none=>rfl
  |some m=>
   have aw:m≠n:=fun he=>h n rfl (by rw[he])
   funext k
   simp only[gO,iK]
   by_cases h1:k=m
   ·by_cases h2:k=n
    ·omega
    ·simp[h1,aw]
   ·by_cases h2:k=n
    ·simp[h2,Ne.symm aw]
    ·simp[h1,h2]
def ZW (d:Option Nat) (x:Nat->ak):ak:=
 match d with
 |some n=>x n
 |none=>.one .bf
theorem Sm (e:Nat->ak) (d:Option Nat) (x:Nat->ak):ui e d x=gO e d (ZW d x):=by cases d<;>rfl
theorem aeQ {σ σ1 σ2:St} {n m:Nat} {b c:aq} (h1:σ.ins n b=some σ1) (h2:σ1.ins m c=some σ2):∃τ,σ.ins m c=some τ/\τ.ins n b=some σ2:=by
 obtain⟨u1,rfl⟩:=lW h1
 obtain⟨u2,rfl⟩:=lW h2
 have aw:m≠n:=fun e=>by subst e;simp[bC] at u2
 have um:σ.used m=false:=by simpa[cb _ _ _ _ aw] using u2
 have un:au σ.used m true n=false:=by rw[cb _ _ _ _ (Ne.symm aw)];exact u1
 refine⟨_,by unfold St.ins;rw[if_neg (by simp[um])],?_⟩
 unfold St.ins
 simp only[un,Bool.false_eq_true,if_false]
 congr 2<;>(funext k;simp only[iK];by_cases h1:k=m<;>by_cases h2:k=n<;>simp_all)
theorem WK {m:Nat} {c:aq}:∀{A:List (Nat×aq)} {σ σ1 σ2:St},σ.cF A=some σ1->σ1.ins m c=some σ2->∃τ,σ.ins m c=some τ/\τ.cF A=some σ2
 |[],σ,σ1,σ2,h1,h2=>by
  simp only[St.cF] at h1
  injection h1 with h1
  subst h1
  exact⟨σ2,h2,rfl⟩
 |(n,b)::A,σ,σ1,σ2,h1,h2=>by
  simp only[St.cF] at h1
  split at h1
  ·rename_i je e
   obtain⟨τ,t1,t2⟩:=WK h1 h2
   obtain⟨SH,s1,s2⟩:=aeQ e t1
   exact⟨SH,s1,by simp only[St.cF,s2];exact t2⟩
  ·cases h1
theorem Nd:∀{Bs A:List (Nat×aq)} {σ σ1 σ2:St},σ.cF A=some σ1->σ1.cF Bs=some σ2->∃τ,σ.cF Bs=some τ/\τ.cF A=some σ2
 |[],A,σ,σ1,σ2,h1,h2=>by
  simp only[St.cF] at h2
  injection h2 with h2
  subst h2
  exact⟨σ,rfl,h1⟩
 |(m,c)::Bs,A,σ,σ1,σ2,h1,h2=>by
  simp only[St.cF] at h2
  split at h2
  ·rename_i gj e
   obtain⟨τ,t1,t2⟩:=WK h1 e
   obtain⟨SH,s1,s2⟩:=Nd t2 h2
   exact⟨SH,by simp only[St.cF,t1];exact s1,s2⟩
  ·cases h2
theorem xS:∀{A:List (Nat×aq)} {σ σ1:St},σ.cF A=some σ1->(∀n,σ.used n=true->σ1.used n=true/\σ1.h n=σ.h n)/\σ1.env=σ.env
 |[],σ,σ1,h1=>by
  simp only[St.cF] at h1
  injection h1 with h1
  subst h1
  exact⟨fun n hn=>⟨hn,rfl⟩,rfl⟩
 |(m,c)::A,σ,σ1,h1=>by
  simp only[St.cF] at h1
  split at h1
  ·rename_i je e
   obtain⟨u1,rfl⟩:=lW e
   obtain⟨t1,t2⟩:=xS h1
   refine⟨fun n hn=>?_,t2⟩
   have aw:n≠m:=fun he=>by subst he;rw[u1] at hn;cases hn
   obtain⟨s1,s2⟩:=t1 n (qc _ _ hn)
   exact⟨s1,by rw[s2];exact cb _ _ _ _ aw⟩
  ·cases h1
structure Wf (σ:St):Prop where
 env:∀s m,(σ.env s).ref m->σ.used m=true
 box:∀m cs c n,σ.h m=some (.box cs)->c∈cs->c.ref n->σ.used n=true
def ai.flat:ai->Bool
 |.c _|.nil _|.bf=>true
 |_=>false
def MO.flat:MO->Bool
 |.t _=>true
 |.k (.one c)=>c.flat
 |.k (.agg cs)=>cs.all ai.flat
 |.k (.bn xs)=>xs.isEmpty
theorem ai.UN {c:ai} (h:c.flat=true) (m:Nat):¬c.ref m:=by
 cases c<;>first|exact id|(simp[ai.flat] at h)
theorem Wf.arg {σ:St} (W:Wf σ) {x:MO} (hx:x.flat=true) (m:Nat) (hm:(σ.ev x).ref m):σ.used m=true:=by
 cases x with
 |t n=>exact W.env n m hm
 |k v=>cases v with
  |one c=>exact absurd hm (ai.UN hx m)
  |agg cs=>
   obtain⟨c,hc,hm⟩:=hm
   exact absurd hm (ai.UN (List.all_eq_true.1 hx c hc) m)
  |bn xs=>
   have:xs=[]:=by simpa[MO.flat] using hx
   subst this
   obtain⟨c,hc,_⟩:=hm
   cases hc
theorem Yv (T:bg) (d:Option Nat) (op:aC) (ev:MO->ak) (h:Nat->Option aq) (hc:op.dE=0) {x:ak×List (Nat×aq)} (hx:rd T d op ev h=some x):x.2=[]:=by
 cases op<;>simp[aC.dE] at hc<;>simp only[rd] at hx
 all_goals
  repeat' split at hx
  all_goals first|(cases hx;rfl)|(cases hx)
theorem Gs {σ:St} {e:Nat->ak} {x:MO} (h:∀n,x=.t n->e n=σ.env n):(σ.we e).ev x=σ.ev x:=by
 cases x with
 |t n=>exact h n rfl
 |k v=>rfl
section
variable {T:bg} {dx dy:Option Nat} {x y:aC} {σ σ1 σ2:St}
theorem uR (tn:∀sz p v,x=.store sz p v->dx=none) (h1:aE T dx x σ=some σ1):σ1.env=gO σ.env dx (ZW dx σ1.env):=by
 have h:=KD T dx x σ σ.env (fun _ _=>rfl) tn
 rw[alf,h1] at h
 simp only[Option.map_some] at h
 injection h with h
 rw[<-Sm]
 calc σ1.env=(σ1.we (ui σ.env dx σ1.env)).env:=by rw[<-h]
  _=_:=rfl
theorem TM (W:Wf σ) (hd:∀n,dx=some n->dy≠some n) (jP:∀n,dx=some n->MO.t n∉y.args) (rZ:∀n,dy=some n->MO.t n∉x.args)
  (zK:∀a∈x.args,a.flat=true) (xA:∀a∈y.args,a.flat=true)
  (tn:∀sz p v,x=.store sz p v->dx=none) (CL:∀sz p v,y=.store sz p v->dy=none) (alu:x.dE=0\/y.dE=0\/(x.dE<=1/\y.dE<=1))
  (h1:aE T dx x σ=some σ1) (h2:aE T dy y σ1=some σ2):∃τ,aE T dy y σ=some τ/\aE T dx x τ=some σ2:=by
 have V3:∀(e:Nat->ak) (v:ak) (s:St),∀a∈y.args,(s.we (gO s.env dx v)).ev a=s.ev a:=fun e v s a ha=>Gs fun n hn=>pL fun n6=>jP n n6 (hn▸ha)
 have V0:∀(e:Nat->ak) (v:ak) (s:St),∀a∈x.args,(s.we (gO s.env dy v)).ev a=s.ev a:=fun e v s a ha=>Gs fun n hn=>pL fun n6=>rZ n n6 (hn▸ha)
 by_cases cx:x.dE=0
 ·rw[o9 T dx x σ (by omega)] at h1
  cases hr:rd T dx x σ.ev σ.h with
  |none=>rw[hr] at h1;cases h1
  |some p=>
   obtain⟨v,bs⟩:=p
   have hb:bs=[]:=Yv T dx x _ _ cx hr
   subst hb
   rw[hr] at h1
   simp only[Option.bind_some,fin,St.cF,Option.map_some] at h1
   injection h1 with h1
   rw[nG] at h1
   subst h1
   rw[KD T dy y σ _ (V3 σ.env v σ) CL] at h2
   cases hy:aE T dy y σ with
   |none=>rw[hy] at h2;cases h2
   |some τ=>
    rw[hy] at h2
    simp only[Option.map_some] at h2
    injection h2 with h2
    refine⟨τ,rfl,?_⟩
    have qJ:=uR CL hy
    rw[o9 T dx x τ (by omega),Yw T dx x τ.ev σ.h τ.h cx,A6 T dx x (ev:=σ.ev) (ev':=τ.ev) σ.h (fun a ha=>by
     cases a with
     |t n=>
      show τ.env n=σ.env n
      rw[qJ]
      exact pL fun n6=>rZ n n6 ha
     |k v=>rfl),hr]
    simp only[Option.bind_some,fin,St.cF,Option.map_some]
    rw[<-h2,nG]
    congr 1
    have:gO τ.env dx v=ui (gO σ.env dx v) dy τ.env:=by
     rw[Sm,Ie σ.env _ _ hd]
     rw[<-qJ]
    rw[this]
 ·by_cases cy:y.dE=0
  ·rw[o9 T dy y σ1 (by omega)] at h2
   cases hr:rd T dy y σ1.ev σ1.h with
   |none=>rw[hr] at h2;cases h2
   |some p=>
    obtain⟨v,bs⟩:=p
    have hb:bs=[]:=Yv T dy y _ _ cy hr
    subst hb
    rw[hr] at h2
    simp only[Option.bind_some,fin,St.cF,Option.map_some] at h2
    injection h2 with h2
    have qJ:=uR tn h1
    refine⟨σ.put dy v,?_,?_⟩
    ·rw[o9 T dy y σ (by omega),Yw T dy y σ.ev σ1.h σ.h cy,A6 T dy y (ev:=σ1.ev) (ev':=σ.ev) σ1.h (fun a ha=>by
      cases a with
      |t n=>
       show σ.env n=σ1.env n
       rw[qJ]
       exact(pL fun n6=>jP n n6 ha).symm
      |k v=>rfl),hr]
     rfl
    ·rw[nG,KD T dx x σ _ (V0 σ.env v σ) tn,h1]
     simp only[Option.map_some]
     rw[<-h2,nG]
     congr 2
     rw[Sm,<-Ie σ.env _ _ hd,<-qJ]
  ·have TW:x.dE<=1:=by omega
   have TX:y.dE<=1:=by omega
   rw[o9 T dx x σ TW] at h1
   cases hr:rd T dx x σ.ev σ.h with
   |none=>rw[hr] at h1;cases h1
   |some p=>
    obtain⟨v,A⟩:=p
    rw[hr] at h1
    simp only[Option.bind_some,fin] at h1
    cases hA:σ.cF A with
    |none=>rw[hA] at h1;cases h1
    |some ww=>
     rw[hA] at h1
     simp only[Option.map_some] at h1
     injection h1 with h1
     rw[nG] at h1
     subst h1
     obtain⟨oa,ea⟩:=xS hA
     rw[o9 T dy y _ TX] at h2
     have hry:rd T dy y (ww.we (gO ww.env dx v)).ev (ww.we (gO ww.env dx v)).h=rd T dy y σ.ev σ.h:=by
      rw[A6 T dy y (ev:=σ.ev) _ (fun a ha=>by rw[V3 σ.env v ww a ha];cases a with
       |t n=>show ww.env n=σ.env n;rw[ea]
       |k v=>rfl)]
      exact Yt (u:=fun n=>σ.used n=true) T dy y σ.ev (fun n hn=>(oa n hn).2) W.box (fun a ha m hm=>W.arg (xA a ha) m hm)
     rw[hry] at h2
     cases CW:rd T dy y σ.ev σ.h with
     |none=>rw[CW] at h2;cases h2
     |some q=>
      obtain⟨v2,Bs⟩:=q
      rw[CW] at h2
      simp only[Option.bind_some,fin,xT] at h2
      cases hB:ww.cF Bs with
      |none=>rw[hB] at h2;cases h2
      |some aab=>
       rw[hB] at h2
       simp only[Option.map_some] at h2
       injection h2 with h2
       obtain⟨wz,b1,b2⟩:=Nd hA hB
       obtain⟨ob,eb⟩:=xS b1
       obtain⟨oab,eab⟩:=xS hB
       refine⟨wz.put dy v2,?_,?_⟩
       ·rw[o9 T dy y σ TX,CW]
        simp[fin,b1]
       ·rw[nG,o9 T dx x _ TW]
        have hrx:rd T dx x (wz.we (gO wz.env dy v2)).ev (wz.we (gO wz.env dy v2)).h=rd T dx x σ.ev σ.h:=by
         rw[A6 T dx x (ev:=σ.ev) _ (fun a ha=>by rw[V0 σ.env v2 wz a ha];cases a with
          |t n=>show wz.env n=σ.env n;rw[eb]
          |k v=>rfl)]
         exact Yt (u:=fun n=>σ.used n=true) T dx x σ.ev (fun n hn=>(ob n hn).2) W.box (fun a ha m hm=>W.arg (zK a ha) m hm)
        rw[hrx,hr]
        simp only[Option.bind_some,fin,xT,b2,Option.map_some]
        rw[<-h2,nG,nG]
        congr 1
        show aab.we (gO (gO wz.env dy v2) dx v)=aab.we (gO (gO ww.env dx v) dy v2)
        rw[eb,ea,Ie σ.env _ _ hd]
end
theorem zz (T:bg) (o:bN) (σ:St):eg T o σ=(lJ o σ.env).bind fun op=>aE T o.dst op σ:=by
 unfold eg lJ
 cases hg:o.guard with
 |none=>rfl
 |some g=>
  obtain⟨s,ka⟩:=g
  simp only
  generalize σ.env s=v
  cases v with
  |one c=>cases c with
   |c x=>cases x with
    |bool b=>simp only;split<;>rfl
    |_=>rfl
   |_=>rfl
  |agg cs=>rfl
  |bn xs=>cases xs<;>rfl
def bN.sy (o:bN) (n:Nat):Bool:=(o.op.args.all fun a=>match a with|.t m=>m !=n|_=>true)&&(match o.guard with|some (s,_)=>s !=n|none=>true)
def bN.pb (o:bN):Bool:=o.op.args.all MO.flat&&(match o.op with|.store ..=>o.dst.isNone|_=>true)
def zr (x y:bN):Bool:=
 (match x.dst with|some d=>y.sy d&&(match y.dst with|some e=>e !=d|none=>true)|none=>true)&&
 (match y.dst with|some d=>x.sy d|none=>true)&&x.pb&&y.pb&&(x.op.dE==0||y.op.dE==0||(decide (x.op.dE<=1)&&decide (y.op.dE<=1)))
theorem bN.H7 {o:bN} {n:Nat} (h:o.sy n=true):MO.t n∉o.op.args:=by
 intro hm
 simp only[bN.sy,Bool.and_eq_true,List.all_eq_true] at h
 have:=h.1 _ hm
 simp at this
theorem Gl {o:bN} {e:Nat->ak} {op:aC} (h:lJ o e=some op):op=o.op\/op=.mv (.k (.bn [])):=by
 unfold lJ at h
 split at h
 ·injection h with h;exact .inl h.symm
 ·split at h
  ·split at h
   ·injection h with h;exact .inl h.symm
   ·injection h with h;exact .inr h.symm
  ·injection h with h;exact .inr h.symm
  ·cases h
theorem Cd {o:bN} {e e':Nat->ak} (h:∀s w,o.guard=some (s,w)->e' s=e s):lJ o e'=lJ o e:=by
 unfold lJ
 cases hg:o.guard with
 |none=>rfl
 |some g=>obtain⟨s,w⟩:=g;simp only;rw[h s w hg]
theorem aa0 {T:bg} {x y:bN} {σ σ1 σ2:St} (W:Wf σ) (hc:zr x y=true) (h1:eg T x σ=some σ1) (h2:eg T y σ1=some σ2):
  ∃τ,eg T y σ=some τ/\eg T x τ=some σ2:=by
 simp only[zr,Bool.and_eq_true] at hc
 obtain⟨⟨⟨⟨c1,c2⟩,c3⟩,c4⟩,c5⟩:=hc
 rw[zz] at h1 h2
 cases ex:lJ x σ.env with
 |none=>rw[ex] at h1;cases h1
 |some iI=>
  rw[ex] at h1
  have h1:aE T x.dst iI σ=some σ1:=h1
  have jx:iI=x.op\/iI=.mv (.k (.bn [])):=Gl ex
  have yJ:∀sz p v,iI=.store sz p v->x.dst=none:=by
   intro sz p v he
   rcases jx with rfl|rfl
   ·simp only[bN.pb,Bool.and_eq_true,he] at c3;simpa using c3.2
   ·cases he
  have qJ:=uR yJ h1
  have Mx:∀s w,y.guard=some (s,w)->x.dst≠some s:=by
   intro s w hg hd
   rw[hd] at c1
   simp[bN.sy,hg] at c1
  have Hf:∀s w,x.guard=some (s,w)->y.dst≠some s:=by
   intro s w hg hd
   rw[hd] at c2
   simp[bN.sy,hg] at c2
  have Gw:lJ y σ1.env=lJ y σ.env:=Cd fun s w hg=>by rw[qJ];exact pL (Mx s w hg)
  rw[Gw] at h2
  cases ey:lJ y σ.env with
  |none=>rw[ey] at h2;cases h2
  |some iu=>
   rw[ey] at h2
   have h2:aE T y.dst iu σ1=some σ2:=h2
   have jy:iu=y.op\/iu=.mv (.k (.bn [])):=Gl ey
   have wj:∀sz p v,iu=.store sz p v->y.dst=none:=by
    intro sz p v he
    rcases jy with rfl|rfl
    ·simp only[bN.pb,Bool.and_eq_true,he] at c4;simpa using c4.2
    ·cases he
   have Cp:∀a∈iI.args,a.flat=true:=by
    rcases jx with rfl|rfl
    ·simp only[bN.pb,Bool.and_eq_true,List.all_eq_true] at c3;exact c3.1
    ·intro a ha;simp[aC.args] at ha;subst ha;rfl
   have Cq:∀a∈iu.args,a.flat=true:=by
    rcases jy with rfl|rfl
    ·simp only[bN.pb,Bool.and_eq_true,List.all_eq_true] at c4;exact c4.1
    ·intro a ha;simp[aC.args] at ha;subst ha;rfl
   have jP:∀n,x.dst=some n->MO.t n∉iu.args:=by
    intro n hd
    rcases jy with rfl|rfl
    ·rw[hd] at c1
     simp only[Bool.and_eq_true] at c1
     exact bN.H7 c1.1
    ·simp[aC.args]
   have rZ:∀n,y.dst=some n->MO.t n∉iI.args:=by
    intro n hd
    rcases jx with rfl|rfl
    ·rw[hd] at c2
     exact bN.H7 c2
    ·simp[aC.args]
   have zH:∀n,x.dst=some n->y.dst≠some n:=by
    intro n hd he
    rw[hd,he] at c1
    simp at c1
   have bP:iI.dE=0\/iu.dE=0\/(iI.dE<=1/\iu.dE<=1):=by
    rcases jx with rfl|rfl
    ·rcases jy with rfl|rfl
     ·simp only[Bool.or_eq_true,beq_iff_eq,Bool.and_eq_true,decide_eq_true_eq,or_assoc] at c5
      exact c5
     ·exact .inr (.inl rfl)
    ·exact .inl rfl
   obtain⟨τ,t1,t2⟩:=TM W zH jP rZ Cp Cq yJ wj bP h1 h2
   refine⟨τ,?_,?_⟩
   ·rw[zz,ey];exact t1
   ·rw[zz,Cd (e:=σ.env) (fun s w hg=>by rw[uR wj t1];exact pL (Hf s w hg)),ex];exact t2
end Go.Am
