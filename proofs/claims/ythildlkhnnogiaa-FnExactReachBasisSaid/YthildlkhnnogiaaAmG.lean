/- AmF, AmG: parts of the proof. No condition. -/
import Derived.Test.YthildlkhnnogiaaAmE
import Derived.Test.YthildlkhnnogiaaAmQ
set_option linter.unusedVariables false
section
namespace Go.Am
def AW (B:Nat) (E:Ex) (w0:World) (N:Nat) (a:Act) (w:World) (G:Gh) (d:Option Nat) (σ:St):Act->World->Prop:=
 fun a' w'=>w'=w/\(∃v,a'=a.put d v)/\R B E w0 N σ a' w G
section
variable {B:Nat} {E:Ex} {w0 w w':World} {G G':Gh} {N:Nat} {h h':Nat->Option aj} {used:Nat->Bool}
variable {P:Program} {T:aF} {o:Oper} {a:Act} {σ σ':St} {Q:Exit->Act->World->Prop}
theorem za (r:R B E w0 N σ a w G) {x:ah} {v:Value} (aS:(execOp a.eval o).run P w=.ok (.value v) w) (hv:RA w G σ.h x v) (hr:∀m,x.ref m->σ.used m=true) (hN:∀n,o.dst=some n->n<N):
  o.wp P a w (AW B E w0 N a w G o.dst (σ.put o.dst x)) Q:=jk aS ⟨rfl,⟨v,rfl⟩,r.put hv hr hN⟩
theorem Wz (r:R B E w0 N σ a w G) {x:Operand} {m:MO} (ho:o.op=.move x\/o.op=.assign x) (hN:∀n,o.dst=some n->n<N) (hm:bd x m=true):
  o.wp P a w (AW B E w0 N a w G o.dst (σ.put o.dst (σ.ev m))) Q:=by
 obtain⟨h1,h2⟩:=r.ev hm
 refine za r ?_ h1 h2 hN
 rcases ho with ho|ho<;>simp[execOp,ho]
theorem MQ (r:R B E w0 N σ a w G) {s:TypeId} {f off:Nat} {x:Operand} {mx:MO} {y:ah} (ho:o.op=.fieldAddr s x f) (hN:∀n,o.dst=some n->n<N) (hx:bd x mx=true) (hc:DI P s f off=true)
  (hy:(∃n k sz q,σ.ev mx=.one (.ptr n k sz q)/\(σ.h n).isSome=true/\y=.one (.ptr n k sz (q+off)))\/(∃xs q,σ.ev mx=.one (.cd xs q)/\y=.one (.cd xs (q+off)))\/(∃xs q j n s len,σ.ev mx=.one (.bK xs q j n s len)/\y=.one (.bK xs (q+off) j n s len))):
  o.wp P a w (AW B E w0 N a w G o.dst (σ.put o.dst y)) Q:=by
 obtain⟨x1,x2⟩:=r.ev hx
 rcases hy with⟨n,k,sz,q,e1,hs,rfl⟩|⟨xs,q,e1,rfl⟩|⟨xs,q,j,n,s',len,e1,rfl⟩
 ·rw[e1] at x1 x2
  have hp:σ.h n≠none:=by intro hh;rw[hh] at hs;cases hs
  obtain⟨h1,h2⟩:=(x1.dB (by simp)).1 hp
  refine za r (v:=.pointer (some (ad (G.g n).b ((G.g n).o+k*sz+q+off)))) ?_ ?_ (fun m hm=>x2 m hm) hN
  ·simp only[execOp,ho,h2]
   simp[CR hc]
  ·exact RA.dS rfl fun _=>⟨h1,by rw[Nat.add_assoc]⟩
 ·rw[e1] at x1
  obtain⟨b,o',pe,p1,p2,p3,p4⟩:=(x1.dB (by simp)).1
  refine za r (v:=.pointer (some (ad b (o'+q+off)))) ?_ ?_ (fun m hm=>absurd hm (by simp[ah.ref,ab.ref,ab.fL])) hN
  ·simp only[execOp,ho,p1]
   simp[CR hc]
  ·exact RA.dS rfl ⟨b,o',pe,by rw[Nat.add_assoc],p2,p3,p4⟩
 ·rw[e1] at x1 x2
  obtain⟨b,o',pe,p1,p2,p3,p4,p5⟩:=(x1.dB (by simp)).1
  refine za r (v:=.pointer (some (ad b (o'+q+off)))) ?_ ?_ (fun m hm=>x2 m hm) hN
  ·simp only[execOp,ho,p1]
   simp[CR hc]
  ·exact RA.dS rfl ⟨b,o',pe,by rw[Nat.add_assoc],p2,p3,p4,p5⟩
theorem Ww (r:R B E w0 N σ a w G) {t e:TypeId} {i:TypeInfo} {x y:Operand} {mx my:MO} {sz:Nat} {q:Int} {z:ah} (ho:o.op=.indexAddr t x y) (hN:∀n,o.dst=some n->n<N) (eR:bd x mx=true) (fo:bd y my=true)
  (ht:P.underlying t=some (.slice e)) (hi:P.info? e=some i) (bn:i.size=sz) (hq:(σ.ev my).cJ=some q) (h0:0<=q)
  (hz:(∃n lo len,σ.ev mx=.one (.sl n sz lo len)/\q<(len:Int)/\(σ.h n).isSome=true/\z=.one (.ptr n (lo+q.toNat) sz 0))\/(∃xs el,σ.ev mx=.one (.c (.list sz xs))/\xs[q.toNat]? =some el/\z=.one (.cd el 0))):
  o.wp P a w (AW B E w0 N a w G o.dst (σ.put o.dst z)) Q:=by
 obtain⟨x1,x2⟩:=r.ev eR
 obtain⟨kk,ey⟩:=(r.ev fo).1.int hq
 rcases hz with⟨n,lo,len,e1,h1,hs,rfl⟩|⟨xs,el,e1,h1,rfl⟩
 ·rw[e1] at x1 x2
  have fC:eU (G.g n) sz lo len (a.eval x):=(x1.dB (by simp)).1 (E9 hs)
  rcases fC with⟨_,_,_,hl⟩|⟨aD,a',hv,gh,ha⟩
  ·omega
  ·have lm:=ha (.inl (by omega))
   subst lm
   refine za r (v:=.pointer (some (ad (G.g n).b ((G.g n).o+lo*sz+q.toNat*sz)))) ?_ ?_ (fun m hm=>x2 m hm) hN
   ·simp only[execOp,ho,hv,ey]
    simp[CS ht hi bn h0 h1]
   ·exact RA.dS rfl fun _=>⟨aD,by rw[Nat.add_mul];congr 3;omega⟩
 ·rw[e1] at x1
  obtain⟨pc,p1,p2,p3,p4⟩:=x1.c
  cases pc with
  |int k n=>simp[PC.er] at p1
  |bool b=>simp[PC.er] at p1
  |list s' ya c py=>
   rw[PC.cN] at p1
   injection p1 with p0 p1
   subst p0
   have gN:∃pe,py[q.toNat]? =some pe/\pe.map PC.er=el:=by
    rw[<-p1,List.getElem?_map] at h1
    cases hp:py[q.toNat]? with
    |none=>rw[hp] at h1;cases h1
    |some pe=>rw[hp] at h1;simp at h1;exact⟨pe,rfl,h1⟩
   obtain⟨pe,qL,rZ⟩:=gN
   have bS:q.toNat<py.length:=(List.getElem?_eq_some_iff.1 qL).1
   cases p3 with
   |nil _ _ _ _=>simp at bS
   |cons _ b oo _ _ g1 g2 g3 g4 g5 g6=>
    have db:q<(py.length:Int):=by omega
    refine za r (v:=.pointer (some (ad b (oo+q.toNat*s')))) ?_ ?_ (fun m hm=>absurd hm (by simp[ah.ref,ab.ref,ab.fL])) hN
    ·simp only[execOp,ho,<-p2,PC.val,ey]
     simp[CS ht hi bn h0 db]
    ·refine RA.dS rfl ⟨b,oo+q.toNat*s',pe,by simp,rZ,p4 b (.here _ _ _ _ g1),fun j c hj=>?_⟩
     exact⟨g5 _ _ _ ⟨pe,qL,hj⟩,g6 _ _ _ ⟨pe,qL,hj⟩,fun b' aE=>p4 b' (.there _ _ _ _ _ _ c ⟨pe,qL,hj⟩ aE)⟩
theorem adN (r:R B E w0 N σ a w G) {t e:TypeId} {i:TypeInfo} {x y:Operand} {mx my:MO} {n k au off sz ax len:Nat} {q:Int} {ys:List (List C)} (ho:o.op=.indexAddr t x y) (hN:∀n,o.dst=some n->n<N) (eR:bd x mx=true) (fo:bd y my=true)
  (ht:P.underlying t=some (.slice e)) (hi:P.info? e=some i) (bn:i.size=sz) (hq:(σ.ev my).cJ=some q) (h0:0<=q) (h1:q<(ys.length:Int))
  (hx:σ.ev mx=.one (.bf n k au off ax len)) (hv:bQ σ.h (.bf n k au off ax len)=some (.list sz ys)):
  o.wp P a w (AW B E w0 N a w G o.dst (σ.put o.dst (.one (.bX n k au off sz q.toNat)))) Q:=by
 obtain⟨x1,x2⟩:=r.ev eR
 obtain⟨kk,ey⟩:=(r.ev fo).1.int hq
 rw[hx] at x1 x2
 obtain⟨gr,xs,hn,hb⟩:=abP hv
 obtain⟨pc,p1,p2,p3⟩:=(x1.dB (by simp)).1 gr xs hn
 obtain⟨g1,g2,g3⟩:=r.hr.Fs hn p1
 rw[hb] at g3
 injection g3 with g3
 cases pc with
 |int k n=>simp[PC.er] at g3
 |bool b=>simp[PC.er] at g3
 |list s' ya c py=>
  rw[PC.cN] at g3
  injection g3 with e1 e2
  subst e1
  have hl:ys.length=py.length:=by rw[e2];simp
  have db:q<(py.length:Int):=by omega
  have vr:PC.val (.list sz ya c py)=.slice ya py.length c:=rfl
  generalize e9:PC.list sz ya c py=p at g2
  cases g2 with
  |int k n=>cases e9
  |bool b=>cases e9
  |nil _ _ _ _=>injection e9 with _ _ _ e4;subst e4;simp at db;omega
  |cons _ b oo _ _ q1 q2 q3 q4 q5 q6=>
   injection e9 with f1 f2 f3 f4
   subst f1 f2 f3 f4
   refine za r (v:=.pointer (some (ad b (oo+q.toNat*sz)))) ?_ ?_ (fun m hm=>x2 m hm) hN
   ·simp only[execOp,ho,<-p2,PC.val,ey]
    simp[CS ht hi bn h0 db]
   ·refine RA.dS rfl fun aW ak bh=>?_
    exact⟨_,b,oo,py.length,c,p1,rfl,rfl,rfl⟩
end
end Go.Am
end
section
namespace Go.Am
def ajR:aI:=.mv (.k (.one .aX))
def MO.isNone:aI->Bool
 |.mv (.k (.one .aX))=>true
 |_=>false
def MO.Cj (s:Nat):MO->Bool
 |.t n=>n==s
 |_=>false
def qa (sp:oT) (m:bq):Bool:=
 (match m.guard with|none=>true|some _=>false)&&(match m.op with|.mv _|.cH _ _ _|.aC _ _=>true|_=>false)&&
 (match m.dst with|none=>true|some s=>s !=sp.d&& !(sp.ml.Cj s)&& !(sp.my.Cj s))
def uG (P:Program) (N:Nat) (sp:oT) (o:Oper) (m:bq):Bool:=
 decide (m.dst=some sp.d)&&decide (o.dst=some sp.d)&&decide (sp.d<N)&&(match m.guard with|none=>true|some _=>false)&&(match o.guard with|none=>true|some _=>false)&&
 MO.isNone m.op&& !(sp.ml.Cj sp.d)&& !(sp.my.Cj sp.d)&&
 (match o.op with
  |.call c=>match c.callee,c.args.toList,c.argTypes.toList with
   |.builtin .append,[x,y],[t,t']=>(t==t')&&bd x sp.ml&&bd y sp.my&&o8 P t sp.sz (fun i z=>(i.bytes==sp.by_)&&decide (0<sp.by_)&&(z.cells.size==sp.sz))
   |_,_,_=>false
  |_=>false)
def uI (P:Program) (sp:oT) (o:Oper) (m:bq):Bool:=
 decide (m.dst=none)&&decide (o.dst=none)&&(match m.guard with|none=>true|some _=>false)&&(match o.guard with|none=>true|some _=>false)&&MO.isNone m.op&&
 (match o.op with
  |.store t x (.tmp s)=>bd x sp.mx&&(s==sp.d)&&Ii P t 1
  |_=>false)
def wP (P:Program) (N:Nat) (ops:Array Oper) (sp:oT) (n i:Nat) (o:Oper) (m:bq):Bool:=
 if i=sp.ia then uG P N sp o m else if i+1=n then uI P sp o m else m5 P N ops o m
section
variable {B:Nat} {E:Ex} {w0 w w':World} {G G':Gh} {N:Nat} {h h':Nat->Option aj}
variable {P:Program} {T:aF} {o:Oper} {m:bq} {a:Act} {σ σ':St} {Q:Exit->Act->World->Prop} {ops:Array Oper} {sp:oT}
theorem MO.zP {op:aI} (h:MO.isNone op=true):op=ajR:=by
 unfold MO.isNone at h
 split at h
 ·rfl
 ·cases h
theorem MO.Ck {s:Nat} {x:MO} (h:x.Cj s=false):x≠ .t s:=by
 rintro rfl
 simp[MO.Cj] at h
theorem Bz {d:Nat} {v:ah} {x:MO} (h:x≠ .t d):(σ.put (some d) v).ev x=σ.ev x:=by
 cases x with
 |t n=>
  show ao σ.env d v n=σ.env n
  exact bP _ _ _ _ (fun e=>h (by rw[e]))
 |k v=>rfl
theorem K4 (hv:qa sp m=true) (hx:cQ T m σ=some σ'):σ'.h=σ.h/\σ'.ev sp.ml=σ.ev sp.ml/\σ'.ev sp.my=σ.ev sp.my:=by
 obtain⟨dst,op,guard⟩:=m
 simp only[qa,Bool.and_eq_true] at hv
 obtain⟨⟨h1,h2⟩,h3⟩:=hv
 cases guard with
 |some g=>cases h1
 |none=>
  simp only[cQ] at hx
  have bW:∀x,σ'=σ.put dst x->σ'.h=σ.h/\σ'.ev sp.ml=σ.ev sp.ml/\σ'.ev sp.my=σ.ev sp.my:=by
   rintro x rfl
   cases dst with
   |none=>exact⟨rfl,rfl,rfl⟩
   |some s=>
    simp only[Bool.and_eq_true,Bool.not_eq_true'] at h3
    exact⟨rfl,Bz (MO.Ck h3.1.2),Bz (MO.Ck h3.2)⟩
  cases op<;>simp only at h2<;>first|cases h2|skip
  ·simp only[exec] at hx
   injection hx with hx
   exact bW _ hx.symm
  ·simp only[exec] at hx
   split at hx
   ·split at hx
    ·injection hx with hx;exact bW _ hx.symm
    ·cases hx
   ·injection hx with hx;exact bW _ hx.symm
   ·injection hx with hx;exact bW _ hx.symm
   ·cases hx
  ·simp only[exec] at hx
   split at hx
   ·split at hx
    ·injection hx with hx;exact bW _ hx.symm
    ·cases hx
   ·split at hx
    ·split at hx
     ·injection hx with hx;exact bW _ hx.symm
     ·cases hx
    ·cases hx
   ·split at hx
    ·split at hx
     ·injection hx with hx;exact bW _ hx.symm
     ·cases hx
    ·cases hx
   ·cases hx
theorem WC (r:R B E w0 N σ a w G) (hv:qa sp m=true) (hc:m5 P N ops o m=true) (hx:cQ T m σ=some σ'):o.guard=none/\o.wp P a w (AW B E w0 N a w G o.dst σ') Q:=by
 simp only[m5,Bool.and_eq_true,decide_eq_true_eq] at hc
 obtain⟨⟨⟨c1,c2⟩,c3⟩,c4⟩:=hc
 have hN:∀n,o.dst=some n->n<N:=fun n hn=>by rw[hn] at c2;simpa using c2
 obtain⟨dst,op,guard⟩:=m
 simp only[qa,Bool.and_eq_true] at hv
 obtain⟨⟨h1,h2⟩,h3⟩:=hv
 cases guard with
 |some g=>cases h1
 |none=>
  have hg:o.guard=none:=by
   unfold Mi at c3
   cases hg:o.guard with
   |none=>rfl
   |some g=>rw[hg] at c3;cases c3
  refine⟨hg,?_⟩
  simp only[cQ] at hx
  simp only at c1
  subst c1
  obtain⟨anq,Q5,oty,anr,anp,ogd⟩:=o
  cases op<;>simp only at h2<;>first|cases h2|skip
  ·rename_i x
   simp only[exec] at hx
   injection hx with hx
   subst hx
   cases Q5<;>simp only[du] at c4<;>first|cases c4|skip
   ·exact Wz r (.inl rfl) hN c4
   ·exact Wz r (.inr rfl) hN c4
  ·rename_i off x
   cases Q5<;>simp only[du] at c4<;>first|cases c4|skip
   simp only[Bool.and_eq_true] at c4
   simp only[exec] at hx
   split at hx
   ·rename_i n k sz q e
    split at hx
    ·rename_i hs
     injection hx with hx
     subst hx
     exact MQ r rfl hN c4.1 c4.2 (.inl ⟨n,k,sz,q,e,hs,rfl⟩)
    ·cases hx
   ·rename_i xs q e
    injection hx with hx
    subst hx
    exact MQ r rfl hN c4.1 c4.2 (.inr (.inl ⟨xs,q,e,rfl⟩))
   ·rename_i xs q j n s len e
    injection hx with hx
    subst hx
    exact MQ r rfl hN c4.1 c4.2 (.inr (.inr ⟨xs,q,j,n,s,len,e,rfl⟩))
   ·cases hx
  ·rename_i sz x i
   cases Q5<;>simp only[du] at c4<;>first|cases c4|skip
   simp only[Bool.and_eq_true] at c4
   obtain⟨⟨Mc,Md⟩,c43⟩:=c4
   obtain⟨e,ti,z,k1,k2,k3,k4,k5,_⟩:=qn c43
   simp only[exec] at hx
   split at hx
   ·rename_i n s lo len q e1 e2
    split at hx
    ·rename_i bR
     obtain⟨rfl,q0,q1,hs⟩:=bR
     injection hx with hx
     subst hx
     exact Ww r rfl hN Mc Md k1 k2 k4 e2 q0 (.inl ⟨n,lo,len,e1,q1,hs,rfl⟩)
    ·cases hx
   ·rename_i s xs q e1 e2
    split at hx
    ·rename_i bR
     obtain⟨rfl,q0⟩:=bR
     split at hx
     ·rename_i el jI
      injection hx with hx
      subst hx
      exact Ww r rfl hN Mc Md k1 k2 k4 e2 q0 (.inr ⟨xs,el,e1,jI,rfl⟩)
     ·cases hx
    ·cases hx
   ·rename_i n kk au off s len q e1 e2
    split at hx
    ·rename_i s' ys EN
     split at hx
     ·rename_i bR
      obtain⟨rfl,q0,q1⟩:=bR
      injection hx with hx
      subst hx
      exact adN r rfl hN Mc Md k1 k2 k4 e2 q0 q1 e1 EN
     ·cases hx
    ·cases hx
   ·cases hx
theorem adS (r:R B E w0 N σ a w G) {n k rs off sz s:Nat} {xs zs:List (List C)} {t:TypeId} {i:TypeInfo} {x:Operand} {mx:MO} (ho:o.op=.store t x (.tmp s)) (hd:o.dst=none) (eR:bd x mx=true)
  (hi:P.info? t=some i) (bn:i.size=1) (hp:σ.ev mx=.one (.ptr n k rs off)) (hn:σ.h n=some (.row true .live rs xs)) (mq:off+1=rs) (np:n<aJ) (hk:∃e,xs[k]? =some e)
  (EF:AX B E w G σ.h n k off sz zs (a.tmps.getD s undef)):
  o.wp P a w (Nx B E w0 N ((σ.cut n).cW n (.row true .live rs (xs.set k ((xs.getD k []).set off (.list sz zs)))))) Q:=by
 obtain⟨x1,_⟩:=r.ev eR
 rw[hp] at x1
 have bi:σ.h n≠none:=by rw[hn];simp
 obtain⟨p1,p2⟩:=(x1.dB (by simp)).1 bi
 have hr:=r.hr.row n true .live rs xs hn
 obtain⟨⟨cur,et,q2⟩,l2,l3⟩:=hr.cZ p1
 obtain⟨q,qv,qe,hq⟩:=EF
 obtain⟨el,jI⟩:=hk
 have gN:∃pe,(G.g n).px[k]? =some pe/\pe.map PC.er=el:=by
  have bx:=jI
  rw[hr.er,List.getElem?_map] at bx
  cases hq:(G.g n).px[k]? with
  |none=>rw[hq] at bx;cases bx
  |some pe=>rw[hq] at bx;simp at bx;exact⟨pe,rfl,bx⟩
 obtain⟨pe,qM,tw⟩:=gN
 have vl:pe.length=rs:=l2.1 pe (List.mem_of_getElem? qM)
 have lz:=PC.hY q
 rw[qv] at lz
 have nf:(a.eval (.tmp s)).cells.toList=[q.val]:=by
  have he:a.eval (.tmp s)=a.tmps.getD s undef:=rfl
  rw[he,qv]
  revert lz
  cases a.tmps.getD s undef<;>intro lz<;>first|rfl|(simp[Value.oneCell'] at lz)
 have ik:(a.eval (.tmp s)).cells.size=1:=by rw[<-Array.length_toList,nf];rfl
 have zo:(G.g n).o+k*rs+off+(a.eval (.tmp s)).cells.size<=cur.size:=by
  have hc:=l2.2.1 k off (pe[off]'(by omega)) ⟨pe,qM,List.getElem?_eq_getElem _⟩
  have:=yS q2 hc
  omega
 have rc:=r.cut n
 have od:(σ.cut n).h n=some (.row true .live rs xs):=by show(σ.h n).map _=_;rw[hn];rfl
 have mw:GR B E w G (σ.cut n).h n k off q:=⟨hq.dk,hq.sep,hq.nr,hq.own,fun b hb m h0=>hq.name b hb m (uK h0),fun b hb m gr mo sz xs bj h0=>hq.row b hb m gr mo sz xs bj (wT h0),hq.rest⟩
 have r':=rc.nest od np (fun s=>ah.Bq n (σ.env s)) (fun m cs c hm hc=>by
  obtain⟨eO,_,rfl⟩:=MD (h:=σ.h) hm
  obtain⟨c0,_,rfl⟩:=List.mem_map.1 hc
  exact ab.Bq n c0) qM mq q2 mw
 have aS:=FF (P:=P) (w:=w) (t:=t) (i:=i) (b:=(G.g n).b) (off:=(G.g n).o+k*rs+off) (v:=a.eval (.tmp s)) (cur:=cur) (e:=et) hi (by rw[bn,ik]) q2 zo (fun u hu=>by
  rw[nf] at hu
  simp at hu
  subst hu
  exact PC.hY q)
 rw[nf] at aS
 have gK:xs.getD k []=pe.map PC.er:=by rw[List.getD_eq_getElem?_getD,jI,tw];rfl
 rw[gK,<-qe]
 refine Gu (w':=dY w (G.g n).b ((G.g n).o+k*rs+off) [q.val] cur) ?_ (by rw[hd];exact⟨_,r'⟩)
 simp only[execOp,ho,p2]
 simp[Instr.storeAt,Instr.sureAddr,aS]
structure Dw (sp:oT) (σ σ2:St) (n k rs off:Nat) (xs ls ys:List (List C)):Prop where
 hx:σ.ev sp.mx=.one (.ptr n k rs off)
 hl:∃s0 tS,σ.ev sp.ml=.one (.bf n k rs off s0 tS)
 mq:off+1=rs
 np:n<aJ
 hn:σ.h n=some (.row true .live rs xs)
 nh:(xs[k]?).bind (·[off]?)=some (.list sp.sz ls)
 hy:∃yc,σ.ev sp.my=.one yc/\bQ σ.h yc=some (.list sp.sz ys)
 sl:dd ls=true
 sy:dd ys=true
 fit:(ls.length+ys.length)*sp.by_<=e8
 out:σ2=(σ.cut n).cW n (.row true .live rs (xs.set k ((xs.getD k []).set off (.list sp.sz (ls++ys)))))
theorem Zr {σ2:St} (h:xL sp σ=some σ2):∃n k rs off xs ls ys,Dw sp σ σ2 n k rs off xs ls ys:=by
 unfold xL at h
 split at h
 ·rename_i n k rs off n' k' kJ jR s0 tS yc e1 e2 e3
  split at h
  ·rename_i hc
   obtain⟨rfl,rfl,rfl,rfl,ho,hp⟩:=hc
   split at h
   ·rename_i FE xs hn
    split at h
    ·rename_i lA
     subst lA
     split at h
     ·rename_i s ls s' ys nh lC
      split at h
      ·rename_i bR
       obtain⟨rfl,rfl,k1,k2,k3⟩:=bR
       injection h with h
       exact⟨_,_,_,_,xs,ls,ys,e1,⟨_,_,e2⟩,ho,hp,hn,nh,⟨yc,e3,lC⟩,k1,k2,k3,h.symm⟩
      ·cases h
     ·cases h
    ·cases h
   ·cases h
  ·cases h
 ·cases h
theorem Vk (hc:uG P N sp o m=true):cQ T m σ=some (σ.put (some sp.d) (.one .aX)):=by
 simp only[uG,Bool.and_eq_true,decide_eq_true_eq] at hc
 have jK:m.guard=none:=by cases hg:m.guard with|none=>rfl|some g=>rw[hg] at hc;simp at hc
 have jL:=MO.zP hc.1.1.1.2
 have hd:=hc.1.1.1.1.1.1.1.1
 obtain⟨dst,op,guard⟩:=m
 simp only at jK jL hd
 subst jK jL hd
 rfl
theorem abc (hc:uI P sp o m=true):cQ T m σ=some σ:=by
 simp only[uI,Bool.and_eq_true,decide_eq_true_eq] at hc
 have jK:m.guard=none:=by cases hg:m.guard with|none=>rfl|some g=>rw[hg] at hc;simp at hc
 have jL:=MO.zP hc.1.2
 have hd:=hc.1.1.1.1.1
 obtain⟨dst,op,guard⟩:=m
 simp only at jK jL hd
 subst jK jL hd
 rfl
theorem abg (r:R B E w0 N σ a w G) (hc:uG P N sp o m=true) {cT σ2:St} {n k rs off:Nat} {xs ls ys:List (List C)} (F:Dw sp cT σ2 n k rs off xs ls ys) (hh:cT.h=σ.h) (hl:cT.ev sp.ml=σ.ev sp.ml) (hy:cT.ev sp.my=σ.ev sp.my):
  o.guard=none/\o.dst=some sp.d/\sp.d<N/\cQ T m σ=some (σ.put (some sp.d) (.one .aX))/\
  o.wp P a w (fun a' w'=>∃v,a'=a.put (some sp.d) v/\R B E w0 N (σ.put (some sp.d) (.one .aX)) a' w' G/\AX B E w' G σ.h n k off sp.sz (ls++ys) v) Q:=by
 simp only[uG,Bool.and_eq_true,decide_eq_true_eq] at hc
 obtain⟨⟨⟨⟨⟨⟨⟨⟨c1,c2⟩,c3⟩,c4⟩,c5⟩,c6⟩,c7⟩,c8⟩,c9⟩:=hc
 have Oj:o.guard=none:=by cases hg:o.guard with|none=>rfl|some g=>rw[hg] at c5;cases c5
 have jK:m.guard=none:=by cases hg:m.guard with|none=>rfl|some g=>rw[hg] at c4;cases c4
 have jL:=MO.zP c6
 refine⟨Oj,c2,c3,?_,?_⟩
 ·obtain⟨dst,op,guard⟩:=m
  simp only at jK jL c1
  subst jK jL c1
  rfl
 ·split at c9
  ·rename_i c afy
   split at c9
   ·rename_i x y t t' k1 k2 k3
    simp only[Bool.and_eq_true,beq_iff_eq] at c9
    obtain⟨⟨⟨rfl,d2⟩,d3⟩,d4⟩:=c9
    obtain⟨e,i,z,g1,g2,g3,g4,g5,g6⟩:=qn d4
    simp only[Bool.and_eq_true,beq_iff_eq,decide_eq_true_eq] at g6
    obtain⟨⟨g6,g7⟩,g8⟩:=g6
    have ho:o.op=.call {callee:=.builtin .append,args:=#[x,y],argTypes:=#[t,t]}:=by
     rw[afy]
     obtain⟨cc,ca,ct⟩:=c
     simp only at k1 k2 k3
     subst k1
     congr 2
     ·apply Array.ext';simpa using k2
     ·apply Array.ext';simpa using k3
    obtain⟨s0,tS,fa⟩:=F.hl
    obtain⟨yc,Jk,Yg⟩:=F.hy
    rw[hl] at fa
    rw[hy] at Jk
    rw[hh] at Yg
    have hn:=F.hn
    rw[hh] at hn
    refine Oper.wp_mono (fun a' w' ⟨v,e1,e2,e3⟩=>?_) (adi (P:=P) (Q:=Q) r ho d2 d3 g1 g2 g3 g4 g5 g6 g7 g8 hn F.mq fa F.nh F.sl Jk Yg F.sy F.fit)
    rw[c2] at e1
    refine⟨v,e1,?_,e3⟩
    rw[e1]
    exact e2.put (x:=.one .aX) (Or.inl rfl) (fun q hq=>(hq:False).elim) (fun q hq=>by injection hq with hq;omega)
   ·cases c9
  ·cases c9
theorem abh (r:R B E w0 N σ a w G) (hc:uI P sp o m=true) {σ2:St} {n k rs off:Nat} {xs ls ys:List (List C)} (F:Dw sp σ σ2 n k rs off xs ls ys) (hp:AX B E w G σ.h n k off sp.sz (ls++ys) (a.tmps.getD sp.d undef)):
  o.guard=none/\cQ T m σ=some σ/\o.wp P a w (Nx B E w0 N σ2) Q:=by
 simp only[uI,Bool.and_eq_true,decide_eq_true_eq] at hc
 obtain⟨⟨⟨⟨⟨c1,c2⟩,c4⟩,c5⟩,c6⟩,c9⟩:=hc
 have Oj:o.guard=none:=by cases hg:o.guard with|none=>rfl|some g=>rw[hg] at c5;cases c5
 have jK:m.guard=none:=by cases hg:m.guard with|none=>rfl|some g=>rw[hg] at c4;cases c4
 have jL:=MO.zP c6
 refine⟨Oj,?_,?_⟩
 ·obtain⟨dst,op,guard⟩:=m
  simp only at jK jL c1
  subst jK jL c1
  rfl
 ·split at c9
  ·rename_i t x s lB
   simp only[Bool.and_eq_true,beq_iff_eq] at c9
   obtain⟨⟨d1,rfl⟩,d2⟩:=c9
   unfold Ii at d2
   split at d2
   ·rename_i i hi
    simp only[Bool.and_eq_true,beq_iff_eq,decide_eq_true_eq] at d2
    rw[F.out]
    refine adS r lB c2 d1 hi d2.1 F.hx F.hn F.mq F.np ?_ hp
    have:=F.nh
    cases hk:xs[k]? with
    |none=>rw[hk] at this;cases this
    |some e=>exact⟨e,rfl⟩
   ·cases d2
  ·cases c9
theorem abK:∀{l:List bq} {σ cT:St},(∀m∈l,qa sp m=true)->dZ T l σ=some cT->cT.h=σ.h/\cT.ev sp.ml=σ.ev sp.ml/\cT.ev sp.my=σ.ev sp.my
 |[],σ,cT,hv,hx=>by simp only[dZ] at hx;injection hx with hx;subst hx;exact⟨rfl,rfl,rfl⟩
 |m::l,σ,cT,hv,hx=>by
  simp only[dZ] at hx
  split at hx
  ·rename_i σ1 e1
   obtain⟨a1,a2,a3⟩:=K4 (hv m (by simp)) e1
   obtain⟨b1,b2,b3⟩:=abK (fun m hm=>hv m (by simp[hm])) hx
   exact⟨b1.trans a1,b2.trans a2,b3.trans a3⟩
  ·cases hx
theorem J6 {d:Nat} {dst:Option Nat} {v:Value} (hd:dst≠some d):(a.put dst v).tmps.getD d undef=a.tmps.getD d undef:=by
 cases dst with
 |none=>rfl
 |some s=>
  have hs:s≠d:=fun e=>hd (by rw[e])
  simp only[Act.put]
  simp[Array.getD_eq_getD_getElem?,Array.getElem?_setIfInBounds_ne hs]
theorem ZU {d:Nat} {v:Value} (hd:d<a.tmps.size):(a.put (some d) v).tmps.getD d undef=v:=by
 simp only[Act.put]
 simp[Array.getD_eq_getD_getElem?,hd]
theorem abL (hv:qa sp m=true):m.dst≠some sp.d:=by
 intro h
 simp only[qa,Bool.and_eq_true] at hv
 rw[h] at hv
 simp at hv
theorem VI (hc:m5 P N ops o m=true):o.dst=m.dst:=by
 simp only[m5,Bool.and_eq_true,decide_eq_true_eq] at hc
 exact hc.1.1.1
theorem abU {so:Oper} {sm:bq}:∀{l:List Oper} {ms:List bq} {σ cT σ2:St} {a:Act} {w:World} {G:Gh} {n k rs off:Nat} {xs ls ys:List (List C)},(∀m∈ms,qa sp m=true)->iB P N ops l ms=true->uI P sp so sm=true->
  dZ T ms σ=some cT->Dw sp cT σ2 n k rs off xs ls ys->R B E w0 N σ a w G->AX B E w G σ.h n k off sp.sz (ls++ys) (a.tmps.getD sp.d undef)->(∀a w G,R B E w0 N σ2 a w G->Q .normal a w)->wpList P ops Q (l++[so]) a w
 |[],[],σ,cT,σ2,a,w,G,n,k,rs,off,xs,ls,ys,hv,hc,hs,hx,F,r,hp,hQ=>by
  simp only[dZ] at hx
  injection hx with hx
  subst hx
  obtain⟨g1,_,g2⟩:=abh (T:=T) (Q:=Q) r hs F hp
  simp only[List.nil_append]
  unfold wpList
  rw[if_pos (by simp[Region.wanted,g1])]
  exact .inl (Oper.wp_mono (fun a' w' ⟨G',r'⟩=>hQ a' w' G' r') g2)
 |o::l,m::ms,σ,cT,σ2,a,w,G,n,k,rs,off,xs,ls,ys,hv,hc,hs,hx,F,r,hp,hQ=>by
  simp only[iB,Bool.and_eq_true] at hc
  simp only[dZ] at hx
  split at hx
  ·rename_i σ1 e1
   have OW:=hv m (by simp)
   obtain⟨g1,g2⟩:=WC (Q:=Q) r OW hc.1 e1
   simp only[List.cons_append]
   unfold wpList
   rw[if_pos (by simp[Region.wanted,g1])]
   refine .inl (Oper.wp_mono (fun a' w' ⟨e2,⟨v,e3⟩,r'⟩=>?_) g2)
   subst e2 e3
   refine abU (fun m hm=>hv m (by simp[hm])) hc.2 hs hx F r' ?_ hQ
   rw[(K4 OW e1).1,J6 (by rw[VI hc.1];exact abL OW)]
   exact hp
  ·cases hx
 |[],_::_,_,_,_,_,_,_,_,_,_,_,_,_,_,_,hc,_,_,_,_,_,_=>by simp[iB] at hc
 |_::_,[],_,_,_,_,_,_,_,_,_,_,_,_,_,_,hc,_,_,_,_,_,_=>by simp[iB] at hc
theorem MY:∀(l l':List bq) (σ:St),dZ T (l++l') σ=(dZ T l σ).bind (dZ T l')
 |[],l',σ=>rfl
 |m::l,l',σ=>by
  simp only[List.cons_append,dZ]
  cases cQ T m σ with
  |none=>rfl
  |some σ1=>exact MY l l' σ1
theorem amX {l1 l2:List Oper} {m1:List bq} {σ1:St} (hT:jn P T) (hc:iB P N ops l1 m1=true) (hx:dZ T m1 σ=some σ1) (r:R B E w0 N σ a w G)
  (hQ:∀a w G,R B E w0 N σ1 a w G->wpList P ops Q l2 a w):wpList P ops Q (l1++l2) a w:=by
 induction l1 generalizing m1 σ a w G with
 |nil=>
  cases m1 with
  |nil=>simp only[dZ] at hx;injection hx with hx;subst hx;exact hQ _ _ _ r
  |cons m m1=>simp[iB] at hc
 |cons o l1 ih=>
  cases m1 with
  |nil=>simp[iB] at hc
  |cons m m1=>
   simp only[iB,Bool.and_eq_true] at hc
   simp only[dZ] at hx
   split at hx
   ·rename_i σ2 e1
    simp only[List.cons_append]
    unfold wpList
    rcases y9 (Q:=Q) r hT hc.1 e1 with⟨hw,h⟩|⟨hw,G',h⟩
    ·rw[if_pos hw]
     exact .inl (Oper.wp_mono (fun a' w' ⟨G',r'⟩=>ih hc.2 hx r') h)
    ·rw[if_neg (by simp[hw])]
     exact ih hc.2 hx h
   ·cases hx
def Mk (P:Program) (N:Nat) (ops:Array Oper) (ms:List bq) (sp:oT):Bool:=
 iB P N ops (ops.toList.take sp.ia) (ms.take sp.ia)&&
 (match ops.toList.drop sp.ia,ms.drop sp.ia with
  |oa::l,ma::m=>uG P N sp oa ma&&iB P N ops l.dropLast m.dropLast&&m.dropLast.all (qa sp)&&(match l.getLast?,m.getLast? with
   |some so,some sm=>uI P sp so sm
   |_,_=>false)
  |_,_=>false)
theorem YQ {α:Type} {l:List α} {x:α} (h:l.getLast?=some x):l=l.dropLast++[x]:=by
 rw[List.getLast?_eq_some_iff] at h
 obtain⟨ys,rfl⟩:=h
 simp
theorem ak4 (hT:jn P T) {id:Nat} {ms:List bq} {σ1 σ2:St} (hc:Mk P N ops ms sp=true) (hx:dZ T ms σ=some σ1) (hf:xL sp σ1=some σ2) (r:R B E w0 N σ a w G)
  (hQ:∀a w G,R B E w0 N σ2 a w G->Q .normal a w):(Code.region id ops false).wp P Q a w:=by
 refine wp_region_list ?_
 simp only[Mk,Bool.and_eq_true] at hc
 obtain⟨lp,lr⟩:=hc
 split at lr
 ·rename_i oa l ma m e1 e2
  simp only[Bool.and_eq_true,List.all_eq_true] at lr
  obtain⟨⟨⟨d1,d2⟩,d3⟩,d4⟩:=lr
  split at d4
  ·rename_i so sm f1 f2
   have hl:ops.toList=ops.toList.take sp.ia++(oa::(l.dropLast++[so])):=by
    rw[<-YQ f1,<-e1,List.take_append_drop]
   have hm:ms=ms.take sp.ia++(ma::(m.dropLast++[sm])):=by
    rw[<-YQ f2,<-e2,List.take_append_drop]
   rw[hl]
   rw[hm,MY] at hx
   cases jr:dZ T (ms.take sp.ia) σ with
   |none=>rw[jr] at hx;cases hx
   |some τ=>
    rw[jr] at hx
    have hx:dZ T (ma::(m.dropLast++[sm])) τ=some σ1:=hx
    refine amX hT lp jr r fun a w G r1=>?_
    obtain⟨n,k,rs,off,xs,ls,ys,F⟩:=Zr hf
    simp only[dZ] at hx
    have hma:cQ T ma τ=some (τ.put (some sp.d) (.one .aX)):=Vk d1
    rw[hma] at hx
    simp only at hx
    rw[MY] at hx
    cases dh:dZ T m.dropLast (τ.put (some sp.d) (.one .aX)) with
    |none=>rw[dh] at hx;cases hx
    |some iW=>
     rw[dh] at hx
     have hx:dZ T [sm] iW=some σ1:=hx
     have hsm:cQ T sm iW=some iW:=abc d4
     simp only[dZ,hsm] at hx
     injection hx with hx
     subst hx
     obtain⟨k1,k2,k3⟩:=abK (sp:=sp) d3 dh
     have av:sp.ml≠ .t sp.d/\sp.my≠ .t sp.d:=by
      have c:=d1
      simp only[uG,Bool.and_eq_true,decide_eq_true_eq,Bool.not_eq_true'] at c
      exact⟨MO.Ck c.1.1.2,MO.Ck c.1.2⟩
     have hh:iW.h=τ.h:=k1
     have dg:iW.ev sp.ml=τ.ev sp.ml:=k2.trans (Bz av.1)
     have hy':iW.ev sp.my=τ.ev sp.my:=k3.trans (Bz av.2)
     obtain⟨g1,g2,g3,_,g5⟩:=abg (T:=T) (Q:=Q) r1 d1 F hh dg hy'
     unfold wpList
     rw[if_pos (by simp[Region.wanted,g1])]
     refine .inl (Oper.wp_mono (fun a' w' ⟨v,q1,q2,q3⟩=>?_) g5)
     refine abU d3 d2 d4 dh F q2 ?_ hQ
     rw[q1,ZU (by rw[r1.size];exact g3)]
     exact q3
  ·cases d4
 ·cases lr
structure Lf (F:Nat->Option FP) (ops:Array Oper) (ms:List bq) (sp:oT):Prop where
 base:Le F ops ms
 Vi:∀(i:Nat) (m:bq),ms[i]? =some m->i≠sp.ia->i+1≠ops.size->oR ops sp.ia i\/qa sp m=true
 st:∀i,i+1<ops.size->oR ops (ops.size - 1) i
 lt:sp.ia+1<ops.size
def Gv (P:Program) (N:Nat) (ops:Array Oper) (ms:List bq) (sp:oT):Prop:=
 ∀(i:Nat) (m:bq),ms[i]? =some m->∃o,ops[i]? =some o/\wP P N ops sp ops.size i o m=true
theorem acB (hT:jn P T) {ms:List bq} (fH:Gv P N ops ms sp) {i:Nat} {mi:bq} (hi:ms[i]? =some mi) {τ:St} (r:yL B E w0 N σ) (hx:cQ T mi σ=some τ):yL B E w0 N τ:=by
 obtain⟨o,ho,hc⟩:=fH i mi hi
 unfold wP at hc
 split at hc
 ·simp only[uG,Bool.and_eq_true,decide_eq_true_eq] at hc
  have jK:mi.guard=none:=by cases hg:mi.guard with|none=>rfl|some g=>rw[hg] at hc;simp at hc
  have jL:=MO.zP hc.1.1.1.2
  have hd:=hc.1.1.1.1.1.1.1.1
  have hdN:=hc.1.1.1.1.1.1.2
  obtain⟨dst,op,guard⟩:=mi
  simp only at jK jL hd
  subst jK jL hd
  have hx:some (σ.put (some sp.d) (.one .aX))=some τ:=hx
  injection hx with hx
  subst hx
  obtain⟨a,w,G,r⟩:=r
  exact⟨_,w,G,r.put (x:=.one .aX) (v:=undef) (d:=some sp.d) (Or.inl rfl) (fun q hq=>(hq:False).elim) (fun q hq=>by injection hq with hq;omega)⟩
 ·split at hc
  ·simp only[uI,Bool.and_eq_true,decide_eq_true_eq] at hc
   have jK:mi.guard=none:=by cases hg:mi.guard with|none=>rfl|some g=>rw[hg] at hc;simp at hc
   have jL:=MO.zP hc.1.2
   have hd:=hc.1.1.1.1.1
   obtain⟨dst,op,guard⟩:=mi
   simp only at jK jL hd
   subst jK jL hd
   have hx:some σ=some τ:=hx
   injection hx with hx
   subst hx
   exact r
  ·exact Rn r hT hc hx
theorem aac (hT:jn P T) {ms:List bq} {F:Nat->Option FP} (fH:Gv P N ops ms sp) {i:Nat} {mi:bq} (hi:ms[i]? =some mi) {post:List Nat} {cT:St}:
  ∀{pre:List Nat} {σ:St},yL B E w0 N σ->uv T ms F (pre++i::post) σ cT->(∀j∈pre,LR F ms i j mi)->
  ∃τ,F i=mi.fp σ/\cQ T mi σ=some τ/\uv T ms F (pre++post) τ cT
 |[],σ,hr,hx,hc=>by
  obtain⟨m,σ1,h1,h2,h3,h4⟩:=hx
  rw[hi] at h1
  injection h1 with h1
  subst h1
  exact⟨σ1,h2,h3,h4⟩
 |j::pre,σ,hr,hx,hc=>by
  obtain⟨mj,σ1,k1,k2,k3,k4⟩:=hx
  obtain⟨mj',hj,ij,bA⟩:=hc j (by simp)
  rw[k1] at hj
  injection hj with hj
  subst hj
  obtain⟨mU,t0,t1,t2⟩:=aac hT fH hi (acB hT fH k1 hr k3) k4 (fun k hk=>hc k (by simp[hk]))
  obtain⟨a,w,G,r⟩:=hr
  rw[k2,t0] at bA
  obtain⟨τ,s1,s2,s3,s4⟩:=VU r.wf ij bA k3 t1
  exact⟨τ,by rw[t0,s3],s1,mj,mU,k1,by rw[s4];exact k2,s2,t2⟩
theorem aad {ms:List bq} {F:Nat->Option FP} (fH:Gv P N ops ms sp) (hd:Lf F ops ms sp):∀{L:List Nat} {σ cT:St},uv T ms F L σ cT->(∀j∈L,j≠sp.ia/\¬oR ops sp.ia j)->
  cT.h=σ.h/\cT.ev sp.ml=σ.ev sp.ml/\cT.ev sp.my=σ.ev sp.my
 |[],σ,cT,hx,_=>by have hx:σ=cT:=hx;subst hx;exact⟨rfl,rfl,rfl⟩
 |i::L,σ,cT,hx,hL=>by
  obtain⟨m,σ1,h1,_,h3,h4⟩:=hx
  obtain⟨b1,b2,b3⟩:=aad fH hd h4 (fun j hj=>hL j (by simp[hj]))
  have bW:σ1.h=σ.h/\σ1.ev sp.ml=σ.ev sp.ml/\σ1.ev sp.my=σ.ev sp.my:=by
   obtain⟨n1,n2⟩:=hL i (by simp)
   by_cases qH:i+1=ops.size
   ·obtain⟨o,ho,hc⟩:=fH i m h1
    unfold wP at hc
    rw[if_neg n1,if_pos qH] at hc
    simp only[uI,Bool.and_eq_true,decide_eq_true_eq] at hc
    have jK:m.guard=none:=by cases hg:m.guard with|none=>rfl|some g=>rw[hg] at hc;simp at hc
    have jL:=MO.zP hc.1.2
    have u6:=hc.1.1.1.1.1
    obtain⟨dst,op,guard⟩:=m
    simp only at jK jL u6
    subst jK jL u6
    have h3:some σ=some σ1:=h3
    injection h3 with h3
    subst h3
    exact⟨rfl,rfl,rfl⟩
   ·exact K4 ((hd.Vi i m h1 n1 qH).resolve_left n2) h3
  exact⟨b1.trans bW.1,b2.trans bW.2.1,b3.trans bW.2.2⟩
theorem wpAny_done {eW:Nat} {bM:Array Bool} (hr:Region.ready .any ops bM=[]) (hQ:Q .normal a w):wpAny P .any ops Q eW bM a w:=by
 cases eW with
 |zero=>exact⟨hr,hQ⟩
 |succ eW=>exact⟨fun _=>hQ,fun i hi=>by rw[hr] at hi;cases hi⟩
theorem amW (hT:jn P T) {ms:List bq} {F:Nat->Option FP} (fH:Gv P N ops ms sp) (hlen:ms.length=ops.size) (hd:Lf F ops ms sp) {cT σ2:St} {n k rs off:Nat} {xs ls ys:List (List C)} (FN:Dw sp cT σ2 n k rs off xs ls ys)
  (hQ:∀a w G,R B E w0 N σ2 a w G->Q .normal a w):
  ∀(eW:Nat) (L:List Nat) (bM:Array Bool) (σ:St) (a:Act) (w:World) (G:Gh),R B E w0 N σ a w G->uv T ms F L σ cT->L.Pairwise (·<·)->L.length<=eW->bM.size=ops.size->
   (∀j,j∈L↔bM.getD j true=false)->Dt ops bM->ops.size - 1∈L->(sp.ia∉L->AX B E w G σ.h n k off sp.sz (ls++ys) (a.tmps.getD sp.d undef))->wpAny P .any ops Q eW bM a w:=by
 intro eW
 induction eW with
 |zero=>
  intro L bM σ a w G r hx hp hl hs hL hC qH EF
  have pk:L=[]:=List.eq_nil_of_length_eq_zero (by omega)
  subst pk
  cases qH
 |succ eW ih=>
  intro L bM σ a w G r hx hp hl hs hL hC qH EF
  have first:Region.ready .any ops bM≠[]:=by
   intro hr
   cases L with
   |nil=>cases qH
   |cons j L=>
    have hj:=(hL j).1 (by simp)
    have iE:j<ops.size:=by
     rw[<-hs]
     rcases Nat.lt_or_ge j bM.size with h|h
     ·exact h
     ·simp[Array.getElem?_eq_none h] at hj
    have ho:ops[j]? =some ops[j]:=Array.getElem?_eq_getElem iE
    have:j∈Region.ready .any ops bM:=by
     rw[mem_ready]
     refine⟨hj,_,ho,fun e he hb=>?_⟩
     have bS:=hd.base.back j _ ho e he hb
     have ly:e.on∉j::L:=by
      intro hm
      cases hm with
      |head=>omega
      |tail _ hm=>have:=(List.pairwise_cons.1 hp).1 _ hm;omega
     have av:bM.getD e.on true≠false:=fun h=>ly ((hL e.on).2 h)
     have lx:e.on<bM.size:=by omega
     simp[lx] at av⊢
     exact av
    rw[hr] at this
    cases this
  refine⟨fun hr=>absurd hr first,fun i hi=>?_⟩
  obtain⟨zv,oi,gx,zk⟩:=mem_ready.1 hi
  have n9:i∈L:=(hL i).2 zv
  obtain⟨pre,post,rfl⟩:=List.append_of_mem n9
  have BW:i<ops.size:=(Array.getElem?_eq_some_iff.1 gx).1
  have qK:ms[i]? =some ms[i]:=List.getElem?_eq_getElem (by omega)
  obtain⟨o',ek,gU⟩:=fH i _ qK
  rw[gx] at ek
  injection ek with ek
  subst ek
  have eS:=List.pairwise_append.1 hp
  have Ji:∀o,ops[i]? =some o->∀e∈o.after,Region.binds .any e=true->bM.getD e.on true=true:=by
   intro o ho e he hb
   rw[gx] at ho
   injection ho with ho
   subst ho
   have h1:=zk e he hb
   have bS:=hd.base.back i _ gx e he hb
   have lx:e.on<bM.size:=by omega
   simp[lx] at h1⊢
   exact h1
  obtain⟨τ,t0,t1,t2⟩:=aac (ops:=ops) hT fH qK ⟨a,w,G,r⟩ hx (fun j hj=>by
   have jp:j<i:=eS.2.2 j hj i (by simp)
   rcases hd.base.pair i j oi _ gx qK jp with Ei|h
   ·have h1:=A8 hC Ei Ji
    have h2:=(hL j).1 (by simp[hj])
    rw[h1] at h2
    cases h2
   ·exact h)
  have ED:(pre++post).Pairwise (·<·):=by
   rw[List.pairwise_append]
   exact⟨eS.1,(List.pairwise_cons.1 eS.2.1).2,fun x hx y hy=>eS.2.2 x hx y (by simp[hy])⟩
  have OC:i∉pre++post:=by
   simp only[List.mem_append]
   rintro(h|h)
   ·have:=eS.2.2 i h i (by simp);omega
   ·have:=(List.pairwise_cons.1 eS.2.1).1 i h;omega
  have Eu:∀j,j∈pre++post↔(bM.setIfInBounds i true).getD j true=false:=by
   intro j
   by_cases jp:j=i
   ·subst jp
    have iE:j<bM.size:=by omega
    constructor
    ·intro h;exact absurd h OC
    ·intro h
     simp[iE] at h
   ·rw[getD_set_ne true (Ne.symm jp),<-hL j]
    simp[jp]
  have xf:∀q,bM.getD q true=true->(bM.setIfInBounds i true).getD q true=true:=by
   intro q hq
   by_cases mz:q=i
   ·subst mz
    have:q<bM.size:=by omega
    simp[this]
   ·rw[getD_set_ne true (Ne.symm mz)];exact hq
  have Oe:Dt ops (bM.setIfInBounds i true):=by
   intro k' o ho hk e he hb
   by_cases xc:k'=i
   ·subst xc
    exact xf _ (Ji o ho e he hb)
   ·rw[getD_set_ne true (Ne.symm xc)] at hk
    exact xf _ (hC k' o ho hk e he hb)
  unfold wpOp
  rw[gx]
  simp only
  by_cases w9:i=sp.ia
  ·
   have I7:ops.size - 1∈pre++post:=by
    have:ops.size - 1≠i:=by have:=hd.lt;omega
    simp only[List.mem_append,List.mem_cons] at qH⊢
    rcases qH with h|h|h
    ·exact .inl h
    ·exact absurd h this
    ·exact .inr h
   unfold wP at gU
   rw[if_pos w9] at gU
   have xg:∀j∈pre++post,j≠sp.ia/\¬oR ops sp.ia j:=by
    intro j hj
    refine⟨fun e=>OC (by rw[w9,<-e];exact hj),fun hb=>?_⟩
    rw[<-w9] at hb
    have h1:=A8 hC hb Ji
    have h2:=(hL j).1 (by
     simp only[List.mem_append,List.mem_cons] at hj⊢
     exact hj.elim .inl (fun h=>.inr (.inr h)))
    rw[h1] at h2
    cases h2
   obtain⟨k1,k2,k3⟩:=aad fH hd t2 xg
   have O3:τ=σ.put (some sp.d) (.one .aX):=by
    rw[Vk (T:=T) (σ:=σ) gU] at t1
    injection t1 with t1
    exact t1.symm
   subst O3
   have av:sp.ml≠ .t sp.d/\sp.my≠ .t sp.d:=by
    have c:=gU
    simp only[uG,Bool.and_eq_true,decide_eq_true_eq,Bool.not_eq_true'] at c
    exact⟨MO.Ck c.1.1.2,MO.Ck c.1.2⟩
   obtain⟨g1,g2,g3,_,g5⟩:=abg (T:=T) (Q:=Q) r gU FN k1 (k2.trans (Bz av.1)) (k3.trans (Bz av.2))
   rw[if_pos (by simp[Region.wanted,g1])]
   refine .inl (Oper.wp_mono (fun a' w' ⟨v,q1,q2,q3⟩=>?_) g5)
   refine ih (pre++post) _ _ a' w' G q2 t2 ED (by simp at hl⊢;omega) (by simpa using hs) Eu Oe I7 (fun _=>?_)
   rw[q1,ZU (by rw[r.size];exact g3)]
   exact q3
  ·by_cases Ev:i+1=ops.size
   ·
    have On:∀j∈pre++post,False:=by
     intro j hj
     have hjL:j∈pre++i::post:=by
      simp only[List.mem_append,List.mem_cons] at hj⊢
      exact hj.elim .inl (fun h=>.inr (.inr h))
     have h2:=(hL j).1 hjL
     have iE:j<ops.size:=by
      rw[<-hs]
      rcases Nat.lt_or_ge j bM.size with h|h
      ·exact h
      ·simp[Array.getElem?_eq_none h] at h2
     have jp:j≠i:=fun e=>OC (e▸hj)
     have hb:=hd.st j (by omega)
     have h1:=A8 hC (i:=i) (by rw[show ops.size - 1=i by omega] at hb;exact hb) Ji
     rw[h1] at h2
     cases h2
    have OD:pre++post=[]:=List.eq_nil_iff_forall_not_mem.2 On
    rw[OD] at t2 Eu
    have t2:τ=cT:=t2
    subst t2
    unfold wP at gU
    rw[if_neg w9,if_pos Ev] at gU
    have O3:τ=σ:=by
     rw[abc (T:=T) (σ:=σ) gU] at t1
     injection t1 with t1
     exact t1.symm
    subst O3
    have afN:sp.ia∉pre++i::post:=by
     intro h
     simp only[List.mem_append,List.mem_cons] at h
     rcases h with h|h|h
     ·exact On sp.ia (List.mem_append_left _ h)
     ·exact w9 h.symm
     ·exact On sp.ia (List.mem_append_right _ h)
    obtain⟨g1,_,g2⟩:=abh (T:=T) (Q:=Q) r gU FN (EF afN)
    rw[if_pos (by simp[Region.wanted,g1])]
    refine .inl (Oper.wp_mono (fun a' w' ⟨G',r'⟩=>wpAny_done ?_ (hQ a' w' G' r')) g2)
    cases hrd:Region.ready .any ops (bM.setIfInBounds i true) with
    |nil=>rfl
    |cons q l=>
     have hm:q∈Region.ready .any ops (bM.setIfInBounds i true):=by rw[hrd];simp
     have:=(Eu q).2 (mem_ready.1 hm).1
     cases this
   ·
    have I7:ops.size - 1∈pre++post:=by
     simp only[List.mem_append,List.mem_cons] at qH⊢
     rcases qH with h|h|h
     ·exact .inl h
     ·omega
     ·exact .inr h
    unfold wP at gU
    rw[if_neg w9,if_neg Ev] at gU
    by_cases dw:sp.ia∈pre++i::post
    ·have afP:sp.ia∈pre++post:=by
      simp only[List.mem_append,List.mem_cons] at dw⊢
      rcases dw with h|h|h
      ·exact .inl h
      ·exact absurd h.symm w9
      ·exact .inr h
     have xj:∀a' w',Nx B E w0 N τ a' w'->wpAny P .any ops Q eW (bM.setIfInBounds i true) a' w':=by
      rintro a' w' ⟨G',r'⟩
      exact ih (pre++post) _ τ a' w' G' r' t2 ED (by simp at hl⊢;omega) (by simpa using hs) Eu Oe I7 (fun h=>absurd afP h)
     rcases y9 (Q:=Q) r hT gU t1 with⟨hw,h⟩|⟨hw,h⟩
     ·rw[if_pos hw]
      exact .inl (Oper.wp_mono xj h)
     ·rw[if_neg (by simp[hw])]
      exact xj _ _ h
    ·have hv:qa sp ms[i]=true:=by
      refine(hd.Vi i _ qK w9 Ev).resolve_left fun hb=>?_
      have afS:bM.getD sp.ia true=true:=by
       cases hq:bM.getD sp.ia true with
       |true=>rfl
       |false=>exact absurd ((hL sp.ia).2 hq) dw
      have h1:=A8 hC hb (fun o ho e he hb=>hC sp.ia o ho afS e he hb)
      rw[h1] at zv
      cases zv
     obtain⟨g1,g2⟩:=WC (Q:=Q) r hv gU t1
     rw[if_pos (by simp[Region.wanted,g1])]
     refine .inl (Oper.wp_mono (fun a' w' ⟨e2,⟨v,e3⟩,r'⟩=>?_) g2)
     subst e2 e3
     refine ih (pre++post) _ τ _ _ G r' t2 ED (by simp at hl⊢;omega) (by simpa using hs) Eu Oe I7 (fun _=>?_)
     rw[(K4 hv t1).1,J6 (by rw[VI gU];exact abL hv)]
     exact EF dw
def Mj (P:Program) (N:Nat) (ops:Array Oper) (ps:List (Nat×Nat)) (ms:List bq) (sp:oT):Bool:=
 (ms.length==ops.size)&&decide (sp.ia+1<ops.size)&&DH ps ops.toList ms&&
 (fun ks:List Nat=>(List.range ops.size).all fun i=>match ops.toList[i]?,ms[i]? with
  |some o,some m=>wP P N ops sp ops.size i o m&&(i==sp.ia||i+1==ops.size||qa sp m||(ks.getD sp.ia 0).testBit i)&&(i+1==ops.size||(ks.getD (ops.size - 1) 0).testBit i)
  |_,_=>false) (tV ops.toList [])
theorem ak3 (hT:jn P T) (hm:P.follows .mixedOrders=true) {id:Nat} {ps:List (Nat×Nat)} {ms:List bq} {fs:List (Option FP)} {σ1 σ2:St} (hc:Mj P N ops ps ms sp=true) (hx:ku T ms [] σ=some (fs,σ1)) (hp:sk ps fs=true)
  (hf:xL sp σ1=some σ2) (r:R B E w0 N σ a w G) (hQ:∀a w G,R B E w0 N σ2 a w G->Q .normal a w):(Code.region id ops true).wp P Q a w:=by
 simp only[Mj,Bool.and_eq_true,beq_iff_eq,decide_eq_true_eq,List.all_eq_true,List.mem_range] at hc
 obtain⟨⟨⟨hlen,bS⟩,hd⟩,fH⟩:=hc
 have gK:∀(i:Nat) (m:bq),ms[i]? =some m->∃o,ops[i]? =some o/\wP P N ops sp ops.size i o m=true/\((i=sp.ia\/i+1=ops.size)\/qa sp m=true\/((tV ops.toList []).getD sp.ia 0).testBit i=true)/\(i+1=ops.size\/((tV ops.toList []).getD (ops.size - 1) 0).testBit i=true):=by
  intro i m hm
  have hi:i<ops.size:=by rw[<-hlen];exact(List.getElem?_eq_some_iff.1 hm).1
  have h:=fH i hi
  have ho:ops.toList[i]? =some ops[i]:=by simp[hi]
  rw[ho,hm] at h
  simp only[Bool.and_eq_true,Bool.or_eq_true,beq_iff_eq] at h
  exact⟨_,Array.getElem?_eq_getElem hi,h.1.1,by
   rcases h.1.2 with(h1|h1)|h1
   ·exact .inl h1
   ·exact .inr (.inl h1)
   ·exact .inr (.inr h1),h.2⟩
 have Xt:∀i j,((tV ops.toList []).getD i 0).testBit j=true->oR ops i j:=JG ops.toList [] [] rfl rfl (by intro i k hb;simp at hb)
 have hD:Lf (fun i=>fs.getD i none) ops ms sp:=by
  refine⟨VH hd hp,fun i m hm h1 h2=>?_,fun i hi=>?_,bS⟩
  ·obtain⟨o,_,_,h3,_⟩:=gK i m hm
   rcases h3 with(h3|h3)|h3|h3
   ·exact absurd h3 h1
   ·exact absurd h3 h2
   ·exact .inr h3
   ·exact .inl (Xt _ _ h3)
  ·have hm:ms[i]? =some (ms[i]'(by omega)):=List.getElem?_eq_getElem _
   obtain⟨o,_,_,_,h4⟩:=gK i _ hm
   exact Xt _ _ (h4.resolve_left (by omega))
 obtain⟨n,k,rs,off,xs,ls,ys,F⟩:=Zr hf
 refine wp_region_any hm (amW (B:=B) (E:=E) (w0:=w0) (N:=N) hT (fun i m h=>by
  obtain⟨o,h1,h2,_⟩:=gK i m h;exact⟨o,h1,h2⟩) hlen hD F hQ ops.size (List.range ops.size) _ σ a _ G (r.drawn _) ?_ ?_ (by simp) (by simp) (fun j=>?_) (fun k o ho hk=>?_) ?_ (fun h=>?_))
 ·have:=(MU (T:=T) (ms:=ms) ms [] σ σ1 fs [] rfl rfl hx).2
  simp only[List.length_nil,hlen,<-List.range_eq_range'] at this
  exact this
 ·exact List.pairwise_lt_range
 ·rw[List.mem_range]
  constructor
  ·intro h;simp[h]
  ·intro h
   rcases Nat.lt_or_ge j ops.size with h'|h'
   ·exact h'
   ·simp[Array.getElem?_eq_none (show(Array.replicate ops.size false).size<=j by simpa using h')] at h
 ·exfalso
  have Ez:k<ops.size:=(Array.getElem?_eq_some_iff.1 ho).1
  simp[Ez] at hk
 ·rw[List.mem_range];omega
 ·exfalso
  apply h
  rw[List.mem_range]
  omega
end
end Go.Am
end
