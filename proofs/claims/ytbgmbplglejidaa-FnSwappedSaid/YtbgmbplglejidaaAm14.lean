/- Am14: append. No condition. -/
import Derived.Test.YtbgmbplglejidaaAm13
set_option linter.unusedVariables false
namespace Go.Am
theorem wu {α:Type} {px py:List (List α)} {k j:Nat} {c:α} (h:At (px++py) k j c):(k<px.length/\At px k j c)\/(px.length<=k/\At py (k - px.length) j c):=by
 obtain⟨e,he,hj⟩:=h
 rcases Nat.lt_or_ge k px.length with hk|hk
 ·rw[List.getElem?_append_left hk] at he;exact .inl ⟨hk,e,he,hj⟩
 ·rw[List.getElem?_append_right hk] at he;exact .inr ⟨hk,e,he,hj⟩
theorem vE {b:Nat} {px py:List (List PC)} (h:aZ b (px++py)):aZ b px\/aZ b py:=by
 obtain⟨k,j,c,hk,hb⟩:=h
 rcases wu hk with⟨_,h1⟩|⟨_,h1⟩
 ·exact .inl ⟨_,_,_,h1,hb⟩
 ·exact .inr ⟨_,_,_,h1,hb⟩
theorem Lf {px py:List (List PC)} (h1:iI px) (h2:iI py) (h3:∀b,aZ b px->¬aZ b py):iI (px++py):=by
 refine⟨fun k j c hk=>?_,fun k j c k' j' c' b hk cI aD hb be=>?_⟩
 ·rcases wu hk with⟨_,h⟩|⟨_,h⟩
  ·exact h1.1 _ _ _ h
  ·exact h2.1 _ _ _ h
 ·rcases wu hk with⟨q,h⟩|⟨q,h⟩<;>rcases wu cI with⟨q',h'⟩|⟨q',h'⟩
  ·exact h1.2 _ _ _ _ _ _ b h h' aD hb be
  ·exact h3 b ⟨_,_,_,h,hb⟩ ⟨_,_,_,h',be⟩
  ·exact h3 b ⟨_,_,_,h',be⟩ ⟨_,_,_,h,hb⟩
  ·refine h2.2 _ _ _ _ _ _ b h h' (fun e=>aD ?_) hb be
   injection e with e1 e2
   rw[show k=k' by omega,e2]
section
variable {B:Nat} {E:Ex} {w0 w w':World} {G G':Gh} {h h':Nat->Option ar} {used used':Nat->Bool} {tk:List PC} {N:Nat}
variable {P:Program} {o:Oper} {a:Act} {σ σ':St} {Q:Exit->Act->World->Prop}
theorem Di {py:List (List PC)} (hs:gv (py.map fun e=>e.map PC.er)=true) (b:Nat):¬aZ b py:=by
 rintro⟨k,j,c,⟨e,he,hj⟩,hb⟩
 have h1:e.map PC.er∈py.map fun e=>e.map PC.er:=List.mem_map_of_mem (f:=fun e=>e.map PC.er) (List.mem_of_getElem? he)
 have h2:=List.all_eq_true.1 hs _ h1
 have h3:=List.all_eq_true.1 h2 c.er (List.mem_map_of_mem (List.mem_of_getElem? hj))
 exact(Sep.lS (pc:=c) h3).2 b hb
structure mg (B:Nat) (E:Ex) (w:World) (G:Gh) (h:Nat->Option ar) (sz:Nat) (m:Mode) (px:List (List PC)):Prop where
 len:∀e∈px,e.length=sz
 eD:∀k j c,At px k j c->Good w c
 mode:D5 B E w G px m
 fV:m≠ .aG->∀n gr m' aJ au,h n=some (.row gr m' aJ au)->m'≠ .aG->∀b,aZ b px->¬aZ b (G.g n).px
 live:m=.live->∀b,aZ b px->∀n,h n≠none->(G.g n).nl=false->b≠(G.g n).b
theorem mg.X0 {m:Mode} {sz:Nat} {px py:List (List PC)} (F:mg B E w G h sz m px) (hl:∀e∈py,e.length=sz) (hg:∀k j c,At py k j c->Good w c) (cm:∀b,¬aZ b py):mg B E w G h sz m (px++py):=by
 have fq:∀b,aZ b (px++py)->aZ b px:=fun b hb=>(vE hb).resolve_right (cm b)
 refine⟨fun e he=>(List.mem_append.1 he).elim (F.len e) (hl e),fun k j c hk=>?_,?_,fun hm n gr m' aJ au hn bO b hb=>F.fV hm n gr m' aJ au hn bO b (fq b hb),fun hm b hb=>F.live hm b (fq b hb)⟩
 ·rcases wu hk with⟨_,h⟩|⟨_,h⟩
  ·exact F.eD _ _ _ h
  ·exact hg _ _ _ h
 ·have kS:iI py:=⟨fun k j c hk=>Sep.FY (fun b hb=>cm b ⟨k,j,c,hk,hb⟩) (hg k j c hk),fun k j c k' j' c' b hk _ _ hb=>absurd ⟨k,j,c,hk,hb⟩ (cm b)⟩
  have hm:=F.mode
  cases m with
  |aG=>exact fun b hb=>hm b (fq b hb)
  |ae=>exact⟨fun b hb=>hm.1 b (fq b hb),Lf hm.2 kS (fun b _=>cm b)⟩
  |live=>exact⟨fun b hb=>hm.1 b (fq b hb),Lf hm.2 kS (fun b _=>cm b)⟩
theorem mg.Ta (H:HR B E w G h used []) {n:Nat} {gr:Bool} {m:Mode} {sz:Nat} {xs:List (List C)} (hn:h n=some (.row gr m sz xs)):mg B E w G (aA h n none) sz m (G.g n).px:=by
 have hr:=H.row n gr m sz xs hn
 have aN:(G.g n).px≠[]->(G.g n).nl=false:=fun aD=>by
  cases hq:(G.g n).nl with
  |false=>rfl
  |true=>exact absurd (hr.nl hq).1 aD
 refine⟨fun e he=>(hr.dW (aN (List.ne_nil_of_mem he))).2.1.1 e he,fun k j c hk=>?_,hr.mode,fun hm q bo m' aJ au hq bO b hb=>?_,fun hm b hb q hq hl=>?_⟩
 ·have aD:(G.g n).px≠[]:=by obtain⟨e,he,_⟩:=hk;exact List.ne_nil_of_mem (List.mem_of_getElem? he)
  exact(hr.dW (aN aD)).2.1.2.2 k j c hk
 ·obtain⟨q1,q2⟩:=qH hq
  exact H.fV n q gr m sz xs bo m' aJ au hn q1 hm bO (Ne.symm q2) b hb
 ·subst hm
  obtain⟨q1,q2⟩:=BK hq
  exact H.live n gr sz xs hn b hb q q1 hl
theorem mg.del {m:Mode} {sz:Nat} {px:List (List PC)} (F:mg B E w G h sz m px) (n:Nat):mg B E w G (aA h n none) sz m px:=
 ⟨F.len,F.eD,F.mode,fun hm q gr m' aJ au hq bO=>F.fV hm q gr m' aJ au (qH hq).1 bO,fun hm b hb q hq=>F.live hm b hb q (BK hq).1⟩
theorem mg.W9 {m:Mode} {sz:Nat} {px:List (List PC)} (F:mg B E w G h sz m px) (hm:m≠ .live):∀b,aZ b px->G.Im b:=by
 intro b hb
 have:=F.mode
 cases m with
 |aG=>exact this b hb
 |ae=>exact(this.1 b hb).1
 |live=>exact absurd rfl hm
def ym (B:Nat) (E:Ex) (w:World) (G:Gh) (h:Nat->Option ar) (sz:Nat) (m:Mode) (px:List (List PC)) (v:Value):Prop:=
 (∃a,v=.slice a 0 0/\px=[])\/
 ∃b o cap cur e,v=.slice (some (ad b o)) px.length cap/\w.heap[b]? =some (.cells cur e (0,0))/\cur.size=o+cap*sz/\cap<=maxLen/\px.length<=cap/\pB w b o sz px/\
  pA G h b/\(B<=b\/E b)/\(∀b',aZ b' px->b'≠b)
theorem ym.del {m:Mode} {sz:Nat} {px:List (List PC)} {v:Value} (L:ym B E w G h sz m px v) (n:Nat):ym B E w G (aA h n none) sz m px v:=by
 rcases L with h1|⟨b,o,cap,cur,e,a1,a2,a3,a4,a5,a6,⟨l1,l2,l3⟩,a8,a9⟩
 ·exact .inl h1
 ·exact .inr ⟨b,o,cap,cur,e,a1,a2,a3,a4,a5,a6,⟨l1,fun q hq=>l2 q (BK hq).1,fun q gr m sz xs hq=>l3 q gr m sz xs (qH hq).1⟩,a8,a9⟩
theorem N8 {px:List (List PC)} {sz:Nat} (hl:∀e∈px,e.length=sz):(px.flatten.map PC.val).length=px.length*sz:=by
 induction px with
 |nil=>simp
 |cons e px ih=>
  have:=ih (fun e he=>hl e (by simp[he]))
  simp only[List.flatten_cons,List.map_append,List.length_append,List.length_cons,Nat.add_mul,this,List.length_map] at*
  rw[hl e (by simp)]
  omega
theorem N7 {α:Type} {sz:Nat} (bP:0<sz):∀{px:List (List α)} (_:∀e∈px,e.length=sz) {i:Nat} {c:α},px.flatten[i]? =some c->∃k j,At px k j c/\i=k*sz+j
 |[],_,i,c,hi=>by simp at hi
 |e::px,hl,i,c,hi=>by
  have h0:=hl e (by simp)
  simp only[List.flatten_cons] at hi
  rcases Nat.lt_or_ge i e.length with bK|E9
  ·rw[List.getElem?_append_left bK] at hi
   exact⟨0,i,⟨e,rfl,hi⟩,by omega⟩
  ·rw[List.getElem?_append_right E9] at hi
   obtain⟨k,j,⟨e',he,hj⟩,hk⟩:=N7 bP (px:=px) (fun e he=>hl e (by simp[he])) hi
   exact⟨k+1,j,⟨e',by simpa using he,hj⟩,by rw[Nat.add_mul];omega⟩
theorem ari {t ty e e':TypeId} {i:TypeInfo} (ht:P.underlying t=some (.slice e)) (hi:P.info? e=some i)
  (g og xN UQ:Nat) (cur:Array Value) (hg:w.heap[g]? =some (.cells cur e' (0,0)))
  (a:Addr) (m c:Nat) (ga:List Value) (hl:ga.length=m*i.size) (tx:∀j u,ga[j]? =some u->w.cell? (a.add j)=some u) (h1:∀u∈ga,u.oneCell'=true)
  (Fp:xN+m<=UQ) (fW:og+xN*i.size+ga.length<=cur.size):
  (Builtin.append_ #[t,t] ty #[.slice (some (ad g og)) xN UQ,.slice (some a) m c]).run P w=.ok (.slice (some (ad g og)) (xN+m) UQ) (eX w g (og+xN*i.size) ga cur):=by
 have hf:=run_firstCells_some (P:=P) w i.size m a m c ga hl tx
 have nY:=run_storeCells_at P g (og+xN*i.size) e' ga 0 cur w hg (by simpa using fW) h1
 simp only[Nat.add_zero] at nY
 have ha:(ad g og).add (xN*i.size)=⟨g,og+xN*i.size,none⟩:=by rw[oI];simp[ad]
 simp[Builtin.append_,run_underlying ht,sizeOf,typeInfo,hi,Builtin.lenOf,Fp,hf,ha,nY,eX]
theorem arh (w:World) {t e:TypeId} {i:TypeInfo} {z:Value} {ty:TypeId} {sz by_:Nat} (ht:P.underlying t=some (.slice e)) (hi:P.info? e=some i) (hz:i.zero=some z) (bP:i.size=sz) (jB:0<sz) (oN:i.bytes=by_) (y6:0<by_)
  {m:Mode} {px:List (List PC)} {v:Value} (fY:∀e∈px,e.length=sz) (L:ym B E w G h sz m px v) {ga:List Value} {k c:Nat} {ya:Option Addr} (aN:ga.length=k*sz)
  (hy:(ya=none/\k=0)\/∃ay,ya=some ay/\∀(j:Nat) (u:Value),ga[j]? =some u->w.cell? (ay.add j)=some u) (h1:∀u∈ga,u.oneCell'=true) (hb:(px.length+k)*by_<=eQ):
  (∃a,k=0/\v=.slice a 0 0/\px=[]/\(Builtin.append_ #[t,t] ty #[v,.slice ya k c]).run P w=.ok (.slice a 0 0) w)\/
  (∃b o cap cur e',v=.slice (some (ad b o)) px.length cap/\w.heap[b]? =some (.cells cur e' (0,0))/\cur.size=o+cap*sz/\cap<=maxLen/\px.length+k<=cap/\pB w b o sz px/\pA G h b/\(B<=b\/E b)/\(∀b',aZ b' px->b'≠b)/\
   (Builtin.append_ #[t,t] ty #[v,.slice ya k c]).run P w=.ok (.slice (some (ad b o)) (px.length+k) cap) (eX w b (o+px.length*sz) ga cur))\/
  (∃(cap:Nat) (arr:Array Value),px.length+k<=cap/\cap<=maxLen/\arr.size=cap*z.cells.size+(px.length+k)*sz - (px.length+k)*z.cells.size/\(∀(q:Nat) (u:Value),(px.flatten.map PC.val++ga)[q]? =some u->arr[q]? =some u)/\
   (Builtin.append_ #[t,t] ty #[v,.slice ya k c]).run P w=.ok (.slice (some (ad w.heap.size 0)) (px.length+k) cap) (w.drew.alloc (.cells arr e))):=by
 have zl:px.length+k<=eQ:=Nat.le_trans (Nat.le_mul_of_pos_right _ y6) hb
 have iz:(eQ:Nat)=140737488355328:=rfl
 have Pu:∀fB,grownCap w (px.length+k) fB e<=maxLen:=fun fB=>grownCap_le_maxLen w _ fB e (by simp only[maxLen];omega)
 have hol:=N8 fY
 have uS:∀fB,((px.flatten.map PC.val).toArray++ga.toArray++Builtin.zeroCells z.cells (grownCap w (px.length+k) fB e - (px.length+k))).size=grownCap w (px.length+k) fB e*z.cells.size+(px.length+k)*sz - (px.length+k)*z.cells.size:=by
  intro fB
  have E9:=grownCap_ge w (px.length+k) fB e
  have h2:(px.length+k)*z.cells.size<=grownCap w (px.length+k) fB e*z.cells.size:=Nat.mul_le_mul_right _ E9
  simp only[Array.size_append,List.size_toArray,size_zeroCells,hol,aN,Nat.sub_mul,Nat.add_mul] at*
  omega
 have nW:∀fB (q:Nat) (u:Value),(px.flatten.map PC.val++ga)[q]? =some u->((px.flatten.map PC.val).toArray++ga.toArray++Builtin.zeroCells z.cells (grownCap w (px.length+k) fB e - (px.length+k)))[q]? =some u:=by
  intro fB q u hq
  have Ci:=(List.getElem?_eq_some_iff.1 hq).1
  rw[Array.getElem?_append_left (by simp only[Array.size_append,List.size_toArray];simpa using Ci)]
  simpa using hq
 rcases L with⟨a,rfl,rfl⟩|⟨b,o,cap,cur,e',rfl,a2,a3,a4,a5,a6,a7,a8,a9⟩
 ·by_cases hk:k=0
  ·subst hk
   left
   have hn:ga=[]:=List.eq_nil_of_length_eq_zero (by simpa using aN)
   refine⟨a,rfl,rfl,rfl,?_⟩
   cases ya<;>cases a<;>simp[Builtin.append_,run_underlying ht,sizeOf,typeInfo,hi,Builtin.lenOf,Builtin.firstCells,loadCells,loadCellsFrom,storeCells]
  ·rcases hy with⟨_,h0⟩|⟨ay,rfl,tx⟩
   ·exact absurd h0 hk
   right;right
   cases a with
   |none=>
    have hr:=run_append_nil (P:=P) w t ty e i z ht hi hz ay k c ga (by rw[bP];exact aN) tx (by omega) (by simp only[List.length_nil,Nat.zero_add] at zl;omega) (by rw[oN];simp only[List.length_nil,Nat.zero_add] at hb;omega)
    have h3:=uS 0
    have h4:=nW 0
    have h5:=Pu 0
    simp only[List.length_nil,Nat.zero_add,List.flatten_nil,List.map_nil,List.nil_append] at h3 h4 h5⊢
    exact⟨grownCap w k 0 e,ga.toArray++Builtin.zeroCells z.cells (grownCap w k 0 e - k),grownCap_ge w k 0 e,h5,by simpa using h3,fun q u hq=>by simpa using h4 q u hq,hr⟩
   |some a=>
    have hr:=run_append_grow (P:=P) w t ty e i z ht hi hz a 0 0 [] (by simp) (fun q u hq=>by simp at hq) ay k c ga (by rw[bP];exact aN) tx (by omega) (by simp only[List.length_nil,Nat.zero_add] at zl;omega) (growslice_fits (by simp only[List.length_nil,Nat.zero_add] at zl;omega) (by rw[oN,Nat.zero_add];rw[List.length_nil,Nat.zero_add] at hb;exact hb))
    have h3:=uS 0
    have h4:=nW 0
    have h5:=Pu 0
    simp only[List.length_nil,Nat.zero_add,List.flatten_nil,List.map_nil,List.nil_append] at h3 h4 h5 hr⊢
    exact⟨_,_,grownCap_ge w k 0 e,h5,by simpa using h3,fun q u hq=>by simpa using h4 q u hq,hr⟩
 ·by_cases Fp:px.length+k<=cap
  ·right;left
   refine⟨b,o,cap,cur,e',rfl,a2,a3,a4,Fp,a6,a7,a8,a9,?_⟩
   rcases hy with⟨rfl,rfl⟩|⟨ay,rfl,tx⟩
   ·have hn:ga=[]:=List.eq_nil_of_length_eq_zero (by simpa using aN)
    subst hn
    have ajs:eX w b (o+px.length*sz) [] cur=w:=by
     unfold eX
     simp only[List.append_nil,List.length_nil,Nat.add_zero,List.take_append_drop,Array.toArray_toList]
     exact setRow_self w b cur e' (0,0) a2
    rw[ajs]
    simp[Builtin.append_,run_underlying ht,sizeOf,typeInfo,hi,Builtin.lenOf,Builtin.firstCells,a5,storeCells]
   ·have hr:=ari (P:=P) (w:=w) (ty:=ty) ht hi b o px.length cap cur a2 ay k c ga (by rw[bP];exact aN) tx h1 Fp (by
     rw[bP,aN,a3,Nat.add_assoc,<-Nat.add_mul];exact Nat.add_le_add_left (Nat.mul_le_mul_right _ Fp) _)
    rw[bP] at hr
    exact hr
  ·rcases hy with⟨_,rfl⟩|⟨ay,rfl,tx⟩
   ·omega
   right;right
   have hr:=run_append_grow (P:=P) w t ty e i z ht hi hz (ad b o) px.length cap (px.flatten.map PC.val) (by rw[bP];exact hol) (fun q u hq=>by
    rw[List.getElem?_map] at hq
    cases hf:px.flatten[q]? with
    |none=>rw[hf] at hq;cases hq
    |some pc=>
     rw[hf] at hq
     simp at hq
     subst hq
     obtain⟨k',j',m8,rfl⟩:=N7 jB fY hf
     rw[oI,<-Nat.add_assoc]
     exact a6.2.1 k' j' pc m8) ay k c ga (by rw[bP];exact aN) tx (by omega) (by omega) (growslice_fits (by omega) (by rw[oN];exact hb))
   exact⟨_,_,grownCap_ge w _ _ _,Pu _,uS _,nW _,hr⟩
def wh (w:World) (sz:Nat) (py:List (List PC)) (v:Value):Prop:=
 (∀e∈py,e.length=sz)/\(∀k j c,At py k j c->Good w c)/\
 ∃ya c,v=.slice ya py.length c/\((ya=none/\py.length=0)\/∃ay,ya=some ay/\∀(j:Nat) (u:Value),(py.flatten.map PC.val)[j]? =some u->w.cell? (ay.add j)=some u)
theorem wh.ach {sz:Nat} {ya:Option Addr} {c:Nat} {py:List (List PC)} (hg:Good w (.list sz ya c py)):wh w sz py (.slice ya py.length c):=by
 cases hg with
 |nil _ _ _ h=>
  refine⟨by simp,by rintro k j c ⟨e,he,_⟩;simp at he,ya,c,rfl,?_⟩
  cases ya with
  |none=>exact .inl ⟨rfl,rfl⟩
  |some ay=>exact .inr ⟨ay,rfl,by simp⟩
 |cons _ b o _ _ h1 h2 h3 h4 h5 h6=>
  refine⟨h4,h6,_,c,rfl,.inr ⟨_,rfl,fun j u hj=>?_⟩⟩
  rw[List.getElem?_map] at hj
  cases hf:py.flatten[j]? with
  |none=>rw[hf] at hj;cases hj
  |some pc=>
   rw[hf] at hj
   simp at hj
   subst hj
   obtain⟨k',j',m8,rfl⟩:=N7 h3 h4 hf
   rw[oI,<-Nat.add_assoc]
   exact h5 k' j' pc m8
theorem R.afi (r:R B E w0 N σ a w G) {σ2:St} (zd:σ2.env=σ.env) (mI:σ2.used=σ.used) (H:HR B E w G σ2.h σ.used []) (K:bf w G σ.h (fun n=>σ.used n=true) w G σ2.h)
  {n:Nat} {sz by_:Nat} {m m2:Mode} {px py:List (List PC)} {v yv:Value} (hn:σ.used n=false) (jB:0<sz) (F:mg B E w G σ2.h sz m2 (px++py)) (fY:∀e∈px,e.length=sz) (L:ym B E w G σ2.h sz m px v) (Ry:wh w sz py yv)
  (PY:∀b,aZ b py->∀b' o cap,0<cap->v=.slice (some (ad b' o)) px.length cap->pA G σ2.h b'->b≠b')
  {t e:TypeId} {i:TypeInfo} {z:Value} {ty:TypeId} (ht:P.underlying t=some (.slice e)) (hi:P.info? e=some i) (hz:i.zero=some z) (bP:i.size=sz) (oN:i.bytes=by_) (y6:0<by_) (sr:z.cells.size=sz)
  (hb:(px.length+py.length)*by_<=eQ):
  ∃u w' G',(Builtin.append_ #[t,t] ty #[v,yv]).run P w=.ok u w'/\
   R B E w0 N {σ2 with h:=aA σ2.h n (some (.row true m2 sz ((px++py).map fun e=>e.map PC.er))),used:=aA σ2.used n true} a w' G'/\
   RA w' G' (aA σ2.h n (some (.row true m2 sz ((px++py).map fun e=>e.map PC.er)))) (.one (.sl n sz 0 (px.length+py.length))) u:=by
 obtain⟨r1,r2,ya,c,rfl,r3⟩:=Ry
 have aN:(py.flatten.map PC.val).length=py.length*sz:=N8 r1
 have h1:∀u∈py.flatten.map PC.val,u.oneCell'=true:=fun u hu=>by obtain⟨pc,_,rfl⟩:=List.mem_map.1 hu;exact PC.lx pc
 have hB:=r.fr.size
 have aax:(px++py).length=px.length+py.length:=by simp
 have PD:σ2.h n=none:=by
  cases hh:σ2.h n with
  |none=>rfl
  |some b=>have:=H.jc n (by rw[hh];simp);rw[hn] at this;cases this
 have ne:∀q,σ.used q=true->q≠n:=fun q hq e=>by subst e;rw[hn] at hq;cases hq
 have aD:∀q,σ2.h q≠none->q≠n:=fun q hq e=>by subst e;exact hq PD
 rcases arh (P:=P) w (ty:=ty) ht hi hz bP jB oN y6 fY L aN r3 h1 hb with⟨a0,k0,rfl,rfl,bY⟩|⟨b,ob,cap,cur,e',rfl,b2,b3,b4,b5,b6,b7,b8,b9,bY⟩|⟨cap,arr,c1,c2,c3,c4,bY⟩
 ·
  have hpy:py=[]:=List.eq_nil_of_length_eq_zero k0
  subst hpy
  refine⟨_,w,⟨G.Im,aA G.g n ⟨true,0,0,0,[],a0⟩⟩,bY,?_,?_⟩
  ·refine r.step (σ':=_) zd (fun q hq=>by show aA σ2.used n true q=true;rw[mI];exact rI n q hq) (bf.trans (u2:=fun n=>σ.used n=true) (fun _ h=>h) K (bf.insert H (blk:=.row true m2 sz []) (p:=⟨true,0,0,0,[],a0⟩) hn (fun _ _=>rfl))) ?_ r.fr
   show HR B E w _ (aA σ2.h n (some (.row true m2 sz []))) (aA σ2.used n true) []
   rw[mI]
   have cm:∀b,¬aZ b ([]:List (List PC)):=by rintro b ⟨k,j,c,⟨e,he,_⟩,_⟩;simp at he
   refine H.insert (p:=⟨true,0,0,0,[],a0⟩) hn (fun _ _=>rfl) (Nat.le_refl _) (fun h=>by cases h) (fun cs c m hb=>by cases hb) ⟨jB,rfl,fun _=>⟨rfl,fun _=>rfl⟩,(fun h=>by cases h),(fun h=>by cases h),?_⟩
    (fun gr m sz xs _ _ n' bo m' aJ au _ _ b hb=>absurd hb (cm b)) (fun gr sz xs _ b hb=>absurd hb (cm b)) (fun gr m sz xs _ _ i pc b hi=>by simp at hi)
   have hm:=F.mode
   simp only[List.append_nil] at hm
   exact hm
  ·refine RA.gD rfl fun _=>.inl ?_
   simp[bN]
 ·
  have Kc:(ob+px.length*sz)+(py.flatten.map PC.val).length<=cur.size:=by rw[aN,b3,Nat.add_assoc,<-Nat.add_mul];exact Nat.add_le_add_left (Nat.mul_le_mul_right _ b5) _
  let w2:=eX w b (ob+px.length*sz) (py.flatten.map PC.val) cur
  have dS:∀x,x≠b->w2.heap[x]? =w.heap[x]? :=fun x hx=>AJ x hx
  have JT:∀x,G.Im x->x≠b:=fun x hx he=>b7.1 (he▸hx)
  have vg:∀x,dK w x->dK w2 x:=fun x hx=>L8 b2 Kc x hx
  have aaz:∀x,aZ x (px++py)->x≠b:=fun x hx=>(vE hx).elim (b9 x) (fun h=>PY x h b ob cap (by obtain⟨k,j,c,⟨e,he,_⟩,_⟩:=h;have:=(List.getElem?_eq_some_iff.1 he).1;omega) rfl b7)
  let p:PB:=⟨false,b,ob,cap,px++py,none⟩
  have K2:bf w G σ2.h (fun n=>σ.used n=true) w2 ⟨G.Im,aA G.g n p⟩ (aA σ2.h n (some (.row true m2 sz ((px++py).map fun e=>e.map PC.er)))):=by
   refine⟨fun _ h=>h,fun x hx o=>ja (dS x (JT x hx)) o,fun q hq h0=>?_,fun q gr aJ au hq h0=>?_⟩
   ·rw[cE _ _ _ _ (ne q hq)] at h0
    simp only[cE _ _ _ _ (ne q hq)]
    exact⟨h0,trivial,trivial,trivial,trivial,trivial⟩
   ·rw[cE _ _ _ _ (ne q hq)] at h0
    simp only[cE _ _ _ _ (ne q hq)]
    exact⟨⟨gr,au,h0⟩,fun k j pc h1 h2=>⟨pc,h1,rfl,h2⟩⟩
  have aiO:b<w.heap.size:=(Array.getElem?_eq_some_iff.1 b2).1
  have Hn:HR B E w2 ⟨G.Im,aA G.g n p⟩ (aA σ2.h n (some (.row true m2 sz ((px++py).map fun e=>e.map PC.er)))) (aA σ.used n true) []:=by
   refine H.put (p:=p) (fun x _ hx=>dS x (hx rfl)) (by show w.heap.size<=w2.heap.size;rw[rJ];exact Nat.le_refl _) (fun x _ hx=>vg x hx) (fun q hq=>rI n q hq) (bN _ _ _)
    (fun _=>⟨b7.1,b8,by show b<w2.heap.size;rw[rJ];exact aiO⟩) (fun _ q hq h0 hl=>b7.2.1 q h0 hl) (fun _ q gr aJ au hq h0 x hx he=>b7.2.2 q gr .live aJ au h0 (by have J4:x=b:=he;rw[<-J4];exact hx))
    (fun cs c q hb=>by cases hb) K2 ?_ ?_ ?_ (fun gr m sz xs _ _ i pc b hi=>by simp at hi) (fun _ _ x hx he=>by obtain⟨q,gr,mo,aJ,au,_,h0,hxF⟩:=hx;exact b7.2.2 q gr mo aJ au h0 (by have J4:x=b:=he;rw[<-J4];exact hxF))
   ·refine⟨jB,rfl,(fun h=>by cases h),fun _=>⟨vg b ⟨cur,e',b2⟩,⟨F.len,fun k j c hk=>?_,fun k j c hk=>?_⟩,by show(px++py).length<=cap;rw[aax];exact b5⟩,fun _ _=>?_,?_⟩
    ·show w2.cell? (ad b (ob+k*sz+j))=some c.val
     rw[DP b2 Kc]
     have hf:=uz F.len hk
     rw[List.flatten_append] at hf
     have jR:px.flatten.length=px.length*sz:=by have:=N8 fY;rwa[List.length_map] at this
     rcases wu hk with⟨pR,cI⟩|⟨pR,cI⟩
     ·rw[if_neg ?_]
      ·exact b6.2.1 k j c cI
      ·rintro⟨q1,_⟩
       have hj:j<sz:=by obtain⟨e1,he,hj⟩:=cI;rw[<-fY e1 (List.mem_of_getElem? he)];exact(List.getElem?_eq_some_iff.1 hj).1
       have:(k+1)*sz<=px.length*sz:=Nat.mul_le_mul_right _ pR
       rw[Nat.add_mul] at this
       omega
     ·have E9:px.length*sz<=k*sz+j:=Nat.le_trans (Nat.mul_le_mul_right _ pR) (Nat.le_add_right _ _)
      have bK:=(List.getElem?_eq_some_iff.1 hf).1
      rw[List.length_append,jR] at bK
      rw[List.getElem?_append_right (by rw[jR];exact E9),jR] at hf
      rw[if_pos ⟨by omega,by simp only[List.length_map];omega⟩]
      rw[List.getElem?_map,show ob+k*sz+j - (ob+px.length*sz)=k*sz+j - px.length*sz by omega,hf]
      rfl
    ·exact(F.eD k j c hk).congr fun x hx o=>ja (dS x (aaz x ⟨k,j,c,hk,hx⟩)) o
    ·obtain⟨jP,q1,q2⟩:=L7 (vs:=py.flatten.map PC.val) (o:=ob+px.length*sz) b2 Kc
     exact⟨b4,jP,e',q1,by rw[q2,b3]⟩
    ·have hm:=F.mode
     cases m2 with
     |aG=>exact hm
     |ae=>exact⟨fun x hx=>⟨(hm.1 x hx).1,vg x (hm.1 x hx).2.1,(hm.1 x hx).2.2⟩,hm.2⟩
     |live=>exact⟨fun x hx=>⟨(hm.1 x hx).1,vg x (hm.1 x hx).2.1,(hm.1 x hx).2.2⟩,hm.2⟩
   ·intro gr m' aJ au hb iz q bo mo kL iH fO h0 jz x hx
    injection hb with _ hb _ _
    subst hb
    exact F.fV iz q bo mo kL iH h0 jz x hx
   ·intro gr aJ au hb x hx
    injection hb with _ hb _ _
    exact⟨fun _=>aaz x hx,fun q _ h0 hl=>F.live hb x hx q h0 hl⟩
  refine⟨_,w2,⟨G.Im,aA G.g n p⟩,bY,?_,?_⟩
  ·exact r.step (σ':=_) zd (fun q hq=>by show aA σ2.used n true q=true;rw[mI];exact rI n q hq) (bf.trans (u2:=fun n=>σ.used n=true) (fun _ h=>h) K K2)
    (by show HR B E w2 _ _ (aA σ2.used n true) [];rw[mI];exact Hn) (r.fr.one b8 (fun x hx Qi=>dS x Qi) (by show w.heap.size<=w2.heap.size;rw[rJ];exact Nat.le_refl _) (DQ b2 Kc) rfl rfl rfl)
  ·refine RA.gD rfl fun _=>.inr ⟨by simp[bN,p],some (ad b ob),?_,?_,?_⟩
   ·simp[bN,p]
   ·simp[bN,p];exact b5
   ·simp[bN,p]
 ·
  let w1:=w.drew
  have hd:∀x:Nat,x<w.heap.size->(w.drew.alloc (.cells arr e)).heap[x]? =w.heap[x]? :=fun x hx=>heap_alloc_old w.drew _ x hx
  have H1:HR B E w.drew G σ2.h σ.used []:=H.grow (w':=w.drew) (fun _ _=>rfl) (Nat.le_refl _)
  have r1:R B E w0 N σ a w.drew G:=r.step (w':=w.drew) rfl (fun _ h=>h) (bf.world (w:=w) (w':=w.drew) (fun _ _=>rfl) _) (r.hr.grow (w':=w.drew) (fun _ _=>rfl) (Nat.le_refl _)) (r.fr.grow (w':=w.drew) (fun _ _=>rfl) (Nat.le_refl _) rfl rfl rfl)
  have K1:bf w.drew G σ.h (fun n=>σ.used n=true) w.drew G σ2.h:=⟨K.im,fun _ _ _=>rfl,K.name,K.live⟩
  have ie:∀k j c,At (px++py) k j c->Good w.drew c:=fun k j c hk=>(F.eD k j c hk).congr fun _ _ _=>rfl
  have uS:∀k j c,At (px++py) k j c->arr[k*sz+j]? =some c.val:=fun k j c hk=>by
   have hf:=uz F.len hk
   refine c4 _ _ ?_
   rw[<-List.map_append,<-List.flatten_append,List.getElem?_map,hf]
   rfl
  have vd:arr.size=cap*sz:=by rw[c3,sr];omega
  have hB2:=r1.fr.size
  let p:PB:=⟨false,w.heap.size,0,cap,px++py,none⟩
  have hw:∀x:Nat,x<w.drew.heap.size->(w.drew.alloc (.cells arr e)).heap[x]? =w.drew.heap[x]? :=hd
  have Hn:HR B E (w.drew.alloc (.cells arr e)) ⟨G.Im,aA G.g n p⟩ (aA σ2.h n (some (.row true m2 sz ((px++py).map fun e=>e.map PC.er)))) (aA σ.used n true) []:=by
   refine H1.insert (p:=p) hn hw (by simp) (fun _=>⟨H1.Rv,.inl hB,by simp[p]⟩) (fun cs c m hb=>by cases hb) ?_ ?_ ?_ (fun gr m sz xs _ _ i pc b hi=>by simp at hi)
   ·refine⟨jB,rfl,(fun h=>by cases h),fun _=>⟨dK.alloc _ _ _,⟨F.len,fun k j c hk=>?_,fun k j c hk=>?_⟩,by show(px++py).length<=cap;rw[aax];exact c1⟩,fun _ _=>⟨c2,arr,e,heap_alloc_new w.drew _,(Nat.zero_add _).symm▸vd⟩,?_⟩
    ·show(w.drew.alloc (.cells arr e)).cell? (ad w.drew.heap.size (0+k*sz+j))=some c.val
     simp only[Nat.zero_add]
     unfold ad
     rw[World.cell?_alloc_new]
     exact uS k j c hk
    ·exact(ie k j c hk).congr fun x hx o=>ja (hw x ((ie k j c hk).lt hx)) o
    ·have hm:=F.mode
     have hu:∀x,dK w x->dK (w.drew.alloc (.cells arr e)) x:=fun x hx=>hx.congr (hd x hx.lt)
     cases m2 with
     |aG=>exact hm
     |ae=>exact⟨fun x hx=>⟨(hm.1 x hx).1,hu x (hm.1 x hx).2.1,(hm.1 x hx).2.2⟩,hm.2⟩
     |live=>exact⟨fun x hx=>⟨(hm.1 x hx).1,hu x (hm.1 x hx).2.1,(hm.1 x hx).2.2⟩,hm.2⟩
   ·intro gr m' aJ au hb iz q bo mo kL iH h0 jz x hx
    injection hb with _ hb _ _
    subst hb
    exact F.fV iz q bo mo kL iH h0 jz x hx
   ·intro gr aJ au hb x hx
    injection hb with _ hb _ _
    refine⟨fun _=>?_,fun q h0 hl=>F.live hb x hx q h0 hl⟩
    obtain⟨k,j,c,hk,hxc⟩:=hx
    have:=(F.eD k j c hk).lt hxc
    show x≠w.heap.size
    omega
  refine⟨_,_,⟨G.Im,aA G.g n p⟩,bY,?_,?_⟩
  ·exact r1.step (σ':=_) zd (fun q hq=>by show aA σ2.used n true q=true;rw[mI];exact rI n q hq) (bf.trans (u2:=fun n=>σ.used n=true) (fun _ h=>h) K1 (bf.insert H1 hn hw))
    (by show HR B E _ _ _ (aA σ2.used n true) [];rw[mI];exact Hn) (r1.fr.grow hw (by simp) rfl rfl rfl)
  ·refine RA.gD rfl fun _=>.inr ⟨by simp[bN,p],some (ad w.heap.size 0),?_,?_,?_⟩
   ·simp[bN,p]
   ·simp[bN,p];exact c1
   ·simp[bN,p]
theorem amG (r:R B E w0 N σ a w G) {sz:Nat} {x:ak} {v:Value} {xs:List (List C)} {m:Mode} {σ1:St} (hv:RA w G σ.h x v) (hx:qz σ sz x=some (xs,m,σ1)):
  ∃px:List (List PC),xs=px.map (fun e=>e.map PC.er)/\mg B E w G σ1.h sz m px/\ym B E w G σ1.h sz m px v/\HR B E w G σ1.h σ.used []/\bf w G σ.h (fun n=>σ.used n=true) w G σ1.h/\σ1.env=σ.env/\σ1.used=σ.used/\
   (∀n b,σ1.h n=some b->σ.h n=some b):=by
 unfold qz at hx
 split at hx
 ·rename_i s
  injection hx with hx
  injection hx with h1 h2
  injection h2 with h2 h3
  subst h1 h2 h3
  have eS:v=.slice none 0 0:=(hv.fS (by simp)).1
  have cm:∀b,¬aZ b ([]:List (List PC)):=by rintro b ⟨k,j,c,⟨e,he,_⟩,_⟩;simp at he
  exact⟨[],rfl,⟨by simp,by rintro k j c ⟨e,he,_⟩;simp at he,⟨fun b hb=>absurd hb (cm b),(by rintro k j c ⟨e,he,_⟩;simp at he),(by rintro k j c k' j' c' b ⟨e,he,_⟩;simp at he)⟩,fun _ _ _ _ _ _ _ _ b hb=>absurd hb (cm b),fun _ b hb=>absurd hb (cm b)⟩,
   .inl ⟨none,eS,rfl⟩,r.hr,bf.refl _ _ _ _,rfl,rfl,fun _ _ h=>h⟩
 ·rename_i n s len
  split at hx
  ·rename_i m0 rs lB hn
   split at hx
   ·rename_i hc
    obtain⟨rfl,rfl,rfl⟩:=hc
    injection hx with hx
    injection hx with h1 h2
    injection h2 with h2 h3
    subst h1 h2 h3
    have H:=r.hr
    have bS:σ.h n≠none:=by rw[hn];simp
    have hr:=H.row n true m0 s lB hn
    have gI:jO (G.g n) s 0 lB.length v:=(hv.fS (by simp)).1 bS
    have oS:lB.length=(G.g n).px.length:=by rw[hr.er];simp
    refine⟨(G.g n).px,hr.er,mg.Ta H hn,?_,H.del n,bf.del n _,rfl,rfl,fun q b hq=>(qH hq).1⟩
    rcases gI with⟨aN,eS,_,_⟩|⟨aN,a',eS,jQ,ha⟩
    ·have g2:=(hr.nl aN).2 rfl
     exact .inl ⟨(G.g n).na,by rw[eS,g2],(hr.nl aN).1⟩
    ·right
     obtain⟨r2,cur,e,r3,r4⟩:=hr.room aN rfl
     obtain⟨l1,l2,l3⟩:=hr.dW aN
     obtain⟨o1,o2,o3⟩:=H.own n bS aN
     have pN:=ha (.inr rfl)
     refine⟨(G.g n).b,(G.g n).o,(G.g n).cap,cur,e,?_,r3,r4,r2,l3,l2,⟨o1,fun q hq hl=>?_,fun q gr m' aJ au hq hb=>?_⟩,o2,fun b hb=>H.tm bS aN hn hb⟩
     ·rw[eS,pN,oS];simp
     ·obtain⟨q1,q2⟩:=BK hq
      exact H.inj q n q1 bS q2 hl aN
     ·exact H.tm bS aN (qH hq).1 hb rfl
   ·cases hx
  ·cases hx
 ·cases hx
theorem aqW {fl:Bool} {sz:Nat} {x:ak} {v:Value} {ys:List (List C)} {m m2:Mode} {σ1 σ2:St} {px:List (List PC)} (jB:0<sz) (H:HR B E w G σ1.h σ1.used []) (F:mg B E w G σ1.h sz m px) (hv:RA w G σ1.h x v)
  (hx:mq fl σ1 sz m x=some (ys,m2,σ2)):
  ∃py:List (List PC),ys=py.map (fun e=>e.map PC.er)/\wh w sz py v/\mg B E w G σ2.h sz m2 (px++py)/\HR B E w G σ2.h σ1.used []/\bf w G σ1.h (fun n=>σ1.used n=true) w G σ2.h/\σ2.env=σ1.env/\σ2.used=σ1.used/\
   (∀n b,σ2.h n=some b->σ1.h n=some b)/\(∀b,aZ b py->∀b',¬G.Im b'->(∀q gr mo aJ au,σ1.h q=some (.row gr mo aJ au)->¬aZ b' (G.g q).px)->b≠b'):=by
 unfold mq at hx
 have aje:∀b,¬aZ b ([]:List (List PC)):=by rintro b ⟨k,j,c,⟨e,he,_⟩,_⟩;simp at he
 split at hx
 ·rename_i s
  injection hx with hx
  injection hx with h1 h2
  injection h2 with h2 h3
  subst h1 h2 h3
  have eS:v=.slice none 0 0:=(hv.fS (by simp)).1
  subst eS
  exact⟨[],rfl,⟨by simp,by rintro k j c ⟨e,he,_⟩;simp at he,none,0,rfl,.inl ⟨rfl,rfl⟩⟩,by simpa using F,H,bf.refl _ _ _ _,rfl,rfl,fun _ _ h=>h,fun b hb=>absurd hb (aje b)⟩
 ·rename_i s vS
  split at hx
  ·rename_i hs
   subst hs
   obtain⟨pc,e1,e2,e3,e4⟩:=hv.c
   have bc:∃ya c py,pc=.list s ya c py/\py.map (fun e=>e.map PC.er)=vS:=by
    cases pc with
    |int k n=>simp[PC.er] at e1
    |bool b=>simp[PC.er] at e1
    |list s' ya c py=>rw[PC.dR] at e1;injection e1 with e1 e5;subst e1;exact⟨ya,c,py,rfl,e5⟩
   obtain⟨ya,c,py,rfl,e5⟩:=bc
   have hR:wh w s py v:=by rw[<-e2];exact wh.ach e3
   have m5:∀b,aZ b py->G.Im b:=fun b ⟨k,j,c,hk,hb⟩=>e4 b (.there _ _ _ _ k j c hk hb)
   have pO:∀b,aZ b py->∀b',¬G.Im b'->(∀q gr mo aJ au,σ1.h q=some (.row gr mo aJ au)->¬aZ b' (G.g q).px)->b≠b':=fun b hb b' be _ he=>be (he▸m5 b hb)
   split at hx
   ·rename_i tA
    injection hx with hx
    injection hx with h1 h2
    injection h2 with h2 h3
    subst h1 h2 h3
    replace tA:=(Bool.and_eq_true _ _▸tA).2
    rw[<-e5] at tA
    exact⟨py,e5.symm,hR,F.X0 hR.1 hR.2.1 (Di tA),H,bf.refl _ _ _ _,rfl,rfl,fun _ _ h=>h,pO⟩
   ·split at hx
    ·cases hx
    ·rename_i tu
     injection hx with hx
     injection hx with h1 h2
     injection h2 with h2 h3
     subst h1 h2 h3
     refine⟨py,e5.symm,hR,⟨fun e he=>(List.mem_append.1 he).elim (F.len e) (hR.1 e),fun k j c hk=>?_,fun b hb=>(vE hb).elim (F.W9 tu b) (m5 b),fun h=>absurd rfl h,fun h=>by cases h⟩,H,bf.refl _ _ _ _,rfl,rfl,fun _ _ h=>h,pO⟩
     rcases wu hk with⟨_,h⟩|⟨_,h⟩
     ·exact F.eD _ _ _ h
     ·exact hR.2.1 _ _ _ h
  ·cases hx
 ·rename_i n s lo len
  split at hx
  ·rename_i gr m' rs vS hn
   split at hx
   ·rename_i hc
    obtain⟨rfl,rfl,hl⟩:=hc
    have bS:σ1.h n≠none:=by rw[hn];simp
    have hr:=H.row n gr m' s vS hn
    have gI:jO (G.g n) s lo len v:=(hv.fS (by simp)).1 bS
    obtain⟨q1,q2,q3,q4⟩:=Gr hr gI hl
    have PF:∃ya c,lp (G.g n) s lo len v=.list s ya c (((G.g n).px.drop lo).take len):=by
     rcases gI with⟨_,rfl,_,_⟩|⟨_,a',rfl,_,_⟩<;>exact⟨_,_,rfl⟩
    obtain⟨ya,c,PF⟩:=PF
    rw[PF] at q1 q2 q3 q4
    have hR:wh w s (((G.g n).px.drop lo).take len) v:=by rw[<-q2];exact wh.ach q3
    have sq:(vS.drop lo).take len=(((G.g n).px.drop lo).take len).map (fun e=>e.map PC.er):=by rw[PC.dR] at q1;injection q1 with _ q1;exact q1.symm
    have pO:∀b,aZ b (((G.g n).px.drop lo).take len)->∀b',¬G.Im b'->(∀q gr mo aJ au,σ1.h q=some (.row gr mo aJ au)->¬aZ b' (G.g q).px)->b≠b':=by
     rintro b ⟨k,j,c,hk,hb⟩ b' _ be rfl
     exact be n gr m' s vS hn ⟨_,_,_,(pC hk).1,hb⟩
    split at hx
    ·rename_i tA
     injection hx with hx
     injection hx with h1 h2
     injection h2 with h2 h3
     subst h1 h2 h3
     have aaF:=(Bool.and_eq_true _ _▸tA).2
     rw[sq] at aaF
     exact⟨_,sq,hR,F.X0 hR.1 hR.2.1 (Di aaF),H,bf.refl _ _ _ _,rfl,rfl,fun _ _ h=>h,pO⟩
    ·split at hx
     ·rename_i aiY
      obtain⟨rfl,rfl⟩:=aiY
      have fZ:((G.g n).px.drop 0).take vS.length=(G.g n).px:=by
       have:vS.length=(G.g n).px.length:=by rw[hr.er];simp
       rw[this];simp
      rw[fZ] at hR pO
      have F2:=mg.Ta H hn
      have F1:=F.del n
      have ie:∀k j c,At (px++(G.g n).px) k j c->Good w c:=fun k j c hk=>by
       rcases wu hk with⟨_,h⟩|⟨_,h⟩
       ·exact F.eD _ _ _ h
       ·exact F2.eD _ _ _ h
      have hlen:∀e∈px++(G.g n).px,e.length=s:=fun e he=>(List.mem_append.1 he).elim (F.len e) (F2.len e)
      split at hx
      ·rename_i dd
       subst dd
       injection hx with hx
       injection hx with h1 h2
       injection h2 with h2 h3
       subst h1 h2 h3
       refine⟨(G.g n).px,hr.er,hR,⟨hlen,ie,?_,fun hm q bo mo aJ au hq jz b hb=>?_,fun hm b hb q hq hl=>?_⟩,H.del n,bf.del n _,rfl,rfl,fun q b hq=>(qH hq).1,pO⟩
       ·have m1:=F.mode
        have m3:=F2.mode
        cases m with
        |aG=>exact fun b hb=>(vE hb).elim (m1 b) (m3 b)
        |ae=>exact⟨fun b hb=>(vE hb).elim (m1.1 b) (m3.1 b),Lf m1.2 m3.2 (fun b hb=>F.fV (by simp) n gr .ae s vS hn (by simp) b hb)⟩
        |live=>exact⟨fun b hb=>(vE hb).elim (m1.1 b) (m3.1 b),Lf m1.2 m3.2 (fun b hb=>F.fV (by simp) n gr .live s vS hn (by simp) b hb)⟩
       ·exact(vE hb).elim (F1.fV hm q bo mo aJ au hq jz b) (F2.fV hm q bo mo aJ au hq jz b)
       ·exact(vE hb).elim (fun h=>F1.live hm b h q hq hl) (fun h=>F2.live hm b h q hq hl)
      ·split at hx
       ·cases hx
       ·rename_i aN
        injection hx with hx
        injection hx with h1 h2
        injection h2 with h2 h3
        subst h1 h2 h3
        refine⟨(G.g n).px,hr.er,hR,⟨hlen,ie,fun b hb=>(vE hb).elim (F.W9 (fun h=>aN (.inl h)) b) (F2.W9 (fun h=>aN (.inr h)) b),fun h=>absurd rfl h,fun h=>by cases h⟩,H.del n,bf.del n _,rfl,rfl,fun q b hq=>(qH hq).1,pO⟩
     ·cases hx
   ·cases hx
  ·cases hx
 ·cases hx
theorem agA (r:R B E w0 N σ a w G) {n:Nat} {t e:TypeId} {i:TypeInfo} {z:Value} {x y:Operand} {mx my:MO} {fl:Bool} {sz by_:Nat} {xs ys:List (List C)} {m m2:Mode} {σ1 σ2 g9:St}
  (ho:o.op=.call {callee:=.builtin .append,args:=#[x,y],argTypes:=#[t,t]}) (hd:o.dst=some n) (hN:n<N) (iy:bF x mx=true) (ku:bF y my=true)
  (ht:P.underlying t=some (.slice e)) (hi:P.info? e=some i) (hz:i.zero=some z) (bP:i.size=sz) (jB:0<sz) (oN:i.bytes=by_) (y6:0<by_) (sr:z.cells.size=sz)
  (hl:qz σ sz (σ.ev mx)=some (xs,m,σ1)) (hr:mq fl σ1 sz m (σ.ev my)=some (ys,m2,σ2)) (hb:(xs.length+ys.length)*by_<=eQ)
  (hx:σ2.ins n (.row true m2 sz (xs++ys))=some g9):
  o.wp P a w (Nx B E w0 N (g9.put o.dst (.one (.sl n sz 0 (xs.length+ys.length))))) Q:=by
 obtain⟨hn,rfl⟩:=mN hx
 obtain⟨x1,x2⟩:=r.ev iy
 obtain⟨y1,y2⟩:=r.ev ku
 obtain⟨px,e1,F1,L1,H1,K1,q1,q2,q3⟩:=amG r x1 hl
 have y1':RA w G σ1.h (σ.ev my) (a.eval y):=y1.ft K1 y2
 rw[<-q2] at H1
 obtain⟨py,e2,R2,F2,H2,K2,p1,p2,p3,pO⟩:=aqW jB H1 F1 y1' hr
 rw[q2] at H2
 have oS:xs.length=px.length:=by rw[e1];simp
 have Ct:ys.length=py.length:=by rw[e2];simp
 have L2:ym B E w G σ2.h sz m px (a.eval x):=by
  rcases L1 with h|⟨b,o,cap,cur,e',b1,b2,b3,b4,b5,b6,⟨l1,l2,l3⟩,b8,b9⟩
  ·exact .inl h
  ·refine .inr ⟨b,o,cap,cur,e',b1,b2,b3,b4,b5,b6,⟨l1,fun q hq=>?_,fun q gr mo aJ au hq=>l3 q gr mo aJ au (p3 q _ hq)⟩,b8,b9⟩
   cases hh:σ2.h q with
   |none=>exact absurd hh hq
   |some bb=>exact l2 q (by rw[p3 q bb hh];simp)
 obtain⟨u,w',G',bY,r',hv⟩:=r.afi (P:=P) (σ2:=σ2) (n:=n) (m:=m) (m2:=m2) (px:=px) (py:=py) (ty:=o.type) (p1.trans q1) (p2.trans q2) H2 (bf.trans (u2:=fun n=>σ1.used n=true) (fun q hq=>by rw[q2];exact hq) K1 K2)
  (by rw[<-q2,<-p2];exact hn) jB F2 F1.len L2 R2 (fun b cR b' o' cap eR vh aay=>by
   rcases L1 with⟨_,h,_⟩|⟨b0,o0,ww,cur,e',b1,b2,b3,b4,b5,b6,⟨l1,l2,l3⟩,b8,b9⟩
   ·rw[h] at vh;injection vh with _ _ vh;omega
   ·rw[b1] at vh
    injection vh with vh
    injection vh with vh
    have B3:=(nG vh).1
    subst B3
    exact pO b cR b0 l1 l3) ht hi hz bP oN y6 sr (by rw[<-oS,<-Ct];exact hb)
 have Ca:(px++py).map (fun e=>e.map PC.er)=xs++ys:=by rw[List.map_append,<-e1,<-e2]
 rw[Ca] at r' hv
 rw[<-oS,<-Ct] at hv
 refine oC (v:=u) (w':=w') ?_ ⟨G',r'.put hv (fun q hq=>by have d9:q=n:=hq;subst d9;exact bN _ _ _) (fun q hq=>by rw[hd] at hq;injection hq with hq;omega)⟩
 simp[execOp,ho,resolve,invoke,builtin,bY]
end
end Go.Am
