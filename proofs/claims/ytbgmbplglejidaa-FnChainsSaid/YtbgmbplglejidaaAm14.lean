/- Am14: append. No condition. -/
import Derived.Test.YtbgmbplglejidaaAm13
set_option linter.unusedVariables false
namespace Go.Am
theorem vA {α:Type} {px py:List (List α)} {k j:Nat} {c:α} (h:At (px++py) k j c):(k<px.length/\At px k j c)\/(px.length<=k/\At py (k - px.length) j c):=by
 obtain⟨e,he,hj⟩:=h
 rcases Nat.lt_or_ge k px.length with hk|hk
 ·rw[List.getElem?_append_left hk] at he;exact .inl ⟨hk,e,he,hj⟩
 ·rw[List.getElem?_append_right hk] at he;exact .inr ⟨hk,e,he,hj⟩
theorem uW {b:Nat} {px py:List (List PC)} (h:aV b (px++py)):aV b px\/aV b py:=by
 obtain⟨k,j,c,hk,hb⟩:=h
 rcases vA hk with⟨_,h1⟩|⟨_,h1⟩
 ·exact .inl ⟨_,_,_,h1,hb⟩
 ·exact .inr ⟨_,_,_,h1,hb⟩
theorem JR {px py:List (List PC)} (h1:ij px) (h2:ij py) (h3:∀b,aV b px->¬aV b py):ij (px++py):=by
 refine⟨fun k j c hk=>?_,fun k j c k' j' c' b hk cW aB hb aY=>?_⟩
 ·rcases vA hk with⟨_,h⟩|⟨_,h⟩
  ·exact h1.1 _ _ _ h
  ·exact h2.1 _ _ _ h
 ·rcases vA hk with⟨q,h⟩|⟨q,h⟩<;>rcases vA cW with⟨q',h'⟩|⟨q',h'⟩
  ·exact h1.2 _ _ _ _ _ _ b h h' aB hb aY
  ·exact h3 b ⟨_,_,_,h,hb⟩ ⟨_,_,_,h',aY⟩
  ·exact h3 b ⟨_,_,_,h',aY⟩ ⟨_,_,_,h,hb⟩
  ·refine h2.2 _ _ _ _ _ _ b h h' (fun e=>aB ?_) hb aY
   injection e with e1 e2
   rw[show k=k' by omega,e2]
section
variable {B:Nat} {E:Ex} {w0 w w':World} {G G':Gh} {h h':Nat->Option ao} {used used':Nat->Bool} {tk:List PC} {N:Nat}
variable {P:Program} {o:Oper} {a:Act} {σ σ':St} {Q:Exit->Act->World->Prop}
theorem B6 {py:List (List PC)} (hs:fZ (py.map fun e=>e.map PC.er)=true) (b:Nat):¬aV b py:=by
 rintro⟨k,j,c,⟨e,he,hj⟩,hb⟩
 have h1:e.map PC.er∈py.map fun e=>e.map PC.er:=List.mem_map_of_mem (f:=fun e=>e.map PC.er) (List.mem_of_getElem? he)
 have h2:=List.all_eq_true.1 hs _ h1
 have h3:=List.all_eq_true.1 h2 c.er (List.mem_map_of_mem (List.mem_of_getElem? hj))
 exact(Sep.kP (pc:=c) h3).2 b hb
structure lc (B:Nat) (E:Ex) (w:World) (G:Gh) (h:Nat->Option ao) (sz:Nat) (m:Mode) (px:List (List PC)):Prop where
 len:∀e∈px,e.length=sz
 eu:∀k j c,At px k j c->Good w c
 mode:CJ B E w G px m
 fJ:m≠ .aD->∀n gr m' aJ aq,h n=some (.row gr m' aJ aq)->m'≠ .aD->∀b,aV b px->¬aV b (G.g n).px
 live:m=.live->∀b,aV b px->∀n,h n≠none->(G.g n).nl=false->b≠(G.g n).b
theorem lc.V6 {m:Mode} {sz:Nat} {px py:List (List PC)} (F:lc B E w G h sz m px) (hl:∀e∈py,e.length=sz) (hg:∀k j c,At py k j c->Good w c) (ca:∀b,¬aV b py):lc B E w G h sz m (px++py):=by
 have eR:∀b,aV b (px++py)->aV b px:=fun b hb=>(uW hb).resolve_right (ca b)
 refine⟨fun e he=>(List.mem_append.1 he).elim (F.len e) (hl e),fun k j c hk=>?_,?_,fun hm n gr m' aJ aq hn bJ b hb=>F.fJ hm n gr m' aJ aq hn bJ b (eR b hb),fun hm b hb=>F.live hm b (eR b hb)⟩
 ·rcases vA hk with⟨_,h⟩|⟨_,h⟩
  ·exact F.eu _ _ _ h
  ·exact hg _ _ _ h
 ·have kc:ij py:=⟨fun k j c hk=>Sep.EB (fun b hb=>ca b ⟨k,j,c,hk,hb⟩) (hg k j c hk),fun k j c k' j' c' b hk _ _ hb=>absurd ⟨k,j,c,hk,hb⟩ (ca b)⟩
  have hm:=F.mode
  cases m with
  |aD=>exact fun b hb=>hm b (eR b hb)
  |ae=>exact⟨fun b hb=>hm.1 b (eR b hb),JR hm.2 kc (fun b _=>ca b)⟩
  |live=>exact⟨fun b hb=>hm.1 b (eR b hb),JR hm.2 kc (fun b _=>ca b)⟩
theorem lc.Ra (H:HR B E w G h used []) {n:Nat} {gr:Bool} {m:Mode} {sz:Nat} {xs:List (List C)} (hn:h n=some (.row gr m sz xs)):lc B E w G (au h n none) sz m (G.g n).px:=by
 have hr:=H.row n gr m sz xs hn
 have aL:(G.g n).px≠[]->(G.g n).nl=false:=fun aB=>by
  cases hq:(G.g n).nl with
  |false=>rfl
  |true=>exact absurd (hr.nl hq).1 aB
 refine⟨fun e he=>(hr.dR (aL (List.ne_nil_of_mem he))).2.1.1 e he,fun k j c hk=>?_,hr.mode,fun hm q bk m' aJ aq hq bJ b hb=>?_,fun hm b hb q hq hl=>?_⟩
 ·have aB:(G.g n).px≠[]:=by obtain⟨e,he,_⟩:=hk;exact List.ne_nil_of_mem (List.mem_of_getElem? he)
  exact(hr.dR (aL aB)).2.1.2.2 k j c hk
 ·obtain⟨q1,q2⟩:=pT hq
  exact H.fJ n q gr m sz xs bk m' aJ aq hn q1 hm bJ (Ne.symm q2) b hb
 ·subst hm
  obtain⟨q1,q2⟩:=Ax hq
  exact H.live n gr sz xs hn b hb q q1 hl
theorem lc.del {m:Mode} {sz:Nat} {px:List (List PC)} (F:lc B E w G h sz m px) (n:Nat):lc B E w G (au h n none) sz m px:=
 ⟨F.len,F.eu,F.mode,fun hm q gr m' aJ aq hq bJ=>F.fJ hm q gr m' aJ aq (pT hq).1 bJ,fun hm b hb q hq=>F.live hm b hb q (Ax hq).1⟩
theorem lc.Vg {m:Mode} {sz:Nat} {px:List (List PC)} (F:lc B E w G h sz m px) (hm:m≠ .live):∀b,aV b px->G.Im b:=by
 intro b hb
 have:=F.mode
 cases m with
 |aD=>exact this b hb
 |ae=>exact(this.1 b hb).1
 |live=>exact absurd rfl hm
def xz (B:Nat) (E:Ex) (w:World) (G:Gh) (h:Nat->Option ao) (sz:Nat) (m:Mode) (px:List (List PC)) (v:Value):Prop:=
 (∃a,v=.slice a 0 0/\px=[])\/
 ∃b o cap cur e,v=.slice (some (ad b o)) px.length cap/\w.heap[b]? =some (.cells cur e (0,0))/\cur.size=o+cap*sz/\cap<=maxLen/\px.length<=cap/\oD w b o sz px/\
  oC G h b/\(B<=b\/E b)/\(∀b',aV b' px->b'≠b)
theorem xz.del {m:Mode} {sz:Nat} {px:List (List PC)} {v:Value} (L:xz B E w G h sz m px v) (n:Nat):xz B E w G (au h n none) sz m px v:=by
 rcases L with h1|⟨b,o,cap,cur,e,a1,a2,a3,a4,a5,a6,⟨l1,l2,l3⟩,a8,a9⟩
 ·exact .inl h1
 ·exact .inr ⟨b,o,cap,cur,e,a1,a2,a3,a4,a5,a6,⟨l1,fun q hq=>l2 q (Ax hq).1,fun q gr m sz xs hq=>l3 q gr m sz xs (pT hq).1⟩,a8,a9⟩
theorem MJ {px:List (List PC)} {sz:Nat} (hl:∀e∈px,e.length=sz):(px.flatten.map PC.val).length=px.length*sz:=by
 induction px with
 |nil=>simp
 |cons e px ih=>
  have:=ih (fun e he=>hl e (by simp[he]))
  simp only[List.flatten_cons,List.map_append,List.length_append,List.length_cons,Nat.add_mul,this,List.length_map] at*
  rw[hl e (by simp)]
  omega
theorem MI {α:Type} {sz:Nat} (bD:0<sz):∀{px:List (List α)} (_:∀e∈px,e.length=sz) {i:Nat} {c:α},px.flatten[i]? =some c->∃k j,At px k j c/\i=k*sz+j
 |[],_,i,c,hi=>by simp at hi
 |e::px,hl,i,c,hi=>by
  have h0:=hl e (by simp)
  simp only[List.flatten_cons] at hi
  rcases Nat.lt_or_ge i e.length with bG|DO
  ·rw[List.getElem?_append_left bG] at hi
   exact⟨0,i,⟨e,rfl,hi⟩,by omega⟩
  ·rw[List.getElem?_append_right DO] at hi
   obtain⟨k,j,⟨e',he,hj⟩,hk⟩:=MI bD (px:=px) (fun e he=>hl e (by simp[he])) hi
   exact⟨k+1,j,⟨e',by simpa using he,hj⟩,by rw[Nat.add_mul];omega⟩
theorem anR {t ty e e':TypeId} {i:TypeInfo} (ht:P.underlying t=some (.slice e)) (hi:P.info? e=some i)
  (g og wW S0:Nat) (cur:Array Value) (hg:w.heap[g]? =some (.cells cur e' (0,0)))
  (a:Addr) (m c:Nat) (fQ:List Value) (hl:fQ.length=m*i.size) (sK:∀j u,fQ[j]? =some u->w.cell? (a.add j)=some u) (h1:∀u∈fQ,u.oneCell'=true)
  (D3:wW+m<=S0) (gh:og+wW*i.size+fQ.length<=cur.size):
  (Builtin.append_ #[t,t] ty #[.slice (some (ad g og)) wW S0,.slice (some a) m c]).run P w=.ok (.slice (some (ad g og)) (wW+m) S0) (eO w g (og+wW*i.size) fQ cur):=by
 have hf:=run_firstCells_some (P:=P) w i.size m a m c fQ hl sK
 have ed:=run_storeCells_at P g (og+wW*i.size) e' fQ 0 cur w hg (by simpa using gh) h1
 simp only[Nat.add_zero] at ed
 have ha:(ad g og).add (wW*i.size)=⟨g,og+wW*i.size,none⟩:=by rw[nJ];simp[ad]
 simp[Builtin.append_,run_underlying ht,sizeOf,typeInfo,hi,Builtin.lenOf,D3,hf,ha,ed,eO]
theorem anQ (w:World) {t e:TypeId} {i:TypeInfo} {z:Value} {ty:TypeId} {sz by_:Nat} (ht:P.underlying t=some (.slice e)) (hi:P.info? e=some i) (hz:i.zero=some z) (bD:i.size=sz) (jb:0<sz) (nU:i.bytes=by_) (yc:0<by_)
  {m:Mode} {px:List (List PC)} {v:Value} (fK:∀e∈px,e.length=sz) (L:xz B E w G h sz m px v) {fQ:List Value} {k c:Nat} {ya:Option Addr} (aL:fQ.length=k*sz)
  (hy:(ya=none/\k=0)\/∃ay,ya=some ay/\∀(j:Nat) (u:Value),fQ[j]? =some u->w.cell? (ay.add j)=some u) (h1:∀u∈fQ,u.oneCell'=true) (hb:(px.length+k)*by_<=dF):
  (∃a,k=0/\v=.slice a 0 0/\px=[]/\(Builtin.append_ #[t,t] ty #[v,.slice ya k c]).run P w=.ok (.slice a 0 0) w)\/
  (∃b o cap cur e',v=.slice (some (ad b o)) px.length cap/\w.heap[b]? =some (.cells cur e' (0,0))/\cur.size=o+cap*sz/\cap<=maxLen/\px.length+k<=cap/\oD w b o sz px/\oC G h b/\(B<=b\/E b)/\(∀b',aV b' px->b'≠b)/\
   (Builtin.append_ #[t,t] ty #[v,.slice ya k c]).run P w=.ok (.slice (some (ad b o)) (px.length+k) cap) (eO w b (o+px.length*sz) fQ cur))\/
  (∃(cap:Nat) (arr:Array Value),px.length+k<=cap/\cap<=maxLen/\arr.size=cap*z.cells.size+(px.length+k)*sz - (px.length+k)*z.cells.size/\(∀(q:Nat) (u:Value),(px.flatten.map PC.val++fQ)[q]? =some u->arr[q]? =some u)/\
   (Builtin.append_ #[t,t] ty #[v,.slice ya k c]).run P w=.ok (.slice (some (ad w.heap.size 0)) (px.length+k) cap) (w.drew.alloc (.cells arr e))):=by
 have yp:px.length+k<=dF:=Nat.le_trans (Nat.le_mul_of_pos_right _ yc) hb
 have gZ:(dF:Nat)=140737488355328:=rfl
 have N3:∀fq,grownCap w (px.length+k) fq e<=maxLen:=fun fq=>grownCap_le_maxLen w _ fq e (by simp only[maxLen];omega)
 have Y1:=MJ fK
 have tW:∀fq,((px.flatten.map PC.val).toArray++fQ.toArray++Builtin.zeroCells z.cells (grownCap w (px.length+k) fq e - (px.length+k))).size=grownCap w (px.length+k) fq e*z.cells.size+(px.length+k)*sz - (px.length+k)*z.cells.size:=by
  intro fq
  have DO:=grownCap_ge w (px.length+k) fq e
  have h2:(px.length+k)*z.cells.size<=grownCap w (px.length+k) fq e*z.cells.size:=Nat.mul_le_mul_right _ DO
  simp only[Array.size_append,List.size_toArray,size_zeroCells,Y1,aL,Nat.sub_mul,Nat.add_mul] at*
  omega
 have ni:∀fq (q:Nat) (u:Value),(px.flatten.map PC.val++fQ)[q]? =some u->((px.flatten.map PC.val).toArray++fQ.toArray++Builtin.zeroCells z.cells (grownCap w (px.length+k) fq e - (px.length+k)))[q]? =some u:=by
  intro fq q u hq
  have OK:=(List.getElem?_eq_some_iff.1 hq).1
  rw[Array.getElem?_append_left (by simp only[Array.size_append,List.size_toArray];simpa using OK)]
  simpa using hq
 rcases L with⟨a,rfl,rfl⟩|⟨b,o,cap,cur,e',rfl,a2,a3,a4,a5,a6,a7,a8,a9⟩
 ·by_cases hk:k=0
  ·subst hk
   left
   have hn:fQ=[]:=List.eq_nil_of_length_eq_zero (by simpa using aL)
   refine⟨a,rfl,rfl,rfl,?_⟩
   cases ya<;>cases a<;>simp[Builtin.append_,run_underlying ht,sizeOf,typeInfo,hi,Builtin.lenOf,Builtin.firstCells,loadCells,loadCellsFrom,storeCells]
  ·rcases hy with⟨_,h0⟩|⟨ay,rfl,sK⟩
   ·exact absurd h0 hk
   right;right
   cases a with
   |none=>
    have hr:=run_append_nil (P:=P) w t ty e i z ht hi hz ay k c fQ (by rw[bD];exact aL) sK (by omega) (by simp only[List.length_nil,Nat.zero_add] at yp;omega) (by rw[nU];simp only[List.length_nil,Nat.zero_add] at hb;omega)
    have h3:=tW 0
    have h4:=ni 0
    have h5:=N3 0
    simp only[List.length_nil,Nat.zero_add,List.flatten_nil,List.map_nil,List.nil_append] at h3 h4 h5⊢
    exact⟨grownCap w k 0 e,fQ.toArray++Builtin.zeroCells z.cells (grownCap w k 0 e - k),grownCap_ge w k 0 e,h5,by simpa using h3,fun q u hq=>by simpa using h4 q u hq,hr⟩
   |some a=>
    have hr:=run_append_grow (P:=P) w t ty e i z ht hi hz a 0 0 [] (by simp) (fun q u hq=>by simp at hq) ay k c fQ (by rw[bD];exact aL) sK (by omega) (by simp only[List.length_nil,Nat.zero_add] at yp;omega) (growslice_fits (by simp only[List.length_nil,Nat.zero_add] at yp;omega) (by rw[nU,Nat.zero_add];rw[List.length_nil,Nat.zero_add] at hb;exact hb))
    have h3:=tW 0
    have h4:=ni 0
    have h5:=N3 0
    simp only[List.length_nil,Nat.zero_add,List.flatten_nil,List.map_nil,List.nil_append] at h3 h4 h5 hr⊢
    exact⟨_,_,grownCap_ge w k 0 e,h5,by simpa using h3,fun q u hq=>by simpa using h4 q u hq,hr⟩
 ·by_cases D3:px.length+k<=cap
  ·right;left
   refine⟨b,o,cap,cur,e',rfl,a2,a3,a4,D3,a6,a7,a8,a9,?_⟩
   rcases hy with⟨rfl,rfl⟩|⟨ay,rfl,sK⟩
   ·have hn:fQ=[]:=List.eq_nil_of_length_eq_zero (by simpa using aL)
    subst hn
    have ahB:eO w b (o+px.length*sz) [] cur=w:=by
     unfold eO
     simp only[List.append_nil,List.length_nil,Nat.add_zero,List.take_append_drop,Array.toArray_toList]
     exact setRow_self w b cur e' (0,0) a2
    rw[ahB]
    simp[Builtin.append_,run_underlying ht,sizeOf,typeInfo,hi,Builtin.lenOf,Builtin.firstCells,a5,storeCells]
   ·have hr:=anR (P:=P) (w:=w) (ty:=ty) ht hi b o px.length cap cur a2 ay k c fQ (by rw[bD];exact aL) sK h1 D3 (by
     rw[bD,aL,a3,Nat.add_assoc,<-Nat.add_mul];exact Nat.add_le_add_left (Nat.mul_le_mul_right _ D3) _)
    rw[bD] at hr
    exact hr
  ·rcases hy with⟨_,rfl⟩|⟨ay,rfl,sK⟩
   ·omega
   right;right
   have hr:=run_append_grow (P:=P) w t ty e i z ht hi hz (ad b o) px.length cap (px.flatten.map PC.val) (by rw[bD];exact Y1) (fun q u hq=>by
    rw[List.getElem?_map] at hq
    cases hf:px.flatten[q]? with
    |none=>rw[hf] at hq;cases hq
    |some pc=>
     rw[hf] at hq
     simp at hq
     subst hq
     obtain⟨k',j',mC,rfl⟩:=MI jb fK hf
     rw[nJ,<-Nat.add_assoc]
     exact a6.2.1 k' j' pc mC) ay k c fQ (by rw[bD];exact aL) sK (by omega) (by omega) (growslice_fits (by omega) (by rw[nU];exact hb))
   exact⟨_,_,grownCap_ge w _ _ _,N3 _,tW _,ni _,hr⟩
def vq (w:World) (sz:Nat) (py:List (List PC)) (v:Value):Prop:=
 (∀e∈py,e.length=sz)/\(∀k j c,At py k j c->Good w c)/\
 ∃ya c,v=.slice ya py.length c/\((ya=none/\py.length=0)\/∃ay,ya=some ay/\∀(j:Nat) (u:Value),(py.flatten.map PC.val)[j]? =some u->w.cell? (ay.add j)=some u)
theorem vq.aaE {sz:Nat} {ya:Option Addr} {c:Nat} {py:List (List PC)} (hg:Good w (.list sz ya c py)):vq w sz py (.slice ya py.length c):=by
 cases hg with
 |nil _ _ _ h=>
  refine⟨by simp,by rintro k j c ⟨e,he,_⟩;simp at he,ya,c,rfl,?_⟩
  cases ya with
  |none=>exact .inl ⟨rfl,rfl⟩
  |some ay=>exact .inr ⟨ay,rfl,by simp⟩
 |cons _ b o _ _ h1 h2 h3 h4 h5 h6=>
  refine⟨h4,h6,_,c,rfl,.inr ⟨_,rfl,fun j u hj=>?_⟩⟩
  rw[List.getElem?_map] at hj
  cases hf:py.flatten[j]? with
  |none=>rw[hf] at hj;cases hj
  |some pc=>
   rw[hf] at hj
   simp at hj
   subst hj
   obtain⟨k',j',mC,rfl⟩:=MI h3 h4 hf
   rw[nJ,<-Nat.add_assoc]
   exact h5 k' j' pc mC
theorem R.adx (r:R B E w0 N σ a w G) {σ2:St} (yh:σ2.env=σ.env) (lG:σ2.used=σ.used) (H:HR B E w G σ2.h σ.used []) (K:bc w G σ.h (fun n=>σ.used n=true) w G σ2.h)
  {n:Nat} {sz by_:Nat} {m m2:Mode} {px py:List (List PC)} {v yv:Value} (hn:σ.used n=false) (jb:0<sz) (F:lc B E w G σ2.h sz m2 (px++py)) (fK:∀e∈px,e.length=sz) (L:xz B E w G σ2.h sz m px v) (Ry:vq w sz py yv)
  (OB:∀b,aV b py->∀b' o cap,0<cap->v=.slice (some (ad b' o)) px.length cap->oC G σ2.h b'->b≠b')
  {t e:TypeId} {i:TypeInfo} {z:Value} {ty:TypeId} (ht:P.underlying t=some (.slice e)) (hi:P.info? e=some i) (hz:i.zero=some z) (bD:i.size=sz) (nU:i.bytes=by_) (yc:0<by_) (rF:z.cells.size=sz)
  (hb:(px.length+py.length)*by_<=dF):
  ∃u w' G',(Builtin.append_ #[t,t] ty #[v,yv]).run P w=.ok u w'/\
   R B E w0 N {σ2 with h:=au σ2.h n (some (.row true m2 sz ((px++py).map fun e=>e.map PC.er))),used:=au σ2.used n true} a w' G'/\
   RA w' G' (au σ2.h n (some (.row true m2 sz ((px++py).map fun e=>e.map PC.er)))) (.one (.sl n sz 0 (px.length+py.length))) u:=by
 obtain⟨r1,r2,ya,c,rfl,r3⟩:=Ry
 have aL:(py.flatten.map PC.val).length=py.length*sz:=MJ r1
 have h1:∀u∈py.flatten.map PC.val,u.oneCell'=true:=fun u hu=>by obtain⟨pc,_,rfl⟩:=List.mem_map.1 hu;exact PC.kw pc
 have hB:=r.fr.size
 have YW:(px++py).length=px.length+py.length:=by simp
 have Oa:σ2.h n=none:=by
  cases hh:σ2.h n with
  |none=>rfl
  |some b=>have:=H.iG n (by rw[hh];simp);rw[hn] at this;cases this
 have ne:∀q,σ.used q=true->q≠n:=fun q hq e=>by subst e;rw[hn] at hq;cases hq
 have aB:∀q,σ2.h q≠none->q≠n:=fun q hq e=>by subst e;exact hq Oa
 rcases anQ (P:=P) w (ty:=ty) ht hi hz bD jb nU yc fK L aL r3 h1 hb with⟨a0,k0,rfl,rfl,bU⟩|⟨b,ob,cap,cur,e',rfl,b2,b3,b4,b5,b6,b7,b8,b9,bU⟩|⟨cap,arr,c1,c2,c3,c4,bU⟩
 ·
  have hpy:py=[]:=List.eq_nil_of_length_eq_zero k0
  subst hpy
  refine⟨_,w,⟨G.Im,au G.g n ⟨true,0,0,0,[],a0⟩⟩,bU,?_,?_⟩
  ·refine r.step (σ':=_) yh (fun q hq=>by show au σ2.used n true q=true;rw[lG];exact qR n q hq) (bc.trans (u2:=fun n=>σ.used n=true) (fun _ h=>h) K (bc.insert H (blk:=.row true m2 sz []) (p:=⟨true,0,0,0,[],a0⟩) hn (fun _ _=>rfl))) ?_ r.fr
   show HR B E w _ (au σ2.h n (some (.row true m2 sz []))) (au σ2.used n true) []
   rw[lG]
   have ca:∀b,¬aV b ([]:List (List PC)):=by rintro b ⟨k,j,c,⟨e,he,_⟩,_⟩;simp at he
   refine H.insert (p:=⟨true,0,0,0,[],a0⟩) hn (fun _ _=>rfl) (Nat.le_refl _) (fun h=>by cases h) (fun cs c m hb=>by cases hb) ⟨jb,rfl,fun _=>⟨rfl,fun _=>rfl⟩,(fun h=>by cases h),(fun h=>by cases h),?_⟩
    (fun gr m sz xs _ _ n' bk m' aJ aq _ _ b hb=>absurd hb (ca b)) (fun gr sz xs _ b hb=>absurd hb (ca b)) (fun gr m sz xs _ _ i pc b hi=>by simp at hi)
   have hm:=F.mode
   simp only[List.append_nil] at hm
   exact hm
  ·refine RA.ga rfl fun _=>.inl ?_
   simp[bF]
 ·
  have IU:(ob+px.length*sz)+(py.flatten.map PC.val).length<=cur.size:=by rw[aL,b3,Nat.add_assoc,<-Nat.add_mul];exact Nat.add_le_add_left (Nat.mul_le_mul_right _ b5) _
  let w2:=eO w b (ob+px.length*sz) (py.flatten.map PC.val) cur
  have dN:∀x,x≠b->w2.heap[x]? =w.heap[x]? :=fun x hx=>zx x hx
  have IA:∀x,G.Im x->x≠b:=fun x hx he=>b7.1 (he▸hx)
  have uu:∀x,dD w x->dD w2 x:=fun x hx=>KJ b2 IU x hx
  have Y0:∀x,aV x (px++py)->x≠b:=fun x hx=>(uW hx).elim (b9 x) (fun h=>OB x h b ob cap (by obtain⟨k,j,c,⟨e,he,_⟩,_⟩:=h;have:=(List.getElem?_eq_some_iff.1 he).1;omega) rfl b7)
  let p:PB:=⟨false,b,ob,cap,px++py,none⟩
  have K2:bc w G σ2.h (fun n=>σ.used n=true) w2 ⟨G.Im,au G.g n p⟩ (au σ2.h n (some (.row true m2 sz ((px++py).map fun e=>e.map PC.er)))):=by
   refine⟨fun _ h=>h,fun x hx o=>iF (dN x (IA x hx)) o,fun q hq h0=>?_,fun q gr aJ aq hq h0=>?_⟩
   ·rw[cq _ _ _ _ (ne q hq)] at h0
    simp only[cq _ _ _ _ (ne q hq)]
    exact⟨h0,trivial,trivial,trivial,trivial,trivial⟩
   ·rw[cq _ _ _ _ (ne q hq)] at h0
    simp only[cq _ _ _ _ (ne q hq)]
    exact⟨⟨gr,aq,h0⟩,fun k j pc h1 h2=>⟨pc,h1,rfl,h2⟩⟩
  have ag1:b<w.heap.size:=(Array.getElem?_eq_some_iff.1 b2).1
  have Hn:HR B E w2 ⟨G.Im,au G.g n p⟩ (au σ2.h n (some (.row true m2 sz ((px++py).map fun e=>e.map PC.er)))) (au σ.used n true) []:=by
   refine H.put (p:=p) (fun x _ hx=>dN x (hx rfl)) (by show w.heap.size<=w2.heap.size;rw[qS];exact Nat.le_refl _) (fun x _ hx=>uu x hx) (fun q hq=>qR n q hq) (bF _ _ _)
    (fun _=>⟨b7.1,b8,by show b<w2.heap.size;rw[qS];exact ag1⟩) (fun _ q hq h0 hl=>b7.2.1 q h0 hl) (fun _ q gr aJ aq hq h0 x hx he=>b7.2.2 q gr .live aJ aq h0 (by have II:x=b:=he;rw[<-II];exact hx))
    (fun cs c q hb=>by cases hb) K2 ?_ ?_ ?_ (fun gr m sz xs _ _ i pc b hi=>by simp at hi) (fun _ _ x hx he=>by obtain⟨q,gr,mo,aJ,aq,_,h0,hxF⟩:=hx;exact b7.2.2 q gr mo aJ aq h0 (by have II:x=b:=he;rw[<-II];exact hxF))
   ·refine⟨jb,rfl,(fun h=>by cases h),fun _=>⟨uu b ⟨cur,e',b2⟩,⟨F.len,fun k j c hk=>?_,fun k j c hk=>?_⟩,by show(px++py).length<=cap;rw[YW];exact b5⟩,fun _ _=>?_,?_⟩
    ·show w2.cell? (ad b (ob+k*sz+j))=some c.val
     rw[Cx b2 IU]
     have hf:=tE F.len hk
     rw[List.flatten_append] at hf
     have jv:px.flatten.length=px.length*sz:=by have:=MJ fK;rwa[List.length_map] at this
     rcases vA hk with⟨oT,cW⟩|⟨oT,cW⟩
     ·rw[if_neg ?_]
      ·exact b6.2.1 k j c cW
      ·rintro⟨q1,_⟩
       have hj:j<sz:=by obtain⟨e1,he,hj⟩:=cW;rw[<-fK e1 (List.mem_of_getElem? he)];exact(List.getElem?_eq_some_iff.1 hj).1
       have:(k+1)*sz<=px.length*sz:=Nat.mul_le_mul_right _ oT
       rw[Nat.add_mul] at this
       omega
     ·have DO:px.length*sz<=k*sz+j:=Nat.le_trans (Nat.mul_le_mul_right _ oT) (Nat.le_add_right _ _)
      have bG:=(List.getElem?_eq_some_iff.1 hf).1
      rw[List.length_append,jv] at bG
      rw[List.getElem?_append_right (by rw[jv];exact DO),jv] at hf
      rw[if_pos ⟨by omega,by simp only[List.length_map];omega⟩]
      rw[List.getElem?_map,show ob+k*sz+j - (ob+px.length*sz)=k*sz+j - px.length*sz by omega,hf]
      rfl
    ·exact(F.eu k j c hk).congr fun x hx o=>iF (dN x (Y0 x ⟨k,j,c,hk,hx⟩)) o
    ·obtain⟨jr,q1,q2⟩:=KI (vs:=py.flatten.map PC.val) (o:=ob+px.length*sz) b2 IU
     exact⟨b4,jr,e',q1,by rw[q2,b3]⟩
    ·have hm:=F.mode
     cases m2 with
     |aD=>exact hm
     |ae=>exact⟨fun x hx=>⟨(hm.1 x hx).1,uu x (hm.1 x hx).2.1,(hm.1 x hx).2.2⟩,hm.2⟩
     |live=>exact⟨fun x hx=>⟨(hm.1 x hx).1,uu x (hm.1 x hx).2.1,(hm.1 x hx).2.2⟩,hm.2⟩
   ·intro gr m' aJ aq hb gZ q bk mo jZ ii fD h0 iZ x hx
    injection hb with _ hb _ _
    subst hb
    exact F.fJ gZ q bk mo jZ ii h0 iZ x hx
   ·intro gr aJ aq hb x hx
    injection hb with _ hb _ _
    exact⟨fun _=>Y0 x hx,fun q _ h0 hl=>F.live hb x hx q h0 hl⟩
  refine⟨_,w2,⟨G.Im,au G.g n p⟩,bU,?_,?_⟩
  ·exact r.step (σ':=_) yh (fun q hq=>by show au σ2.used n true q=true;rw[lG];exact qR n q hq) (bc.trans (u2:=fun n=>σ.used n=true) (fun _ h=>h) K K2)
    (by show HR B E w2 _ _ (au σ2.used n true) [];rw[lG];exact Hn) (r.fr.one b8 (fun x hx OU=>dN x OU) (by show w.heap.size<=w2.heap.size;rw[qS];exact Nat.le_refl _) (Cy b2 IU) rfl rfl rfl)
  ·refine RA.ga rfl fun _=>.inr ⟨by simp[bF,p],some (ad b ob),?_,?_,?_⟩
   ·simp[bF,p]
   ·simp[bF,p];exact b5
   ·simp[bF,p]
 ·
  let w1:=w.drew
  have hd:∀x:Nat,x<w.heap.size->(w.drew.alloc (.cells arr e)).heap[x]? =w.heap[x]? :=fun x hx=>heap_alloc_old w.drew _ x hx
  have H1:HR B E w.drew G σ2.h σ.used []:=H.grow (w':=w.drew) (fun _ _=>rfl) (Nat.le_refl _)
  have r1:R B E w0 N σ a w.drew G:=r.step (w':=w.drew) rfl (fun _ h=>h) (bc.world (w:=w) (w':=w.drew) (fun _ _=>rfl) _) (r.hr.grow (w':=w.drew) (fun _ _=>rfl) (Nat.le_refl _)) (r.fr.grow (w':=w.drew) (fun _ _=>rfl) (Nat.le_refl _) rfl rfl rfl)
  have K1:bc w.drew G σ.h (fun n=>σ.used n=true) w.drew G σ2.h:=⟨K.im,fun _ _ _=>rfl,K.name,K.live⟩
  have gO:∀k j c,At (px++py) k j c->Good w.drew c:=fun k j c hk=>(F.eu k j c hk).congr fun _ _ _=>rfl
  have tW:∀k j c,At (px++py) k j c->arr[k*sz+j]? =some c.val:=fun k j c hk=>by
   have hf:=tE F.len hk
   refine c4 _ _ ?_
   rw[<-List.map_append,<-List.flatten_append,List.getElem?_map,hf]
   rfl
  have uo:arr.size=cap*sz:=by rw[c3,rF];omega
  have hB2:=r1.fr.size
  let p:PB:=⟨false,w.heap.size,0,cap,px++py,none⟩
  have hw:∀x:Nat,x<w.drew.heap.size->(w.drew.alloc (.cells arr e)).heap[x]? =w.drew.heap[x]? :=hd
  have Hn:HR B E (w.drew.alloc (.cells arr e)) ⟨G.Im,au G.g n p⟩ (au σ2.h n (some (.row true m2 sz ((px++py).map fun e=>e.map PC.er)))) (au σ.used n true) []:=by
   refine H1.insert (p:=p) hn hw (by simp) (fun _=>⟨H1.PO,.inl hB,by simp[p]⟩) (fun cs c m hb=>by cases hb) ?_ ?_ ?_ (fun gr m sz xs _ _ i pc b hi=>by simp at hi)
   ·refine⟨jb,rfl,(fun h=>by cases h),fun _=>⟨dD.alloc _ _ _,⟨F.len,fun k j c hk=>?_,fun k j c hk=>?_⟩,by show(px++py).length<=cap;rw[YW];exact c1⟩,fun _ _=>⟨c2,arr,e,heap_alloc_new w.drew _,(Nat.zero_add _).symm▸uo⟩,?_⟩
    ·show(w.drew.alloc (.cells arr e)).cell? (ad w.drew.heap.size (0+k*sz+j))=some c.val
     simp only[Nat.zero_add]
     unfold ad
     rw[World.cell?_alloc_new]
     exact tW k j c hk
    ·exact(gO k j c hk).congr fun x hx o=>iF (hw x ((gO k j c hk).lt hx)) o
    ·have hm:=F.mode
     have hu:∀x,dD w x->dD (w.drew.alloc (.cells arr e)) x:=fun x hx=>hx.congr (hd x hx.lt)
     cases m2 with
     |aD=>exact hm
     |ae=>exact⟨fun x hx=>⟨(hm.1 x hx).1,hu x (hm.1 x hx).2.1,(hm.1 x hx).2.2⟩,hm.2⟩
     |live=>exact⟨fun x hx=>⟨(hm.1 x hx).1,hu x (hm.1 x hx).2.1,(hm.1 x hx).2.2⟩,hm.2⟩
   ·intro gr m' aJ aq hb gZ q bk mo jZ ii h0 iZ x hx
    injection hb with _ hb _ _
    subst hb
    exact F.fJ gZ q bk mo jZ ii h0 iZ x hx
   ·intro gr aJ aq hb x hx
    injection hb with _ hb _ _
    refine⟨fun _=>?_,fun q h0 hl=>F.live hb x hx q h0 hl⟩
    obtain⟨k,j,c,hk,hxc⟩:=hx
    have:=(F.eu k j c hk).lt hxc
    show x≠w.heap.size
    omega
  refine⟨_,_,⟨G.Im,au G.g n p⟩,bU,?_,?_⟩
  ·exact r1.step (σ':=_) yh (fun q hq=>by show au σ2.used n true q=true;rw[lG];exact qR n q hq) (bc.trans (u2:=fun n=>σ.used n=true) (fun _ h=>h) K1 (bc.insert H1 hn hw))
    (by show HR B E _ _ _ (au σ2.used n true) [];rw[lG];exact Hn) (r1.fr.grow hw (by simp) rfl rfl rfl)
  ·refine RA.ga rfl fun _=>.inr ⟨by simp[bF,p],some (ad w.heap.size 0),?_,?_,?_⟩
   ·simp[bF,p]
   ·simp[bF,p];exact c1
   ·simp[bF,p]
theorem ajn (r:R B E w0 N σ a w G) {sz:Nat} {x:aj} {v:Value} {xs:List (List C)} {m:Mode} {σ1:St} (hv:RA w G σ.h x v) (hx:pP σ sz x=some (xs,m,σ1)):
  ∃px:List (List PC),xs=px.map (fun e=>e.map PC.er)/\lc B E w G σ1.h sz m px/\xz B E w G σ1.h sz m px v/\HR B E w G σ1.h σ.used []/\bc w G σ.h (fun n=>σ.used n=true) w G σ1.h/\σ1.env=σ.env/\σ1.used=σ.used/\
   (∀n b,σ1.h n=some b->σ.h n=some b):=by
 unfold pP at hx
 split at hx
 ·rename_i s
  injection hx with hx
  injection hx with h1 h2
  injection h2 with h2 h3
  subst h1 h2 h3
  have fE:v=.slice none 0 0:=(hv.fH (by simp)).1
  have ca:∀b,¬aV b ([]:List (List PC)):=by rintro b ⟨k,j,c,⟨e,he,_⟩,_⟩;simp at he
  exact⟨[],rfl,⟨by simp,by rintro k j c ⟨e,he,_⟩;simp at he,⟨fun b hb=>absurd hb (ca b),(by rintro k j c ⟨e,he,_⟩;simp at he),(by rintro k j c k' j' c' b ⟨e,he,_⟩;simp at he)⟩,fun _ _ _ _ _ _ _ _ b hb=>absurd hb (ca b),fun _ b hb=>absurd hb (ca b)⟩,
   .inl ⟨none,fE,rfl⟩,r.hr,bc.refl _ _ _ _,rfl,rfl,fun _ _ h=>h⟩
 ·rename_i n s len
  split at hx
  ·rename_i m0 rs kA hn
   split at hx
   ·rename_i hc
    obtain⟨rfl,rfl,rfl⟩:=hc
    injection hx with hx
    injection hx with h1 h2
    injection h2 with h2 h3
    subst h1 h2 h3
    have H:=r.hr
    have bM:σ.h n≠none:=by rw[hn];simp
    have hr:=H.row n true m0 s kA hn
    have gj:jq (G.g n) s 0 kA.length v:=(hv.fH (by simp)).1 bM
    have qh:kA.length=(G.g n).px.length:=by rw[hr.er];simp
    refine⟨(G.g n).px,hr.er,lc.Ra H hn,?_,H.del n,bc.del n _,rfl,rfl,fun q b hq=>(pT hq).1⟩
    rcases gj with⟨aL,fE,_,_⟩|⟨aL,a',fE,ju,ha⟩
    ·have g2:=(hr.nl aL).2 rfl
     exact .inl ⟨(G.g n).na,by rw[fE,g2],(hr.nl aL).1⟩
    ·right
     obtain⟨r2,cur,e,r3,r4⟩:=hr.room aL rfl
     obtain⟨l1,l2,l3⟩:=hr.dR aL
     obtain⟨o1,o2,o3⟩:=H.own n bM aL
     have oO:=ha (.inr rfl)
     refine⟨(G.g n).b,(G.g n).o,(G.g n).cap,cur,e,?_,r3,r4,r2,l3,l2,⟨o1,fun q hq hl=>?_,fun q gr m' aJ aq hq hb=>?_⟩,o2,fun b hb=>H.sC bM aL hn hb⟩
     ·rw[fE,oO,qh];simp
     ·obtain⟨q1,q2⟩:=Ax hq
      exact H.inj q n q1 bM q2 hl aL
     ·exact H.sC bM aL (pT hq).1 hb rfl
   ·cases hx
  ·cases hx
 ·cases hx
theorem anw {fl:Bool} {sz:Nat} {x:aj} {v:Value} {ys:List (List C)} {m m2:Mode} {σ1 σ2:St} {px:List (List PC)} (jb:0<sz) (H:HR B E w G σ1.h σ1.used []) (F:lc B E w G σ1.h sz m px) (hv:RA w G σ1.h x v)
  (hx:lm fl σ1 sz m x=some (ys,m2,σ2)):
  ∃py:List (List PC),ys=py.map (fun e=>e.map PC.er)/\vq w sz py v/\lc B E w G σ2.h sz m2 (px++py)/\HR B E w G σ2.h σ1.used []/\bc w G σ1.h (fun n=>σ1.used n=true) w G σ2.h/\σ2.env=σ1.env/\σ2.used=σ1.used/\
   (∀n b,σ2.h n=some b->σ1.h n=some b)/\(∀b,aV b py->∀b',¬G.Im b'->(∀q gr mo aJ aq,σ1.h q=some (.row gr mo aJ aq)->¬aV b' (G.g q).px)->b≠b'):=by
 unfold lm at hx
 have aho:∀b,¬aV b ([]:List (List PC)):=by rintro b ⟨k,j,c,⟨e,he,_⟩,_⟩;simp at he
 split at hx
 ·rename_i s
  injection hx with hx
  injection hx with h1 h2
  injection h2 with h2 h3
  subst h1 h2 h3
  have fE:v=.slice none 0 0:=(hv.fH (by simp)).1
  subst fE
  exact⟨[],rfl,⟨by simp,by rintro k j c ⟨e,he,_⟩;simp at he,none,0,rfl,.inl ⟨rfl,rfl⟩⟩,by simpa using F,H,bc.refl _ _ _ _,rfl,rfl,fun _ _ h=>h,fun b hb=>absurd hb (aho b)⟩
 ·rename_i s vf
  split at hx
  ·rename_i hs
   subst hs
   obtain⟨pc,e1,e2,e3,e4⟩:=hv.c
   have aZ:∃ya c py,pc=.list s ya c py/\py.map (fun e=>e.map PC.er)=vf:=by
    cases pc with
    |int k n=>simp[PC.er] at e1
    |bool b=>simp[PC.er] at e1
    |list s' ya c py=>rw[PC.dJ] at e1;injection e1 with e1 e5;subst e1;exact⟨ya,c,py,rfl,e5⟩
   obtain⟨ya,c,py,rfl,e5⟩:=aZ
   have hR:vq w s py v:=by rw[<-e2];exact vq.aaE e3
   have mA:∀b,aV b py->G.Im b:=fun b ⟨k,j,c,hk,hb⟩=>e4 b (.there _ _ _ _ k j c hk hb)
   have oQ:∀b,aV b py->∀b',¬G.Im b'->(∀q gr mo aJ aq,σ1.h q=some (.row gr mo aJ aq)->¬aV b' (G.g q).px)->b≠b':=fun b hb b' aY _ he=>aY (he▸mA b hb)
   split at hx
   ·rename_i sM
    injection hx with hx
    injection hx with h1 h2
    injection h2 with h2 h3
    subst h1 h2 h3
    replace sM:=(Bool.and_eq_true _ _▸sM).2
    rw[<-e5] at sM
    exact⟨py,e5.symm,hR,F.V6 hR.1 hR.2.1 (B6 sM),H,bc.refl _ _ _ _,rfl,rfl,fun _ _ h=>h,oQ⟩
   ·split at hx
    ·cases hx
    ·rename_i sH
     injection hx with hx
     injection hx with h1 h2
     injection h2 with h2 h3
     subst h1 h2 h3
     refine⟨py,e5.symm,hR,⟨fun e he=>(List.mem_append.1 he).elim (F.len e) (hR.1 e),fun k j c hk=>?_,fun b hb=>(uW hb).elim (F.Vg sH b) (mA b),fun h=>absurd rfl h,fun h=>by cases h⟩,H,bc.refl _ _ _ _,rfl,rfl,fun _ _ h=>h,oQ⟩
     rcases vA hk with⟨_,h⟩|⟨_,h⟩
     ·exact F.eu _ _ _ h
     ·exact hR.2.1 _ _ _ h
  ·cases hx
 ·rename_i n s lo len
  split at hx
  ·rename_i gr m' rs vf hn
   split at hx
   ·rename_i hc
    obtain⟨rfl,rfl,hl⟩:=hc
    have bM:σ1.h n≠none:=by rw[hn];simp
    have hr:=H.row n gr m' s vf hn
    have gj:jq (G.g n) s lo len v:=(hv.fH (by simp)).1 bM
    obtain⟨q1,q2,q3,q4⟩:=E3 hr gj hl
    have Oc:∃ya c,kt (G.g n) s lo len v=.list s ya c (((G.g n).px.drop lo).take len):=by
     rcases gj with⟨_,rfl,_,_⟩|⟨_,a',rfl,_,_⟩<;>exact⟨_,_,rfl⟩
    obtain⟨ya,c,Oc⟩:=Oc
    rw[Oc] at q1 q2 q3 q4
    have hR:vq w s (((G.g n).px.drop lo).take len) v:=by rw[<-q2];exact vq.aaE q3
    have rE:(vf.drop lo).take len=(((G.g n).px.drop lo).take len).map (fun e=>e.map PC.er):=by rw[PC.dJ] at q1;injection q1 with _ q1;exact q1.symm
    have oQ:∀b,aV b (((G.g n).px.drop lo).take len)->∀b',¬G.Im b'->(∀q gr mo aJ aq,σ1.h q=some (.row gr mo aJ aq)->¬aV b' (G.g q).px)->b≠b':=by
     rintro b ⟨k,j,c,hk,hb⟩ b' _ aY rfl
     exact aY n gr m' s vf hn ⟨_,_,_,(oE hk).1,hb⟩
    split at hx
    ·rename_i sM
     injection hx with hx
     injection hx with h1 h2
     injection h2 with h2 h3
     subst h1 h2 h3
     have Zb:=(Bool.and_eq_true _ _▸sM).2
     rw[rE] at Zb
     exact⟨_,rE,hR,F.V6 hR.1 hR.2.1 (B6 Zb),H,bc.refl _ _ _ _,rfl,rfl,fun _ _ h=>h,oQ⟩
    ·split at hx
     ·rename_i ag9
      obtain⟨rfl,rfl⟩:=ag9
      have fL:((G.g n).px.drop 0).take vf.length=(G.g n).px:=by
       have:vf.length=(G.g n).px.length:=by rw[hr.er];simp
       rw[this];simp
      rw[fL] at hR oQ
      have F2:=lc.Ra H hn
      have F1:=F.del n
      have gO:∀k j c,At (px++(G.g n).px) k j c->Good w c:=fun k j c hk=>by
       rcases vA hk with⟨_,h⟩|⟨_,h⟩
       ·exact F.eu _ _ _ h
       ·exact F2.eu _ _ _ h
      have hlen:∀e∈px++(G.g n).px,e.length=s:=fun e he=>(List.mem_append.1 he).elim (F.len e) (F2.len e)
      split at hx
      ·rename_i cX
       subst cX
       injection hx with hx
       injection hx with h1 h2
       injection h2 with h2 h3
       subst h1 h2 h3
       refine⟨(G.g n).px,hr.er,hR,⟨hlen,gO,?_,fun hm q bk mo aJ aq hq iZ b hb=>?_,fun hm b hb q hq hl=>?_⟩,H.del n,bc.del n _,rfl,rfl,fun q b hq=>(pT hq).1,oQ⟩
       ·have m1:=F.mode
        have m3:=F2.mode
        cases m with
        |aD=>exact fun b hb=>(uW hb).elim (m1 b) (m3 b)
        |ae=>exact⟨fun b hb=>(uW hb).elim (m1.1 b) (m3.1 b),JR m1.2 m3.2 (fun b hb=>F.fJ (by simp) n gr .ae s vf hn (by simp) b hb)⟩
        |live=>exact⟨fun b hb=>(uW hb).elim (m1.1 b) (m3.1 b),JR m1.2 m3.2 (fun b hb=>F.fJ (by simp) n gr .live s vf hn (by simp) b hb)⟩
       ·exact(uW hb).elim (F1.fJ hm q bk mo aJ aq hq iZ b) (F2.fJ hm q bk mo aJ aq hq iZ b)
       ·exact(uW hb).elim (fun h=>F1.live hm b h q hq hl) (fun h=>F2.live hm b h q hq hl)
      ·split at hx
       ·cases hx
       ·rename_i aL
        injection hx with hx
        injection hx with h1 h2
        injection h2 with h2 h3
        subst h1 h2 h3
        refine⟨(G.g n).px,hr.er,hR,⟨hlen,gO,fun b hb=>(uW hb).elim (F.Vg (fun h=>aL (.inl h)) b) (F2.Vg (fun h=>aL (.inr h)) b),fun h=>absurd rfl h,fun h=>by cases h⟩,H.del n,bc.del n _,rfl,rfl,fun q b hq=>(pT hq).1,oQ⟩
     ·cases hx
   ·cases hx
  ·cases hx
 ·cases hx
theorem aeT (r:R B E w0 N σ a w G) {n:Nat} {t e:TypeId} {i:TypeInfo} {z:Value} {x y:Operand} {mx my:MO} {fl:Bool} {sz by_:Nat} {xs ys:List (List C)} {m m2:Mode} {σ1 σ2 gI:St}
  (ho:o.op=.call {callee:=.builtin .append,args:=#[x,y],argTypes:=#[t,t]}) (hd:o.dst=some n) (hN:n<N) (gY:bB x mx=true) (jQ:bB y my=true)
  (ht:P.underlying t=some (.slice e)) (hi:P.info? e=some i) (hz:i.zero=some z) (bD:i.size=sz) (jb:0<sz) (nU:i.bytes=by_) (yc:0<by_) (rF:z.cells.size=sz)
  (hl:pP σ sz (σ.ev mx)=some (xs,m,σ1)) (hr:lm fl σ1 sz m (σ.ev my)=some (ys,m2,σ2)) (hb:(xs.length+ys.length)*by_<=dF)
  (hx:σ2.ins n (.row true m2 sz (xs++ys))=some gI):
  o.wp P a w (Nx B E w0 N (gI.put o.dst (.one (.sl n sz 0 (xs.length+ys.length))))) Q:=by
 obtain⟨hn,rfl⟩:=lL hx
 obtain⟨x1,x2⟩:=r.ev gY
 obtain⟨y1,y2⟩:=r.ev jQ
 obtain⟨px,e1,F1,L1,H1,K1,q1,q2,q3⟩:=ajn r x1 hl
 have y1':RA w G σ1.h (σ.ev my) (a.eval y):=y1.fe K1 y2
 rw[<-q2] at H1
 obtain⟨py,e2,R2,F2,H2,K2,p1,p2,p3,oQ⟩:=anw jb H1 F1 y1' hr
 rw[q2] at H2
 have qh:xs.length=px.length:=by rw[e1];simp
 have Bm:ys.length=py.length:=by rw[e2];simp
 have L2:xz B E w G σ2.h sz m px (a.eval x):=by
  rcases L1 with h|⟨b,o,cap,cur,e',b1,b2,b3,b4,b5,b6,⟨l1,l2,l3⟩,b8,b9⟩
  ·exact .inl h
  ·refine .inr ⟨b,o,cap,cur,e',b1,b2,b3,b4,b5,b6,⟨l1,fun q hq=>?_,fun q gr mo aJ aq hq=>l3 q gr mo aJ aq (p3 q _ hq)⟩,b8,b9⟩
   cases hh:σ2.h q with
   |none=>exact absurd hh hq
   |some bb=>exact l2 q (by rw[p3 q bb hh];simp)
 obtain⟨u,w',G',bU,r',hv⟩:=r.adx (P:=P) (σ2:=σ2) (n:=n) (m:=m) (m2:=m2) (px:=px) (py:=py) (ty:=o.type) (p1.trans q1) (p2.trans q2) H2 (bc.trans (u2:=fun n=>σ1.used n=true) (fun q hq=>by rw[q2];exact hq) K1 K2)
  (by rw[<-q2,<-p2];exact hn) jb F2 F1.len L2 R2 (fun b cF b' o' cap eJ uw YZ=>by
   rcases L1 with⟨_,h,_⟩|⟨b0,o0,vE,cur,e',b1,b2,b3,b4,b5,b6,⟨l1,l2,l3⟩,b8,b9⟩
   ·rw[h] at uw;injection uw with _ _ uw;omega
   ·rw[b1] at uw
    injection uw with uw
    injection uw with uw
    have AU:=(m4 uw).1
    subst AU
    exact oQ b cF b0 l1 l3) ht hi hz bD nU yc rF (by rw[<-qh,<-Bm];exact hb)
 have Oy:(px++py).map (fun e=>e.map PC.er)=xs++ys:=by rw[List.map_append,<-e1,<-e2]
 rw[Oy] at r' hv
 rw[<-qh,<-Bm] at hv
 refine nE (v:=u) (w':=w') ?_ ⟨G',r'.put hv (fun q hq=>by have eA:q=n:=hq;subst eA;exact bF _ _ _) (fun q hq=>by rw[hd] at hq;injection hq with hq;omega)⟩
 simp[execOp,ho,resolve,invoke,builtin,bU]
end
end Go.Am
