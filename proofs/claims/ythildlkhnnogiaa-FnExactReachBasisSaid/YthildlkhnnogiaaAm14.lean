/- Am14: append. No condition. -/
import Derived.Test.YthildlkhnnogiaaAm13
set_option linter.unusedVariables false
namespace Go.Am
theorem qj {α:Type} {px py:List (List α)} {k j:Nat} {c:α} (h:At (px++py) k j c):(k<px.length/\At px k j c)\/(px.length<=k/\At py (k - px.length) j c):=by
 obtain⟨e,he,hj⟩:=h
 rcases Nat.lt_or_ge k px.length with hk|hk
 ·rw[List.getElem?_append_left hk] at he;exact .inl ⟨hk,e,he,hj⟩
 ·rw[List.getElem?_append_right hk] at he;exact .inr ⟨hk,e,he,hj⟩
theorem v8 {b:Nat} {px py:List (List PC)} (h:aP b (px++py)):aP b px\/aP b py:=by
 obtain⟨k,j,c,hk,hb⟩:=h
 rcases qj hk with⟨_,h1⟩|⟨_,h1⟩
 ·exact .inl ⟨_,_,_,h1,hb⟩
 ·exact .inr ⟨_,_,_,h1,hb⟩
theorem Ke {px py:List (List PC)} (h1:gF px) (h2:gF py) (h3:∀b,aP b px->¬aP b py):gF (px++py):=by
 refine⟨fun k j c hk=>?_,fun k j c k' j' c' b hk bx av hb aE=>?_⟩
 ·rcases qj hk with⟨_,h⟩|⟨_,h⟩
  ·exact h1.1 _ _ _ h
  ·exact h2.1 _ _ _ h
 ·rcases qj hk with⟨q,h⟩|⟨q,h⟩<;>rcases qj bx with⟨q',h'⟩|⟨q',h'⟩
  ·exact h1.2 _ _ _ _ _ _ b h h' av hb aE
  ·exact h3 b ⟨_,_,_,h,hb⟩ ⟨_,_,_,h',aE⟩
  ·exact h3 b ⟨_,_,_,h',aE⟩ ⟨_,_,_,h,hb⟩
  ·refine h2.2 _ _ _ _ _ _ b h h' (fun e=>av ?_) hb aE
   injection e with e1 e2
   rw[show k=k' by omega,e2]
section
variable {B:Nat} {E:Ex} {w0 w w':World} {G G':Gh} {h h':Nat->Option aj} {used used':Nat->Bool} {tk:List PC} {N:Nat}
variable {P:Program} {o:Oper} {a:Act} {σ σ':St} {Q:Exit->Act->World->Prop}
theorem uf {py:List (List PC)} (hs:dd (py.map fun e=>e.map PC.er)=true) (b:Nat):¬aP b py:=by
 rintro⟨k,j,c,⟨e,he,hj⟩,hb⟩
 have h1:e.map PC.er∈py.map fun e=>e.map PC.er:=List.mem_map_of_mem (f:=fun e=>e.map PC.er) (List.mem_of_getElem? he)
 have h2:=List.all_eq_true.1 hs _ h1
 have h3:=List.all_eq_true.1 h2 c.er (List.mem_map_of_mem (List.mem_of_getElem? hj))
 exact(Sep.fT (pc:=c) h3).2 b hb
theorem aao {py:List (List PC)} (hs:dd (py.map fun e=>e.map PC.er)=true) (k j:Nat) (c:PC) (hk:At py k j c):nR w c:=by
 obtain⟨e,he,hj⟩:=hk
 have h2:=List.all_eq_true.1 hs _ (List.mem_map_of_mem (f:=fun e=>e.map PC.er) (List.mem_of_getElem? he))
 exact nR.fT (List.all_eq_true.1 h2 c.er (List.mem_map_of_mem (List.mem_of_getElem? hj)))
structure jV (B:Nat) (E:Ex) (w:World) (G:Gh) (h:Nat->Option aj) (sz:Nat) (m:Mode) (px:List (List PC)):Prop where
 len:∀e∈px,e.length=sz
 dk:∀k j c,At px k j c->Good w c
 mode:yJ B E w G px m
 eV:m≠ .aG->∀n gr m' ax ak,h n=some (.row gr m' ax ak)->m'≠ .aG->∀b,aP b px->¬aP b (G.g n).px
 live:m=.live->∀b,aP b px->∀n,h n≠none->(G.g n).nl=false->b≠(G.g n).b
 nr:m=.live->qg w sz px
theorem jV.Vl {m:Mode} {sz:Nat} {px py:List (List PC)} (F:jV B E w G h sz m px) (hl:∀e∈py,e.length=sz) (hg:∀k j c,At py k j c->Good w c) (bG:∀b,¬aP b py) (zx:∀k j c,At py k j c->nR w c):jV B E w G h sz m (px++py):=by
 have dJ:∀b,aP b (px++py)->aP b px:=fun b hb=>(v8 hb).resolve_right (bG b)
 refine⟨fun e he=>(List.mem_append.1 he).elim (F.len e) (hl e),fun k j c hk=>?_,?_,fun hm n gr m' ax ak hn bm b hb=>F.eV hm n gr m' ax ak hn bm b (dJ b hb),fun hm b hb=>F.live hm b (dJ b hb),fun hm k c hk=>(qj hk).elim (fun h=>F.nr hm _ _ h.2) (fun h=>zx _ _ _ h.2)⟩
 ·rcases qj hk with⟨_,h⟩|⟨_,h⟩
  ·exact F.dk _ _ _ h
  ·exact hg _ _ _ h
 ·have iG:gF py:=⟨fun k j c hk=>Sep.vT (fun b hb=>bG b ⟨k,j,c,hk,hb⟩) (hg k j c hk),fun k j c k' j' c' b hk _ _ hb=>absurd ⟨k,j,c,hk,hb⟩ (bG b)⟩
  have hm:=F.mode
  cases m with
  |aG=>exact fun b hb=>hm b (dJ b hb)
  |af=>exact⟨fun b hb=>hm.1 b (dJ b hb),Ke hm.2 iG (fun b _=>bG b)⟩
  |live=>exact⟨fun b hb=>hm.1 b (dJ b hb),Ke hm.2 iG (fun b _=>bG b)⟩
theorem jV.Fz (H:HR B E w G h used []) {n:Nat} {gr:Bool} {m:Mode} {sz:Nat} {xs:List (List C)} (hn:h n=some (.row gr m sz xs)) (Es:m=.live->gr=true):jV B E w G (ao h n none) sz m (G.g n).px:=by
 have hr:=H.row n gr m sz xs hn
 have aD:(G.g n).px≠[]->(G.g n).nl=false:=fun av=>by
  cases hq:(G.g n).nl with
  |false=>rfl
  |true=>exact absurd (hr.nl hq).1 av
 refine⟨fun e he=>(hr.cZ (aD (List.ne_nil_of_mem he))).2.1.1 e he,fun k j c hk=>?_,hr.mode,fun hm q aW m' ax ak hq bm b hb=>?_,fun hm b hb q hq hl=>?_,fun hm=>hr.nr (Es hm) hm⟩
 ·have av:(G.g n).px≠[]:=by obtain⟨e,he,_⟩:=hk;exact List.ne_nil_of_mem (List.mem_of_getElem? he)
  exact(hr.cZ (aD av)).2.1.2.2 k j c hk
 ·obtain⟨q1,q2⟩:=kY hq
  exact H.eV n q gr m sz xs aW m' ax ak hn q1 hm bm (Ne.symm q2) b hb
 ·subst hm
  obtain⟨q1,q2⟩:=tc hq
  exact H.live n gr sz xs hn b hb q q1 hl
theorem jV.del {m:Mode} {sz:Nat} {px:List (List PC)} (F:jV B E w G h sz m px) (n:Nat):jV B E w G (ao h n none) sz m px:=
 ⟨F.len,F.dk,F.mode,fun hm q gr m' ax ak hq bm=>F.eV hm q gr m' ax ak (kY hq).1 bm,fun hm b hb q hq=>F.live hm b hb q (tc hq).1,F.nr⟩
theorem jV.UC {m:Mode} {sz:Nat} {px:List (List PC)} (F:jV B E w G h sz m px) (hm:m≠ .live):∀b,aP b px->G.Im b:=by
 intro b hb
 have:=F.mode
 cases m with
 |aG=>exact this b hb
 |af=>exact(this.1 b hb).1
 |live=>exact absurd rfl hm
def wF (B:Nat) (E:Ex) (w:World) (G:Gh) (h:Nat->Option aj) (sz:Nat) (m:Mode) (px:List (List PC)) (v:Value):Prop:=
 (∃a,v=.slice a 0 0/\px=[])\/
 ∃b o cap cur e,v=.slice (some (ad b o)) px.length cap/\w.heap[b]? =some (.cells cur e (0,0))/\cur.size=o+cap*sz/\cap<=maxLen/\px.length<=cap/\lR w b o sz px/\
  mV G h b/\(B<=b\/E b)/\(∀b',aP b' px->b'≠b)
theorem wF.del {m:Mode} {sz:Nat} {px:List (List PC)} {v:Value} (L:wF B E w G h sz m px v) (n:Nat):wF B E w G (ao h n none) sz m px v:=by
 rcases L with h1|⟨b,o,cap,cur,e,a1,a2,a3,a4,a5,a6,⟨l1,l2,l3⟩,a8,a9⟩
 ·exact .inl h1
 ·exact .inr ⟨b,o,cap,cur,e,a1,a2,a3,a4,a5,a6,⟨l1,fun q hq=>l2 q (tc hq).1,fun q gr m sz xs hq=>l3 q gr m sz xs (kY hq).1⟩,a8,a9⟩
theorem D3 {px:List (List PC)} {sz:Nat} (hl:∀e∈px,e.length=sz):(px.flatten.map PC.val).length=px.length*sz:=by
 induction px with
 |nil=>simp
 |cons e px ih=>
  have:=ih (fun e he=>hl e (by simp[he]))
  simp only[List.flatten_cons,List.map_append,List.length_append,List.length_cons,Nat.add_mul,this,List.length_map] at*
  rw[hl e (by simp)]
  omega
theorem M9 {α:Type} {sz:Nat} (bn:0<sz):∀{px:List (List α)} (_:∀e∈px,e.length=sz) {i:Nat} {c:α},px.flatten[i]? =some c->∃k j,At px k j c/\i=k*sz+j
 |[],_,i,c,hi=>by simp at hi
 |e::px,hl,i,c,hi=>by
  have h0:=hl e (by simp)
  simp only[List.flatten_cons] at hi
  rcases Nat.lt_or_ge i e.length with bS|zr
  ·rw[List.getElem?_append_left bS] at hi
   exact⟨0,i,⟨e,rfl,hi⟩,by omega⟩
  ·rw[List.getElem?_append_right zr] at hi
   obtain⟨k,j,⟨e',he,hj⟩,hk⟩:=M9 bn (px:=px) (fun e he=>hl e (by simp[he])) hi
   exact⟨k+1,j,⟨e',by simpa using he,hj⟩,by rw[Nat.add_mul];omega⟩
theorem alo {t ty e e':TypeId} {i:TypeInfo} (ht:P.underlying t=some (.slice e)) (hi:P.info? e=some i)
  (g og x8 SD:Nat) (cur:Array Value) (hg:w.heap[g]? =some (.cells cur e' (0,0)))
  (a:Addr) (m c:Nat) (fK:List Value) (hl:fK.length=m*i.size) (tv:∀j u,fK[j]? =some u->w.cell? (a.add j)=some u) (h1:∀u∈fK,u.oneCell'=true)
  (EJ:x8+m<=SD) (eP:og+x8*i.size+fK.length<=cur.size):
  (Builtin.append_ #[t,t] ty #[.slice (some (ad g og)) x8 SD,.slice (some a) m c]).run P w=.ok (.slice (some (ad g og)) (x8+m) SD) (dY w g (og+x8*i.size) fK cur):=by
 have hf:=run_firstCells_some (P:=P) w i.size m a m c fK hl tv
 have lB:=run_storeCells_at P g (og+x8*i.size) e' fK 0 cur w hg (by simpa using eP) h1
 simp only[Nat.add_zero] at lB
 have ha:(ad g og).add (x8*i.size)=⟨g,og+x8*i.size,none⟩:=by rw[mY];simp[ad]
 simp[Builtin.append_,run_underlying ht,sizeOf,typeInfo,hi,Builtin.lenOf,EJ,hf,ha,lB,dY]
theorem aae (w:World) {t e:TypeId} {i:TypeInfo} {z:Value} {ty:TypeId} {sz by_:Nat} (ht:P.underlying t=some (.slice e)) (hi:P.info? e=some i) (hz:i.zero=some z) (bn:i.size=sz) (eC:0<sz) (mg:i.bytes=by_) (u0:0<by_)
  {m:Mode} {px:List (List PC)} {v:Value} (dz:∀e∈px,e.length=sz) (L:wF B E w G h sz m px v) {fK:List Value} {k c:Nat} {ya:Option Addr} (aD:fK.length=k*sz)
  (hy:(ya=none/\k=0)\/∃ay,ya=some ay/\∀(j:Nat) (u:Value),fK[j]? =some u->w.cell? (ay.add j)=some u) (h1:∀u∈fK,u.oneCell'=true) (hb:(px.length+k)*by_<=e8):
  (∃a,k=0/\v=.slice a 0 0/\px=[]/\(Builtin.append_ #[t,t] ty #[v,.slice ya k c]).run P w=.ok (.slice a 0 0) w)\/
  (∃b o cap cur e',v=.slice (some (ad b o)) px.length cap/\w.heap[b]? =some (.cells cur e' (0,0))/\cur.size=o+cap*sz/\cap<=maxLen/\px.length+k<=cap/\lR w b o sz px/\mV G h b/\(B<=b\/E b)/\(∀b',aP b' px->b'≠b)/\
   (Builtin.append_ #[t,t] ty #[v,.slice ya k c]).run P w=.ok (.slice (some (ad b o)) (px.length+k) cap) (dY w b (o+px.length*sz) fK cur))\/
  (∃(cap:Nat) (arr:Array Value),px.length+k<=cap/\cap<=maxLen/\arr.size=cap*z.cells.size+(px.length+k)*sz - (px.length+k)*z.cells.size/\(∀(q:Nat) (u:Value),(px.flatten.map PC.val++fK)[q]? =some u->arr[q]? =some u)/\
   (Builtin.append_ #[t,t] ty #[v,.slice ya k c]).run P w=.ok (.slice (some (ad w.heap.size 0)) (px.length+k) cap) (w.drew.alloc (.cells arr e))):=by
 have vi:px.length+k<=e8:=Nat.le_trans (Nat.le_mul_of_pos_right _ u0) hb
 have gi:(e8:Nat)=140737488355328:=rfl
 have Oc:∀f8,grownCap w (px.length+k) f8 e<=maxLen:=fun f8=>grownCap_le_maxLen w _ f8 e (by simp only[maxLen];omega)
 have XQ:=D3 dz
 have uZ:∀f8,((px.flatten.map PC.val).toArray++fK.toArray++Builtin.zeroCells z.cells (grownCap w (px.length+k) f8 e - (px.length+k))).size=grownCap w (px.length+k) f8 e*z.cells.size+(px.length+k)*sz - (px.length+k)*z.cells.size:=by
  intro f8
  have zr:=grownCap_ge w (px.length+k) f8 e
  have h2:(px.length+k)*z.cells.size<=grownCap w (px.length+k) f8 e*z.cells.size:=Nat.mul_le_mul_right _ zr
  simp only[Array.size_append,List.size_toArray,size_zeroCells,XQ,aD,Nat.sub_mul,Nat.add_mul] at*
  omega
 have gK:∀f8 (q:Nat) (u:Value),(px.flatten.map PC.val++fK)[q]? =some u->((px.flatten.map PC.val).toArray++fK.toArray++Builtin.zeroCells z.cells (grownCap w (px.length+k) f8 e - (px.length+k)))[q]? =some u:=by
  intro f8 q u hq
  have Jd:=(List.getElem?_eq_some_iff.1 hq).1
  rw[Array.getElem?_append_left (by simp only[Array.size_append,List.size_toArray];simpa using Jd)]
  simpa using hq
 rcases L with⟨a,rfl,rfl⟩|⟨b,o,cap,cur,e',rfl,a2,a3,a4,a5,a6,a7,a8,a9⟩
 ·by_cases hk:k=0
  ·subst hk
   left
   have hn:fK=[]:=List.eq_nil_of_length_eq_zero (by simpa using aD)
   refine⟨a,rfl,rfl,rfl,?_⟩
   cases ya<;>cases a<;>simp[Builtin.append_,run_underlying ht,sizeOf,typeInfo,hi,Builtin.lenOf,Builtin.firstCells,loadCells,loadCellsFrom,storeCells]
  ·rcases hy with⟨_,h0⟩|⟨ay,rfl,tv⟩
   ·exact absurd h0 hk
   right;right
   cases a with
   |none=>
    have hr:=run_append_nil (P:=P) w t ty e i z ht hi hz ay k c fK (by rw[bn];exact aD) tv (by omega) (by simp only[List.length_nil,Nat.zero_add] at vi;omega) (by rw[mg];simp only[List.length_nil,Nat.zero_add] at hb;omega)
    have h3:=uZ 0
    have h4:=gK 0
    have h5:=Oc 0
    simp only[List.length_nil,Nat.zero_add,List.flatten_nil,List.map_nil,List.nil_append] at h3 h4 h5⊢
    exact⟨grownCap w k 0 e,fK.toArray++Builtin.zeroCells z.cells (grownCap w k 0 e - k),grownCap_ge w k 0 e,h5,by simpa using h3,fun q u hq=>by simpa using h4 q u hq,hr⟩
   |some a=>
    have hr:=run_append_grow (P:=P) w t ty e i z ht hi hz a 0 0 [] (by simp) (fun q u hq=>by simp at hq) ay k c fK (by rw[bn];exact aD) tv (by omega) (by simp only[List.length_nil,Nat.zero_add] at vi;omega) (growslice_fits (by simp only[List.length_nil,Nat.zero_add] at vi;omega) (by rw[mg,Nat.zero_add];rw[List.length_nil,Nat.zero_add] at hb;exact hb))
    have h3:=uZ 0
    have h4:=gK 0
    have h5:=Oc 0
    simp only[List.length_nil,Nat.zero_add,List.flatten_nil,List.map_nil,List.nil_append] at h3 h4 h5 hr⊢
    exact⟨_,_,grownCap_ge w k 0 e,h5,by simpa using h3,fun q u hq=>by simpa using h4 q u hq,hr⟩
 ·by_cases EJ:px.length+k<=cap
  ·right;left
   refine⟨b,o,cap,cur,e',rfl,a2,a3,a4,EJ,a6,a7,a8,a9,?_⟩
   rcases hy with⟨rfl,rfl⟩|⟨ay,rfl,tv⟩
   ·have hn:fK=[]:=List.eq_nil_of_length_eq_zero (by simpa using aD)
    subst hn
    have agh:dY w b (o+px.length*sz) [] cur=w:=by
     unfold dY
     simp only[List.append_nil,List.length_nil,Nat.add_zero,List.take_append_drop,Array.toArray_toList]
     exact setRow_self w b cur e' (0,0) a2
    rw[agh]
    simp[Builtin.append_,run_underlying ht,sizeOf,typeInfo,hi,Builtin.lenOf,Builtin.firstCells,a5,storeCells]
   ·have hr:=alo (P:=P) (w:=w) (ty:=ty) ht hi b o px.length cap cur a2 ay k c fK (by rw[bn];exact aD) tv h1 EJ (by
     rw[bn,aD,a3,Nat.add_assoc,<-Nat.add_mul];exact Nat.add_le_add_left (Nat.mul_le_mul_right _ EJ) _)
    rw[bn] at hr
    exact hr
  ·rcases hy with⟨_,rfl⟩|⟨ay,rfl,tv⟩
   ·omega
   right;right
   have hr:=run_append_grow (P:=P) w t ty e i z ht hi hz (ad b o) px.length cap (px.flatten.map PC.val) (by rw[bn];exact XQ) (fun q u hq=>by
    rw[List.getElem?_map] at hq
    cases hf:px.flatten[q]? with
    |none=>rw[hf] at hq;cases hq
    |some pc=>
     rw[hf] at hq
     simp at hq
     subst hq
     obtain⟨k',j',mn,rfl⟩:=M9 eC dz hf
     rw[mY,<-Nat.add_assoc]
     exact a6.2.1 k' j' pc mn) ay k c fK (by rw[bn];exact aD) tv (by omega) (by omega) (growslice_fits (by omega) (by rw[mg];exact hb))
   exact⟨_,_,grownCap_ge w _ _ _,Oc _,uZ _,gK _,hr⟩
def sV (w:World) (sz:Nat) (py:List (List PC)) (v:Value):Prop:=
 (∀e∈py,e.length=sz)/\(∀k j c,At py k j c->Good w c)/\
 ∃ya c,v=.slice ya py.length c/\((ya=none/\py.length=0)\/∃ay,ya=some ay/\∀(j:Nat) (u:Value),(py.flatten.map PC.val)[j]? =some u->w.cell? (ay.add j)=some u)
theorem sV.Q1 {sz:Nat} {ya:Option Addr} {c:Nat} {py:List (List PC)} (hg:Good w (.list sz ya c py)):sV w sz py (.slice ya py.length c):=by
 cases hg with
 |nil _ _ _ h=>
  refine⟨by simp,by rintro k j c ⟨e,he,_⟩;simp at he,ya,c,rfl,?_⟩
  cases ya with
  |none=>exact .inl ⟨rfl,rfl⟩
  |some ay=>exact .inr ⟨ay,rfl,by simp⟩
 |cons _ b o _ _ h1 h2 h3 h4 h5 h6=>
  refine⟨h4,h6,_,c,rfl,.inr ⟨_,rfl,fun j u hj=>?_⟩⟩
  rw[List.getElem?_map] at hj
  cases hf:py.flatten[j]? with
  |none=>rw[hf] at hj;cases hj
  |some pc=>
   rw[hf] at hj
   simp at hj
   subst hj
   obtain⟨k',j',mn,rfl⟩:=M9 h3 h4 hf
   rw[mY,<-Nat.add_assoc]
   exact h5 k' j' pc mn
theorem R.ab8 (r:R B E w0 N σ a w G) {σ2:St} (rS:σ2.env=σ.env) (jq:σ2.used=σ.used) (H:HR B E w G σ2.h σ.used []) (K:aR w G σ.h (fun n=>σ.used n=true) w G σ2.h)
  {n:Nat} {sz by_:Nat} {m m2:Mode} {px py:List (List PC)} {v yv:Value} (hn:σ.used n=false) (eC:0<sz) (F:jV B E w G σ2.h sz m2 (px++py)) (dz:∀e∈px,e.length=sz) (L:wF B E w G σ2.h sz m px v) (Ry:sV w sz py yv)
  (gw:∀b,aP b py->∀b' o cap,0<cap->v=.slice (some (ad b' o)) px.length cap->mV G σ2.h b'->b≠b')
  {t e:TypeId} {i:TypeInfo} {z:Value} {ty:TypeId} (ht:P.underlying t=some (.slice e)) (hi:P.info? e=some i) (hz:i.zero=some z) (bn:i.size=sz) (mg:i.bytes=by_) (u0:0<by_) (pA:z.cells.size=sz)
  (hb:(px.length+py.length)*by_<=e8):
  ∃u w' G',(Builtin.append_ #[t,t] ty #[v,yv]).run P w=.ok u w'/\
   R B E w0 N {σ2 with h:=ao σ2.h n (some (.row true m2 sz ((px++py).map fun e=>e.map PC.er))),used:=ao σ2.used n true} a w' G'/\
   RA w' G' (ao σ2.h n (some (.row true m2 sz ((px++py).map fun e=>e.map PC.er)))) (.one (.sl n sz 0 (px.length+py.length))) u:=by
 obtain⟨r1,r2,ya,c,rfl,r3⟩:=Ry
 have aD:(py.flatten.map PC.val).length=py.length*sz:=D3 r1
 have h1:∀u∈py.flatten.map PC.val,u.oneCell'=true:=fun u hu=>by obtain⟨pc,_,rfl⟩:=List.mem_map.1 hu;exact PC.hY pc
 have hB:=r.fr.size
 have EA:(px++py).length=px.length+py.length:=by simp
 have BR:σ2.h n=none:=by
  cases hh:σ2.h n with
  |none=>rfl
  |some b=>have:=H.gT n (by rw[hh];simp);rw[hn] at this;cases this
 have ne:∀q,σ.used q=true->q≠n:=fun q hq e=>by subst e;rw[hn] at hq;cases hq
 have av:∀q,σ2.h q≠none->q≠n:=fun q hq e=>by subst e;exact hq BR
 rcases aae (P:=P) w (ty:=ty) ht hi hz bn eC mg u0 dz L aD r3 h1 hb with⟨a0,k0,rfl,rfl,aS⟩|⟨b,ob,cap,cur,e',rfl,b2,b3,b4,b5,b6,b7,b8,b9,aS⟩|⟨cap,arr,c1,c2,c3,c4,aS⟩
 ·
  have hpy:py=[]:=List.eq_nil_of_length_eq_zero k0
  subst hpy
  refine⟨_,w,⟨G.Im,ao G.g n ⟨true,0,0,0,[],a0⟩⟩,aS,?_,?_⟩
  ·refine r.step (σ':=_) rS (fun q hq=>by show ao σ2.used n true q=true;rw[jq];exact lQ n q hq) (aR.trans (u2:=fun n=>σ.used n=true) (fun _ h=>h) K (aR.insert H (blk:=.row true m2 sz []) (p:=⟨true,0,0,0,[],a0⟩) hn (fun _ _=>rfl))) ?_ r.fr
   show HR B E w _ (ao σ2.h n (some (.row true m2 sz []))) (ao σ2.used n true) []
   rw[jq]
   have bG:∀b,¬aP b ([]:List (List PC)):=by rintro b ⟨k,j,c,⟨e,he,_⟩,_⟩;simp at he
   refine H.insert (p:=⟨true,0,0,0,[],a0⟩) hn (fun _ _=>rfl) (Nat.le_refl _) (fun h=>by cases h) (fun cs c m hb=>by cases hb) ⟨eC,rfl,fun _=>⟨rfl,fun _=>rfl⟩,(fun h=>by cases h),(fun h=>by cases h),?_,fun _ hm=>by have:=F.nr hm;simpa using this⟩
    (fun gr m sz xs _ _ n' aW m' ax ak _ _ b hb=>absurd hb (bG b)) (fun gr sz xs _ b hb=>absurd hb (bG b)) (fun gr m sz xs _ _ i pc b hi=>by simp at hi)
   have hm:=F.mode
   simp only[List.append_nil] at hm
   exact hm
  ·refine RA.dS rfl fun _=>.inl ?_
   simp[bo]
 ·
  have vj:(ob+px.length*sz)+(py.flatten.map PC.val).length<=cur.size:=by rw[aD,b3,Nat.add_assoc,<-Nat.add_mul];exact Nat.add_le_add_left (Nat.mul_le_mul_right _ b5) _
  let w2:=dY w b (ob+px.length*sz) (py.flatten.map PC.val) cur
  have cB:∀x,x≠b->w2.heap[x]? =w.heap[x]? :=fun x hx=>ww x hx
  have zi:∀x,G.Im x->x≠b:=fun x hx he=>b7.1 (he▸hx)
  have oh:∀x,cP w x->cP w2 x:=fun x hx=>Gt b2 vj x hx
  have OB:∀x,aP x (px++py)->x≠b:=fun x hx=>(v8 hx).elim (b9 x) (fun h=>gw x h b ob cap (by obtain⟨k,j,c,⟨e,he,_⟩,_⟩:=h;have:=(List.getElem?_eq_some_iff.1 he).1;omega) rfl b7)
  let p:PB:=⟨false,b,ob,cap,px++py,none⟩
  have K2:aR w G σ2.h (fun n=>σ.used n=true) w2 ⟨G.Im,ao G.g n p⟩ (ao σ2.h n (some (.row true m2 sz ((px++py).map fun e=>e.map PC.er)))):=by
   refine⟨fun _ h=>h,fun x hx o=>fO (cB x (zi x hx)) o,fun q hq h0=>?_,fun q gr ax ak hq h0=>?_⟩
   ·rw[bP _ _ _ _ (ne q hq)] at h0
    simp only[bP _ _ _ _ (ne q hq)]
    exact⟨h0,trivial,trivial,trivial,trivial,trivial⟩
   ·rw[bP _ _ _ _ (ne q hq)] at h0
    simp only[bP _ _ _ _ (ne q hq)]
    exact⟨⟨gr,ak,h0⟩,fun k j pc h1 h2=>⟨pc,h1,rfl,h2⟩⟩
  have afs:b<w.heap.size:=(Array.getElem?_eq_some_iff.1 b2).1
  have Hn:HR B E w2 ⟨G.Im,ao G.g n p⟩ (ao σ2.h n (some (.row true m2 sz ((px++py).map fun e=>e.map PC.er)))) (ao σ.used n true) []:=by
   refine H.put (p:=p) (fun x _ hx=>cB x (hx rfl)) (by show w.heap.size<=w2.heap.size;rw[oO];exact Nat.le_refl _) (fun x _ hx=>oh x hx) (fun q hq=>lQ n q hq) (bo _ _ _)
    (fun _=>⟨b7.1,b8,by show b<w2.heap.size;rw[oO];exact afs⟩) (fun _ q hq h0 hl=>b7.2.1 q h0 hl) (fun _ q gr ax ak hq h0 x hx he=>b7.2.2 q gr .live ax ak h0 (by have BS:x=b:=he;rw[<-BS];exact hx))
    (fun cs c q hb=>by cases hb) K2 ?_ ?_ ?_ (fun gr m sz xs _ _ i pc b hi=>by simp at hi) (fun _ _ x hx he=>by obtain⟨q,gr,mo,ax,ak,_,h0,hxF⟩:=hx;exact b7.2.2 q gr mo ax ak h0 (by have BS:x=b:=he;rw[<-BS];exact hxF))
   ·refine⟨eC,rfl,(fun h=>by cases h),fun _=>⟨oh b ⟨cur,e',b2⟩,⟨F.len,fun k j c hk=>?_,fun k j c hk=>?_⟩,by show(px++py).length<=cap;rw[EA];exact b5⟩,fun _ _=>?_,?_,fun _ hm=>(F.nr hm).congr fun x hx=>cB x (OB x hx)⟩
    ·show w2.cell? (ad b (ob+k*sz+j))=some c.val
     rw[wv b2 vj]
     have hf:=rE F.len hk
     rw[List.flatten_append] at hf
     have gV:px.flatten.length=px.length*sz:=by have:=D3 dz;rwa[List.length_map] at this
     rcases qj hk with⟨tr,bx⟩|⟨tr,bx⟩
     ·rw[if_neg ?_]
      ·exact b6.2.1 k j c bx
      ·rintro⟨q1,_⟩
       have hj:j<sz:=by obtain⟨e1,he,hj⟩:=bx;rw[<-dz e1 (List.mem_of_getElem? he)];exact(List.getElem?_eq_some_iff.1 hj).1
       have:(k+1)*sz<=px.length*sz:=Nat.mul_le_mul_right _ tr
       rw[Nat.add_mul] at this
       omega
     ·have zr:px.length*sz<=k*sz+j:=Nat.le_trans (Nat.mul_le_mul_right _ tr) (Nat.le_add_right _ _)
      have bS:=(List.getElem?_eq_some_iff.1 hf).1
      rw[List.length_append,gV] at bS
      rw[List.getElem?_append_right (by rw[gV];exact zr),gV] at hf
      rw[if_pos ⟨by omega,by simp only[List.length_map];omega⟩]
      rw[List.getElem?_map,show ob+k*sz+j - (ob+px.length*sz)=k*sz+j - px.length*sz by omega,hf]
      rfl
    ·exact(F.dk k j c hk).congr fun x hx o=>fO (cB x (OB x ⟨k,j,c,hk,hx⟩)) o
    ·obtain⟨ie,q1,q2⟩:=Dg (vs:=py.flatten.map PC.val) (o:=ob+px.length*sz) b2 vj
     exact⟨b4,ie,e',q1,by rw[q2,b3]⟩
    ·have hm:=F.mode
     cases m2 with
     |aG=>exact hm
     |af=>exact⟨fun x hx=>⟨(hm.1 x hx).1,oh x (hm.1 x hx).2.1,(hm.1 x hx).2.2⟩,hm.2⟩
     |live=>exact⟨fun x hx=>⟨(hm.1 x hx).1,oh x (hm.1 x hx).2.1,(hm.1 x hx).2.2⟩,hm.2⟩
   ·intro gr m' ax ak hb gi q aW mo gm eT fB h0 fY x hx
    injection hb with _ hb _ _
    subst hb
    exact F.eV gi q aW mo gm eT h0 fY x hx
   ·intro gr ax ak hb x hx
    injection hb with _ hb _ _
    exact⟨fun _=>OB x hx,fun q _ h0 hl=>F.live hb x hx q h0 hl⟩
  refine⟨_,w2,⟨G.Im,ao G.g n p⟩,aS,?_,?_⟩
  ·exact r.step (σ':=_) rS (fun q hq=>by show ao σ2.used n true q=true;rw[jq];exact lQ n q hq) (aR.trans (u2:=fun n=>σ.used n=true) (fun _ h=>h) K K2)
    (by show HR B E w2 _ _ (ao σ2.used n true) [];rw[jq];exact Hn) (r.fr.one b8 (fun x hx B7=>cB x B7) (by show w.heap.size<=w2.heap.size;rw[oO];exact Nat.le_refl _) (yq b2 vj) rfl rfl rfl)
  ·refine RA.dS rfl fun _=>.inr ⟨by simp[bo,p],some (ad b ob),?_,?_,?_⟩
   ·simp[bo,p]
   ·simp[bo,p];exact b5
   ·simp[bo,p]
 ·
  let w1:=w.drew
  have hd:∀x:Nat,x<w.heap.size->(w.drew.alloc (.cells arr e)).heap[x]? =w.heap[x]? :=fun x hx=>heap_alloc_old w.drew _ x hx
  have H1:HR B E w.drew G σ2.h σ.used []:=H.grow (w':=w.drew) (fun _ _=>rfl) (Nat.le_refl _)
  have r1:R B E w0 N σ a w.drew G:=r.step (w':=w.drew) rfl (fun _ h=>h) (aR.world (w:=w) (w':=w.drew) (fun _ _=>rfl) _) (r.hr.grow (w':=w.drew) (fun _ _=>rfl) (Nat.le_refl _)) (r.fr.grow (w':=w.drew) (fun _ _=>rfl) (Nat.le_refl _) rfl rfl rfl)
  have K1:aR w.drew G σ.h (fun n=>σ.used n=true) w.drew G σ2.h:=⟨K.im,fun _ _ _=>rfl,K.name,K.live⟩
  have eQ:∀k j c,At (px++py) k j c->Good w.drew c:=fun k j c hk=>(F.dk k j c hk).congr fun _ _ _=>rfl
  have uZ:∀k j c,At (px++py) k j c->arr[k*sz+j]? =some c.val:=fun k j c hk=>by
   have hf:=rE F.len hk
   refine c4 _ _ ?_
   rw[<-List.map_append,<-List.flatten_append,List.getElem?_map,hf]
   rfl
  have ky:arr.size=cap*sz:=by rw[c3,pA];omega
  have hB2:=r1.fr.size
  let p:PB:=⟨false,w.heap.size,0,cap,px++py,none⟩
  have hw:∀x:Nat,x<w.drew.heap.size->(w.drew.alloc (.cells arr e)).heap[x]? =w.drew.heap[x]? :=hd
  have Hn:HR B E (w.drew.alloc (.cells arr e)) ⟨G.Im,ao G.g n p⟩ (ao σ2.h n (some (.row true m2 sz ((px++py).map fun e=>e.map PC.er)))) (ao σ.used n true) []:=by
   refine H1.insert (p:=p) hn hw (by simp) (fun _=>⟨H1.JC,.inl hB,by simp[p]⟩) (fun cs c m hb=>by cases hb) ?_ ?_ ?_ (fun gr m sz xs _ _ i pc b hi=>by simp at hi)
   ·refine⟨eC,rfl,(fun h=>by cases h),fun _=>⟨cP.alloc _ _ _,⟨F.len,fun k j c hk=>?_,fun k j c hk=>?_⟩,by show(px++py).length<=cap;rw[EA];exact c1⟩,fun _ _=>⟨c2,arr,e,heap_alloc_new w.drew _,(Nat.zero_add _).symm▸ky⟩,?_,fun _ hm=>(F.nr hm).congr fun x hx=>by
     obtain⟨k,j,c,hk,OZ⟩:=hx
     exact hd x ((F.dk k j c hk).lt OZ)⟩
    ·show(w.drew.alloc (.cells arr e)).cell? (ad w.drew.heap.size (0+k*sz+j))=some c.val
     simp only[Nat.zero_add]
     unfold ad
     rw[World.cell?_alloc_new]
     exact uZ k j c hk
    ·exact(eQ k j c hk).congr fun x hx o=>fO (hw x ((eQ k j c hk).lt hx)) o
    ·have hm:=F.mode
     have hu:∀x,cP w x->cP (w.drew.alloc (.cells arr e)) x:=fun x hx=>hx.congr (hd x hx.lt)
     cases m2 with
     |aG=>exact hm
     |af=>exact⟨fun x hx=>⟨(hm.1 x hx).1,hu x (hm.1 x hx).2.1,(hm.1 x hx).2.2⟩,hm.2⟩
     |live=>exact⟨fun x hx=>⟨(hm.1 x hx).1,hu x (hm.1 x hx).2.1,(hm.1 x hx).2.2⟩,hm.2⟩
   ·intro gr m' ax ak hb gi q aW mo gm eT h0 fY x hx
    injection hb with _ hb _ _
    subst hb
    exact F.eV gi q aW mo gm eT h0 fY x hx
   ·intro gr ax ak hb x hx
    injection hb with _ hb _ _
    refine⟨fun _=>?_,fun q h0 hl=>F.live hb x hx q h0 hl⟩
    obtain⟨k,j,c,hk,OZ⟩:=hx
    have:=(F.dk k j c hk).lt OZ
    show x≠w.heap.size
    omega
  refine⟨_,_,⟨G.Im,ao G.g n p⟩,aS,?_,?_⟩
  ·exact r1.step (σ':=_) rS (fun q hq=>by show ao σ2.used n true q=true;rw[jq];exact lQ n q hq) (aR.trans (u2:=fun n=>σ.used n=true) (fun _ h=>h) K1 (aR.insert H1 hn hw))
    (by show HR B E _ _ _ (ao σ2.used n true) [];rw[jq];exact Hn) (r1.fr.grow hw (by simp) rfl rfl rfl)
  ·refine RA.dS rfl fun _=>.inr ⟨by simp[bo,p],some (ad w.heap.size 0),?_,?_,?_⟩
   ·simp[bo,p]
   ·simp[bo,p];exact c1
   ·simp[bo,p]
theorem ahQ (r:R B E w0 N σ a w G) {sz:Nat} {x:ah} {v:Value} {xs:List (List C)} {m:Mode} {σ1:St} (hv:RA w G σ.h x v) (hx:qi σ sz x=some (xs,m,σ1)):
  ∃px:List (List PC),xs=px.map (fun e=>e.map PC.er)/\jV B E w G σ1.h sz m px/\wF B E w G σ1.h sz m px v/\HR B E w G σ1.h σ.used []/\aR w G σ.h (fun n=>σ.used n=true) w G σ1.h/\σ1.env=σ.env/\σ1.used=σ.used/\
   (∀n b,σ1.h n=some b->σ.h n=some b):=by
 unfold qi at hx
 split at hx
 ·rename_i s
  injection hx with hx
  injection hx with h1 h2
  injection h2 with h2 h3
  subst h1 h2 h3
  have eH:v=.slice none 0 0:=(hv.dB (by simp)).1
  have bG:∀b,¬aP b ([]:List (List PC)):=by rintro b ⟨k,j,c,⟨e,he,_⟩,_⟩;simp at he
  exact⟨[],rfl,⟨by simp,by rintro k j c ⟨e,he,_⟩;simp at he,⟨fun b hb=>absurd hb (bG b),(by rintro k j c ⟨e,he,_⟩;simp at he),(by rintro k j c k' j' c' b ⟨e,he,_⟩;simp at he)⟩,fun _ _ _ _ _ _ _ _ b hb=>absurd hb (bG b),fun _ b hb=>absurd hb (bG b),fun h=>by cases h⟩,
   .inl ⟨none,eH,rfl⟩,r.hr,aR.refl _ _ _ _,rfl,rfl,fun _ _ h=>h⟩
 ·rename_i n s len
  split at hx
  ·rename_i m0 rs hZ hn
   split at hx
   ·rename_i hc
    obtain⟨rfl,rfl,rfl⟩:=hc
    injection hx with hx
    injection hx with h1 h2
    injection h2 with h2 h3
    subst h1 h2 h3
    have H:=r.hr
    have bi:σ.h n≠none:=by rw[hn];simp
    have hr:=H.row n true m0 s hZ hn
    have fC:eU (G.g n) s 0 hZ.length v:=(hv.dB (by simp)).1 bi
    have nq:hZ.length=(G.g n).px.length:=by rw[hr.er];simp
    refine⟨(G.g n).px,hr.er,jV.Fz H hn (fun _=>rfl),?_,H.del n,aR.del n _,rfl,rfl,fun q b hq=>(kY hq).1⟩
    rcases fC with⟨aD,eH,_,_⟩|⟨aD,a',eH,gh,ha⟩
    ·have g2:=(hr.nl aD).2 rfl
     exact .inl ⟨(G.g n).na,by rw[eH,g2],(hr.nl aD).1⟩
    ·right
     obtain⟨r2,cur,e,r3,r4⟩:=hr.room aD rfl
     obtain⟨l1,l2,l3⟩:=hr.cZ aD
     obtain⟨o1,o2,o3⟩:=H.own n bi aD
     have lm:=ha (.inr rfl)
     refine⟨(G.g n).b,(G.g n).o,(G.g n).cap,cur,e,?_,r3,r4,r2,l3,l2,⟨o1,fun q hq hl=>?_,fun q gr m' ax ak hq hb=>?_⟩,o2,fun b hb=>H.nc bi aD hn hb⟩
     ·rw[eH,lm,nq];simp
     ·obtain⟨q1,q2⟩:=tc hq
      exact H.inj q n q1 bi q2 hl aD
     ·exact H.nc bi aD (kY hq).1 hb rfl
   ·cases hx
  ·cases hx
 ·cases hx
theorem ala {fl:Bool} {sz:Nat} {x:ah} {v:Value} {ys:List (List C)} {m m2:Mode} {σ1 σ2:St} {px:List (List PC)} (eC:0<sz) (H:HR B E w G σ1.h σ1.used []) (F:jV B E w G σ1.h sz m px) (hv:RA w G σ1.h x v)
  (hx:ko fl σ1 sz m x=some (ys,m2,σ2)):
  ∃py:List (List PC),ys=py.map (fun e=>e.map PC.er)/\sV w sz py v/\jV B E w G σ2.h sz m2 (px++py)/\HR B E w G σ2.h σ1.used []/\aR w G σ1.h (fun n=>σ1.used n=true) w G σ2.h/\σ2.env=σ1.env/\σ2.used=σ1.used/\
   (∀n b,σ2.h n=some b->σ1.h n=some b)/\(∀b,aP b py->∀b',¬G.Im b'->(∀q gr mo ax ak,σ1.h q=some (.row gr mo ax ak)->¬aP b' (G.g q).px)->b≠b'):=by
 unfold ko at hx
 have af0:∀b,¬aP b ([]:List (List PC)):=by rintro b ⟨k,j,c,⟨e,he,_⟩,_⟩;simp at he
 split at hx
 ·rename_i s
  injection hx with hx
  injection hx with h1 h2
  injection h2 with h2 h3
  subst h1 h2 h3
  have eH:v=.slice none 0 0:=(hv.dB (by simp)).1
  subst eH
  exact⟨[],rfl,⟨by simp,by rintro k j c ⟨e,he,_⟩;simp at he,none,0,rfl,.inl ⟨rfl,rfl⟩⟩,by simpa using F,H,aR.refl _ _ _ _,rfl,rfl,fun _ _ h=>h,fun b hb=>absurd hb (af0 b)⟩
 ·rename_i s wz
  split at hx
  ·rename_i hs
   subst hs
   obtain⟨pc,e1,e2,e3,e4⟩:=hv.c
   have aT:∃ya c py,pc=.list s ya c py/\py.map (fun e=>e.map PC.er)=wz:=by
    cases pc with
    |int k n=>simp[PC.er] at e1
    |bool b=>simp[PC.er] at e1
    |list s' ya c py=>rw[PC.cN] at e1;injection e1 with e1 e5;subst e1;exact⟨ya,c,py,rfl,e5⟩
   obtain⟨ya,c,py,rfl,e5⟩:=aT
   have hR:sV w s py v:=by rw[<-e2];exact sV.Q1 e3
   have kv:∀b,aP b py->G.Im b:=fun b ⟨k,j,c,hk,hb⟩=>e4 b (.there _ _ _ _ k j c hk hb)
   have mh:∀b,aP b py->∀b',¬G.Im b'->(∀q gr mo ax ak,σ1.h q=some (.row gr mo ax ak)->¬aP b' (G.g q).px)->b≠b':=fun b hb b' aE _ he=>aE (he▸kv b hb)
   split at hx
   ·rename_i gO
    injection hx with hx
    injection hx with h1 h2
    injection h2 with h2 h3
    subst h1 h2 h3
    replace gO:=(Bool.and_eq_true _ _▸gO).2
    rw[<-e5] at gO
    exact⟨py,e5.symm,hR,F.Vl hR.1 hR.2.1 (uf gO) (aao gO),H,aR.refl _ _ _ _,rfl,rfl,fun _ _ h=>h,mh⟩
   ·split at hx
    ·cases hx
    ·rename_i qI
     injection hx with hx
     injection hx with h1 h2
     injection h2 with h2 h3
     subst h1 h2 h3
     refine⟨py,e5.symm,hR,⟨fun e he=>(List.mem_append.1 he).elim (F.len e) (hR.1 e),fun k j c hk=>?_,fun b hb=>(v8 hb).elim (F.UC qI b) (kv b),fun h=>absurd rfl h,(fun h=>by cases h),fun h=>by cases h⟩,H,aR.refl _ _ _ _,rfl,rfl,fun _ _ h=>h,mh⟩
     rcases qj hk with⟨_,h⟩|⟨_,h⟩
     ·exact F.dk _ _ _ h
     ·exact hR.2.1 _ _ _ h
  ·cases hx
 ·rename_i n s lo len
  split at hx
  ·rename_i gr m' rs wz hn
   split at hx
   ·rename_i hc
    obtain⟨rfl,rfl,hl⟩:=hc
    have bi:σ1.h n≠none:=by rw[hn];simp
    have hr:=H.row n gr m' s wz hn
    have fC:eU (G.g n) s lo len v:=(hv.dB (by simp)).1 bi
    obtain⟨q1,q2,q3,q4⟩:=C0 hr fC hl
    have Eo:∃ya c,ix (G.g n) s lo len v=.list s ya c (((G.g n).px.drop lo).take len):=by
     rcases fC with⟨_,rfl,_,_⟩|⟨_,a',rfl,_,_⟩<;>exact⟨_,_,rfl⟩
    obtain⟨ya,c,Eo⟩:=Eo
    rw[Eo] at q1 q2 q3 q4
    have hR:sV w s (((G.g n).px.drop lo).take len) v:=by rw[<-q2];exact sV.Q1 q3
    have lC:(wz.drop lo).take len=(((G.g n).px.drop lo).take len).map (fun e=>e.map PC.er):=by rw[PC.cN] at q1;injection q1 with _ q1;exact q1.symm
    have mh:∀b,aP b (((G.g n).px.drop lo).take len)->∀b',¬G.Im b'->(∀q gr mo ax ak,σ1.h q=some (.row gr mo ax ak)->¬aP b' (G.g q).px)->b≠b':=by
     rintro b ⟨k,j,c,hk,hb⟩ b' _ aE rfl
     exact aE n gr m' s wz hn ⟨_,_,_,(oW hk).1,hb⟩
    split at hx
    ·rename_i gO
     injection hx with hx
     injection hx with h1 h2
     injection h2 with h2 h3
     subst h1 h2 h3
     have zB:=(Bool.and_eq_true _ _▸gO).2
     rw[lC] at zB
     exact⟨_,lC,hR,F.Vl hR.1 hR.2.1 (uf zB) (aao zB),H,aR.refl _ _ _ _,rfl,rfl,fun _ _ h=>h,mh⟩
    ·split at hx
     ·rename_i afH
      obtain⟨rfl,rfl⟩:=afH
      have dC:((G.g n).px.drop 0).take wz.length=(G.g n).px:=by
       have:wz.length=(G.g n).px.length:=by rw[hr.er];simp
       rw[this];simp
      rw[dC] at hR mh
      have F1:=F.del n
      have eQ:∀k j c,At (px++(G.g n).px) k j c->Good w c:=fun k j c hk=>by
       rcases qj hk with⟨_,h⟩|⟨_,h⟩
       ·exact F.dk _ _ _ h
       ·exact hR.2.1 _ _ _ h
      have hlen:∀e∈px++(G.g n).px,e.length=s:=fun e he=>(List.mem_append.1 he).elim (F.len e) (hR.1 e)
      split at hx
      ·rename_i cv
       obtain⟨cv,Es⟩:=cv
       subst cv
       have F2:=jV.Fz H hn Es
       injection hx with hx
       injection hx with h1 h2
       injection h2 with h2 h3
       subst h1 h2 h3
       refine⟨(G.g n).px,hr.er,hR,⟨hlen,eQ,?_,fun hm q aW mo ax ak hq fY b hb=>?_,fun hm b hb q hq hl=>?_,fun hm k c hk=>(qj hk).elim (fun h=>F.nr hm _ _ h.2) (fun h=>F2.nr hm _ _ h.2)⟩,H.del n,aR.del n _,rfl,rfl,fun q b hq=>(kY hq).1,mh⟩
       ·have m1:=F.mode
        have m3:=F2.mode
        cases m with
        |aG=>exact fun b hb=>(v8 hb).elim (m1 b) (m3 b)
        |af=>exact⟨fun b hb=>(v8 hb).elim (m1.1 b) (m3.1 b),Ke m1.2 m3.2 (fun b hb=>F.eV (by simp) n gr .af s wz hn (by simp) b hb)⟩
        |live=>exact⟨fun b hb=>(v8 hb).elim (m1.1 b) (m3.1 b),Ke m1.2 m3.2 (fun b hb=>F.eV (by simp) n gr .live s wz hn (by simp) b hb)⟩
       ·exact(v8 hb).elim (F1.eV hm q aW mo ax ak hq fY b) (F2.eV hm q aW mo ax ak hq fY b)
       ·exact(v8 hb).elim (fun h=>F1.live hm b h q hq hl) (fun h=>F2.live hm b h q hq hl)
      ·split at hx
       ·cases hx
       ·rename_i aD
        have F2:=jV.Fz H hn (fun h=>absurd (.inr h) aD)
        injection hx with hx
        injection hx with h1 h2
        injection h2 with h2 h3
        subst h1 h2 h3
        refine⟨(G.g n).px,hr.er,hR,⟨hlen,eQ,fun b hb=>(v8 hb).elim (F.UC (fun h=>aD (.inl h)) b) (F2.UC (fun h=>aD (.inr h)) b),fun h=>absurd rfl h,(fun h=>by cases h),fun h=>by cases h⟩,H.del n,aR.del n _,rfl,rfl,fun q b hq=>(kY hq).1,mh⟩
     ·cases hx
   ·cases hx
  ·cases hx
 ·cases hx
theorem adj (r:R B E w0 N σ a w G) {n:Nat} {t e:TypeId} {i:TypeInfo} {z:Value} {x y:Operand} {mx my:MO} {fl:Bool} {sz by_:Nat} {xs ys:List (List C)} {m m2:Mode} {σ1 σ2 fE:St}
  (ho:o.op=.call {callee:=.builtin .append,args:=#[x,y],argTypes:=#[t,t]}) (hd:o.dst=some n) (hN:n<N) (eR:bd x mx=true) (fo:bd y my=true)
  (ht:P.underlying t=some (.slice e)) (hi:P.info? e=some i) (hz:i.zero=some z) (bn:i.size=sz) (eC:0<sz) (mg:i.bytes=by_) (u0:0<by_) (pA:z.cells.size=sz)
  (hl:qi σ sz (σ.ev mx)=some (xs,m,σ1)) (hr:ko fl σ1 sz m (σ.ev my)=some (ys,m2,σ2)) (hb:(xs.length+ys.length)*by_<=e8)
  (hx:σ2.ins n (.row true m2 sz (xs++ys))=some fE):
  o.wp P a w (Nx B E w0 N (fE.put o.dst (.one (.sl n sz 0 (xs.length+ys.length))))) Q:=by
 obtain⟨hn,rfl⟩:=iI hx
 obtain⟨x1,x2⟩:=r.ev eR
 obtain⟨y1,y2⟩:=r.ev fo
 obtain⟨px,e1,F1,L1,H1,K1,q1,q2,q3⟩:=ahQ r x1 hl
 have y1':RA w G σ1.h (σ.ev my) (a.eval y):=y1.eJ K1 y2
 rw[<-q2] at H1
 obtain⟨py,e2,R2,F2,H2,K2,p1,p2,p3,mh⟩:=ala eC H1 F1 y1' hr
 rw[q2] at H2
 have nq:xs.length=px.length:=by rw[e1];simp
 have tD:ys.length=py.length:=by rw[e2];simp
 have L2:wF B E w G σ2.h sz m px (a.eval x):=by
  rcases L1 with h|⟨b,o,cap,cur,e',b1,b2,b3,b4,b5,b6,⟨l1,l2,l3⟩,b8,b9⟩
  ·exact .inl h
  ·refine .inr ⟨b,o,cap,cur,e',b1,b2,b3,b4,b5,b6,⟨l1,fun q hq=>?_,fun q gr mo ax ak hq=>l3 q gr mo ax ak (p3 q _ hq)⟩,b8,b9⟩
   cases hh:σ2.h q with
   |none=>exact absurd hh hq
   |some bb=>exact l2 q (by rw[p3 q bb hh];simp)
 obtain⟨u,w',G',aS,r',hv⟩:=r.ab8 (P:=P) (σ2:=σ2) (n:=n) (m:=m) (m2:=m2) (px:=px) (py:=py) (ty:=o.type) (p1.trans q1) (p2.trans q2) H2 (aR.trans (u2:=fun n=>σ1.used n=true) (fun q hq=>by rw[q2];exact hq) K1 K2)
  (by rw[<-q2,<-p2];exact hn) eC F2 F1.len L2 R2 (fun b bL b' o' cap cA vt XO=>by
   rcases L1 with⟨_,h,_⟩|⟨b0,o0,o7,cur,e',b1,b2,b3,b4,b5,b6,⟨l1,l2,l3⟩,b8,b9⟩
   ·rw[h] at vt;injection vt with _ _ vt;omega
   ·rw[b1] at vt
    injection vt with vt
    injection vt with vt
    have BN:=(jF vt).1
    subst BN
    exact mh b bL b0 l1 l3) ht hi hz bn mg u0 pA (by rw[<-nq,<-tD];exact hb)
 have Oz:(px++py).map (fun e=>e.map PC.er)=xs++ys:=by rw[List.map_append,<-e1,<-e2]
 rw[Oz] at r' hv
 rw[<-nq,<-tD] at hv
 refine jk (v:=u) (w':=w') ?_ ⟨G',r'.put hv (fun q hq=>by have db:q=n:=hq;subst db;exact bo _ _ _) (fun q hq=>by rw[hd] at hq;injection hq with hq;omega)⟩
 simp[execOp,ho,resolve,invoke,builtin,aS]
end
end Go.Am
