/- Am14: append. No condition. -/
import Derived.Test.YtifmggmhdcdgbaaAm13
set_option linter.unusedVariables false
namespace Go.Am
theorem ve {α:Type} {px py:List (List α)} {k j:Nat} {c:α} (h:At (px++py) k j c):(k<px.length/\At px k j c)\/(px.length<=k/\At py (k - px.length) j c):=by
 obtain⟨e,he,hj⟩:=h
 rcases Nat.lt_or_ge k px.length with hk|hk
 ·rw[List.getElem?_append_left hk] at he;exact .inl ⟨hk,e,he,hj⟩
 ·rw[List.getElem?_append_right hk] at he;exact .inr ⟨hk,e,he,hj⟩
theorem uz {b:Nat} {px py:List (List PC)} (h:aR b (px++py)):aR b px\/aR b py:=by
 obtain⟨k,j,c,hk,hb⟩:=h
 rcases ve hk with⟨_,h1⟩|⟨_,h1⟩
 ·exact .inl ⟨_,_,_,h1,hb⟩
 ·exact .inr ⟨_,_,_,h1,hb⟩
theorem J0 {px py:List (List PC)} (h1:gI px) (h2:gI py) (h3:∀b,aR b px->¬aR b py):gI (px++py):=by
 refine⟨fun k j c hk=>?_,fun k j c k' j' c' b hk cM aA hb aU=>?_⟩
 ·rcases ve hk with⟨_,h⟩|⟨_,h⟩
  ·exact h1.1 _ _ _ h
  ·exact h2.1 _ _ _ h
 ·rcases ve hk with⟨q,h⟩|⟨q,h⟩<;>rcases ve cM with⟨q',h'⟩|⟨q',h'⟩
  ·exact h1.2 _ _ _ _ _ _ b h h' aA hb aU
  ·exact h3 b ⟨_,_,_,h,hb⟩ ⟨_,_,_,h',aU⟩
  ·exact h3 b ⟨_,_,_,h',aU⟩ ⟨_,_,_,h,hb⟩
  ·refine h2.2 _ _ _ _ _ _ b h h' (fun e=>aA ?_) hb aU
   injection e with e1 e2
   rw[show k=k' by omega,e2]
section
variable {B:Nat} {E:Ex} {w0 w w':World} {G G':Gh} {h h':Nat->Option ar} {used used':Nat->Bool} {tk:List PC} {N:Nat}
variable {P:Program} {o:Oper} {a:Act} {σ σ':St} {Q:Exit->Act->World->Prop}
theorem BJ {py:List (List PC)} (hs:ft (py.map fun e=>e.map PC.er)=true) (b:Nat):¬aR b py:=by
 rintro⟨k,j,c,⟨e,he,hj⟩,hb⟩
 have h1:e.map PC.er∈py.map fun e=>e.map PC.er:=List.mem_map_of_mem (f:=fun e=>e.map PC.er) (List.mem_of_getElem? he)
 have h2:=List.all_eq_true.1 hs _ h1
 have h3:=List.all_eq_true.1 h2 c.er (List.mem_map_of_mem (List.mem_of_getElem? hj))
 exact(Sep.kx (pc:=c) h3).2 b hb
structure kH (B:Nat) (E:Ex) (w:World) (G:Gh) (h:Nat->Option ar) (sz:Nat) (m:Mode) (px:List (List PC)):Prop where
 len:∀e∈px,e.length=sz
 dF:∀k j c,At px k j c->Good w c
 mode:Ch B E w G px m
 e7:m≠ .aE->∀n gr m' aK au,h n=some (.row gr m' aK au)->m'≠ .aE->∀b,aR b px->¬aR b (G.g n).px
 live:m=.live->∀b,aR b px->∀n,h n≠none->(G.g n).nl=false->b≠(G.g n).b
theorem kH.U8 {m:Mode} {sz:Nat} {px py:List (List PC)} (F:kH B E w G h sz m px) (hl:∀e∈py,e.length=sz) (hg:∀k j c,At py k j c->Good w c) (ca:∀b,¬aR b py):kH B E w G h sz m (px++py):=by
 have eT:∀b,aR b (px++py)->aR b px:=fun b hb=>(uz hb).resolve_right (ca b)
 refine⟨fun e he=>(List.mem_append.1 he).elim (F.len e) (hl e),fun k j c hk=>?_,?_,fun hm n gr m' aK au hn bz b hb=>F.e7 hm n gr m' aK au hn bz b (eT b hb),fun hm b hb=>F.live hm b (eT b hb)⟩
 ·rcases ve hk with⟨_,h⟩|⟨_,h⟩
  ·exact F.dF _ _ _ h
  ·exact hg _ _ _ h
 ·have jE:gI py:=⟨fun k j c hk=>Sep.En (fun b hb=>ca b ⟨k,j,c,hk,hb⟩) (hg k j c hk),fun k j c k' j' c' b hk _ _ hb=>absurd ⟨k,j,c,hk,hb⟩ (ca b)⟩
  have hm:=F.mode
  cases m with
  |aE=>exact fun b hb=>hm b (eT b hb)
  |aa=>exact⟨fun b hb=>hm.1 b (eT b hb),J0 hm.2 jE (fun b _=>ca b)⟩
  |live=>exact⟨fun b hb=>hm.1 b (eT b hb),J0 hm.2 jE (fun b _=>ca b)⟩
theorem kH.QX (H:HR B E w G h used []) {n:Nat} {gr:Bool} {m:Mode} {sz:Nat} {xs:List (List C)} (hn:h n=some (.row gr m sz xs)):kH B E w G (av h n none) sz m (G.g n).px:=by
 have hr:=H.row n gr m sz xs hn
 have aL:(G.g n).px≠[]->(G.g n).nl=false:=fun aA=>by
  cases hq:(G.g n).nl with
  |false=>rfl
  |true=>exact absurd (hr.nl hq).1 aA
 refine⟨fun e he=>(hr.dq (aL (List.ne_nil_of_mem he))).2.1.1 e he,fun k j c hk=>?_,hr.mode,fun hm q bf m' aK au hq bz b hb=>?_,fun hm b hb q hq hl=>?_⟩
 ·have aA:(G.g n).px≠[]:=by obtain⟨e,he,_⟩:=hk;exact List.ne_nil_of_mem (List.mem_of_getElem? he)
  exact(hr.dq (aL aA)).2.1.2.2 k j c hk
 ·obtain⟨q1,q2⟩:=ph hq
  exact H.e7 n q gr m sz xs bf m' aK au hn q1 hm bz (Ne.symm q2) b hb
 ·subst hm
  obtain⟨q1,q2⟩:=zP hq
  exact H.live n gr sz xs hn b hb q q1 hl
theorem kH.del {m:Mode} {sz:Nat} {px:List (List PC)} (F:kH B E w G h sz m px) (n:Nat):kH B E w G (av h n none) sz m px:=
 ⟨F.len,F.dF,F.mode,fun hm q gr m' aK au hq bz=>F.e7 hm q gr m' aK au (ph hq).1 bz,fun hm b hb q hq=>F.live hm b hb q (zP hq).1⟩
theorem kH.Ur {m:Mode} {sz:Nat} {px:List (List PC)} (F:kH B E w G h sz m px) (hm:m≠ .live):∀b,aR b px->G.Im b:=by
 intro b hb
 have:=F.mode
 cases m with
 |aE=>exact this b hb
 |aa=>exact(this.1 b hb).1
 |live=>exact absurd rfl hm
def xm (B:Nat) (E:Ex) (w:World) (G:Gh) (h:Nat->Option ar) (sz:Nat) (m:Mode) (px:List (List PC)) (v:Value):Prop:=
 (∃a,v=.slice a 0 0/\px=[])\/
 ∃b o cap cur e,v=.slice (some (ad b o)) px.length cap/\w.heap[b]? =some (.cells cur e (0,0))/\cur.size=o+cap*sz/\cap<=maxLen/\px.length<=cap/\n5 w b o sz px/\
  n3 G h b/\(B<=b\/E b)/\(∀b',aR b' px->b'≠b)
theorem xm.del {m:Mode} {sz:Nat} {px:List (List PC)} {v:Value} (L:xm B E w G h sz m px v) (n:Nat):xm B E w G (av h n none) sz m px v:=by
 rcases L with h1|⟨b,o,cap,cur,e,a1,a2,a3,a4,a5,a6,⟨l1,l2,l3⟩,a8,a9⟩
 ·exact .inl h1
 ·exact .inr ⟨b,o,cap,cur,e,a1,a2,a3,a4,a5,a6,⟨l1,fun q hq=>l2 q (zP hq).1,fun q gr m sz xs hq=>l3 q gr m sz xs (ph hq).1⟩,a8,a9⟩
theorem Mr {px:List (List PC)} {sz:Nat} (hl:∀e∈px,e.length=sz):(px.flatten.map PC.val).length=px.length*sz:=by
 induction px with
 |nil=>simp
 |cons e px ih=>
  have:=ih (fun e he=>hl e (by simp[he]))
  simp only[List.flatten_cons,List.map_append,List.length_append,List.length_cons,Nat.add_mul,this,List.length_map] at*
  rw[hl e (by simp)]
  omega
theorem Mq {α:Type} {sz:Nat} (bA:0<sz):∀{px:List (List α)} (_:∀e∈px,e.length=sz) {i:Nat} {c:α},px.flatten[i]? =some c->∃k j,At px k j c/\i=k*sz+j
 |[],_,i,c,hi=>by simp at hi
 |e::px,hl,i,c,hi=>by
  have h0:=hl e (by simp)
  simp only[List.flatten_cons] at hi
  rcases Nat.lt_or_ge i e.length with bN|Dd
  ·rw[List.getElem?_append_left bN] at hi
   exact⟨0,i,⟨e,rfl,hi⟩,by omega⟩
  ·rw[List.getElem?_append_right Dd] at hi
   obtain⟨k,j,⟨e',he,hj⟩,hk⟩:=Mq bA (px:=px) (fun e he=>hl e (by simp[he])) hi
   exact⟨k+1,j,⟨e',by simpa using he,hj⟩,by rw[Nat.add_mul];omega⟩
theorem am9 {t ty e e':TypeId} {i:TypeInfo} (ht:P.underlying t=some (.slice e)) (hi:P.info? e=some i)
  (g og wL Ss:Nat) (cur:Array Value) (hg:w.heap[g]? =some (.cells cur e' (0,0)))
  (a:Addr) (m c:Nat) (fc:List Value) (hl:fc.length=m*i.size) (rZ:∀j u,fc[j]? =some u->w.cell? (a.add j)=some u) (h1:∀u∈fc,u.oneCell'=true)
  (Du:wL+m<=Ss) (gz:og+wL*i.size+fc.length<=cur.size):
  (Builtin.append_ #[t,t] ty #[.slice (some (ad g og)) wL Ss,.slice (some a) m c]).run P w=.ok (.slice (some (ad g og)) (wL+m) Ss) (dS w g (og+wL*i.size) fc cur):=by
 have hf:=run_firstCells_some (P:=P) w i.size m a m c fc hl rZ
 have mI:=run_storeCells_at P g (og+wL*i.size) e' fc 0 cur w hg (by simpa using gz) h1
 simp only[Nat.add_zero] at mI
 have ha:(ad g og).add (wL*i.size)=⟨g,og+wL*i.size,none⟩:=by rw[nb];simp[ad]
 simp[Builtin.append_,run_underlying ht,sizeOf,typeInfo,hi,Builtin.lenOf,Du,hf,ha,mI,dS]
theorem am8 (w:World) {t e:TypeId} {i:TypeInfo} {z:Value} {ty:TypeId} {sz by_:Nat} (ht:P.underlying t=some (.slice e)) (hi:P.info? e=some i) (hz:i.zero=some z) (bA:i.size=sz) (iw:0<sz) (pw:i.bytes=by_) (xX:0<by_)
  {m:Mode} {px:List (List PC)} {v:Value} (fK:∀e∈px,e.length=sz) (L:xm B E w G h sz m px v) {fc:List Value} {k c:Nat} {ya:Option Addr} (aL:fc.length=k*sz)
  (hy:(ya=none/\k=0)\/∃ay,ya=some ay/\∀(j:Nat) (u:Value),fc[j]? =some u->w.cell? (ay.add j)=some u) (h1:∀u∈fc,u.oneCell'=true) (hb:(px.length+k)*by_<=dA):
  (∃a,k=0/\v=.slice a 0 0/\px=[]/\(Builtin.append_ #[t,t] ty #[v,.slice ya k c]).run P w=.ok (.slice a 0 0) w)\/
  (∃b o cap cur e',v=.slice (some (ad b o)) px.length cap/\w.heap[b]? =some (.cells cur e' (0,0))/\cur.size=o+cap*sz/\cap<=maxLen/\px.length+k<=cap/\n5 w b o sz px/\n3 G h b/\(B<=b\/E b)/\(∀b',aR b' px->b'≠b)/\
   (Builtin.append_ #[t,t] ty #[v,.slice ya k c]).run P w=.ok (.slice (some (ad b o)) (px.length+k) cap) (dS w b (o+px.length*sz) fc cur))\/
  (∃(cap:Nat) (arr:Array Value),px.length+k<=cap/\cap<=maxLen/\arr.size=cap*z.cells.size+(px.length+k)*sz - (px.length+k)*z.cells.size/\(∀(q:Nat) (u:Value),(px.flatten.map PC.val++fc)[q]? =some u->arr[q]? =some u)/\
   (Builtin.append_ #[t,t] ty #[v,.slice ya k c]).run P w=.ok (.slice (some (ad w.heap.size 0)) (px.length+k) cap) (w.drew.alloc (.cells arr e))):=by
 have yb:px.length+k<=dA:=Nat.le_trans (Nat.le_mul_of_pos_right _ xX) hb
 have gA:(dA:Nat)=140737488355328:=rfl
 have Ny:∀fB,grownCap w (px.length+k) fB e<=maxLen:=fun fB=>grownCap_le_maxLen w _ fB e (by simp only[maxLen];omega)
 have Xu:=Mr fK
 have tF:∀fB,((px.flatten.map PC.val).toArray++fc.toArray++Builtin.zeroCells z.cells (grownCap w (px.length+k) fB e - (px.length+k))).size=grownCap w (px.length+k) fB e*z.cells.size+(px.length+k)*sz - (px.length+k)*z.cells.size:=by
  intro fB
  have Dd:=grownCap_ge w (px.length+k) fB e
  have h2:(px.length+k)*z.cells.size<=grownCap w (px.length+k) fB e*z.cells.size:=Nat.mul_le_mul_right _ Dd
  simp only[Array.size_append,List.size_toArray,size_zeroCells,Xu,aL,Nat.sub_mul,Nat.add_mul] at*
  omega
 have mG:∀fB (q:Nat) (u:Value),(px.flatten.map PC.val++fc)[q]? =some u->((px.flatten.map PC.val).toArray++fc.toArray++Builtin.zeroCells z.cells (grownCap w (px.length+k) fB e - (px.length+k)))[q]? =some u:=by
  intro fB q u hq
  have Ie:=(List.getElem?_eq_some_iff.1 hq).1
  rw[Array.getElem?_append_left (by simp only[Array.size_append,List.size_toArray];simpa using Ie)]
  simpa using hq
 rcases L with⟨a,rfl,rfl⟩|⟨b,o,cap,cur,e',rfl,a2,a3,a4,a5,a6,a7,a8,a9⟩
 ·by_cases hk:k=0
  ·subst hk
   left
   have hn:fc=[]:=List.eq_nil_of_length_eq_zero (by simpa using aL)
   refine⟨a,rfl,rfl,rfl,?_⟩
   cases ya<;>cases a<;>simp[Builtin.append_,run_underlying ht,sizeOf,typeInfo,hi,Builtin.lenOf,Builtin.firstCells,loadCells,loadCellsFrom,storeCells]
  ·rcases hy with⟨_,h0⟩|⟨ay,rfl,rZ⟩
   ·exact absurd h0 hk
   right;right
   cases a with
   |none=>
    have hr:=run_append_nil (P:=P) w t ty e i z ht hi hz ay k c fc (by rw[bA];exact aL) rZ (by omega) (by simp only[List.length_nil,Nat.zero_add] at yb;omega) (by rw[pw];simp only[List.length_nil,Nat.zero_add] at hb;omega)
    have h3:=tF 0
    have h4:=mG 0
    have h5:=Ny 0
    simp only[List.length_nil,Nat.zero_add,List.flatten_nil,List.map_nil,List.nil_append] at h3 h4 h5⊢
    exact⟨grownCap w k 0 e,fc.toArray++Builtin.zeroCells z.cells (grownCap w k 0 e - k),grownCap_ge w k 0 e,h5,by simpa using h3,fun q u hq=>by simpa using h4 q u hq,hr⟩
   |some a=>
    have hr:=run_append_grow (P:=P) w t ty e i z ht hi hz a 0 0 [] (by simp) (fun q u hq=>by simp at hq) ay k c fc (by rw[bA];exact aL) rZ (by omega) (by simp only[List.length_nil,Nat.zero_add] at yb;omega) (growslice_fits (by simp only[List.length_nil,Nat.zero_add] at yb;omega) (by rw[pw,Nat.zero_add];rw[List.length_nil,Nat.zero_add] at hb;exact hb))
    have h3:=tF 0
    have h4:=mG 0
    have h5:=Ny 0
    simp only[List.length_nil,Nat.zero_add,List.flatten_nil,List.map_nil,List.nil_append] at h3 h4 h5 hr⊢
    exact⟨_,_,grownCap_ge w k 0 e,h5,by simpa using h3,fun q u hq=>by simpa using h4 q u hq,hr⟩
 ·by_cases Du:px.length+k<=cap
  ·right;left
   refine⟨b,o,cap,cur,e',rfl,a2,a3,a4,Du,a6,a7,a8,a9,?_⟩
   rcases hy with⟨rfl,rfl⟩|⟨ay,rfl,rZ⟩
   ·have hn:fc=[]:=List.eq_nil_of_length_eq_zero (by simpa using aL)
    subst hn
    have af4:dS w b (o+px.length*sz) [] cur=w:=by
     unfold dS
     simp only[List.append_nil,List.length_nil,Nat.add_zero,List.take_append_drop,Array.toArray_toList]
     exact setRow_self w b cur e' (0,0) a2
    rw[af4]
    simp[Builtin.append_,run_underlying ht,sizeOf,typeInfo,hi,Builtin.lenOf,Builtin.firstCells,a5,storeCells]
   ·have hr:=am9 (P:=P) (w:=w) (ty:=ty) ht hi b o px.length cap cur a2 ay k c fc (by rw[bA];exact aL) rZ h1 Du (by
     rw[bA,aL,a3,Nat.add_assoc,<-Nat.add_mul];exact Nat.add_le_add_left (Nat.mul_le_mul_right _ Du) _)
    rw[bA] at hr
    exact hr
  ·rcases hy with⟨_,rfl⟩|⟨ay,rfl,rZ⟩
   ·omega
   right;right
   have hr:=run_append_grow (P:=P) w t ty e i z ht hi hz (ad b o) px.length cap (px.flatten.map PC.val) (by rw[bA];exact Xu) (fun q u hq=>by
    rw[List.getElem?_map] at hq
    cases hf:px.flatten[q]? with
    |none=>rw[hf] at hq;cases hq
    |some pc=>
     rw[hf] at hq
     simp at hq
     subst hq
     obtain⟨k',j',lG,rfl⟩:=Mq iw fK hf
     rw[nb,<-Nat.add_assoc]
     exact a6.2.1 k' j' pc lG) ay k c fc (by rw[bA];exact aL) rZ (by omega) (by omega) (growslice_fits (by omega) (by rw[pw];exact hb))
   exact⟨_,_,grownCap_ge w _ _ _,Ny _,tF _,mG _,hr⟩
def u7 (w:World) (sz:Nat) (py:List (List PC)) (v:Value):Prop:=
 (∀e∈py,e.length=sz)/\(∀k j c,At py k j c->Good w c)/\
 ∃ya c,v=.slice ya py.length c/\((ya=none/\py.length=0)\/∃ay,ya=some ay/\∀(j:Nat) (u:Value),(py.flatten.map PC.val)[j]? =some u->w.cell? (ay.add j)=some u)
theorem u7.ZS {sz:Nat} {ya:Option Addr} {c:Nat} {py:List (List PC)} (hg:Good w (.list sz ya c py)):u7 w sz py (.slice ya py.length c):=by
 cases hg with
 |nil _ _ _ h=>
  refine⟨by simp,by rintro k j c ⟨e,he,_⟩;simp at he,ya,c,rfl,?_⟩
  cases ya with
  |none=>exact .inl ⟨rfl,rfl⟩
  |some ay=>exact .inr ⟨ay,rfl,by simp⟩
 |cons _ b o _ _ h1 h2 h3 h4 h5 h6=>
  refine⟨h4,h6,_,c,rfl,.inr ⟨_,rfl,fun j u hj=>?_⟩⟩
  rw[List.getElem?_map] at hj
  cases hf:py.flatten[j]? with
  |none=>rw[hf] at hj;cases hj
  |some pc=>
   rw[hf] at hj
   simp at hj
   subst hj
   obtain⟨k',j',lG,rfl⟩:=Mq h3 h4 hf
   rw[nb,<-Nat.add_assoc]
   exact h5 k' j' pc lG
theorem R.ack (r:R B E w0 N σ a w G) {σ2:St} (x5:σ2.env=σ.env) (kY:σ2.used=σ.used) (H:HR B E w G σ2.h σ.used []) (K:aV w G σ.h (fun n=>σ.used n=true) w G σ2.h)
  {n:Nat} {sz by_:Nat} {m m2:Mode} {px py:List (List PC)} {v yv:Value} (hn:σ.used n=false) (iw:0<sz) (F:kH B E w G σ2.h sz m2 (px++py)) (fK:∀e∈px,e.length=sz) (L:xm B E w G σ2.h sz m px v) (Ry:u7 w sz py yv)
  (N1:∀b,aR b py->∀b' o cap,0<cap->v=.slice (some (ad b' o)) px.length cap->n3 G σ2.h b'->b≠b')
  {t e:TypeId} {i:TypeInfo} {z:Value} {ty:TypeId} (ht:P.underlying t=some (.slice e)) (hi:P.info? e=some i) (hz:i.zero=some z) (bA:i.size=sz) (pw:i.bytes=by_) (xX:0<by_) (qV:z.cells.size=sz)
  (hb:(px.length+py.length)*by_<=dA):
  ∃u w' G',(Builtin.append_ #[t,t] ty #[v,yv]).run P w=.ok u w'/\
   R B E w0 N {σ2 with h:=av σ2.h n (some (.row true m2 sz ((px++py).map fun e=>e.map PC.er))),used:=av σ2.used n true} a w' G'/\
   RA w' G' (av σ2.h n (some (.row true m2 sz ((px++py).map fun e=>e.map PC.er)))) (.one (.sl n sz 0 (px.length+py.length))) u:=by
 obtain⟨r1,r2,ya,c,rfl,r3⟩:=Ry
 have aL:(py.flatten.map PC.val).length=py.length*sz:=Mr r1
 have h1:∀u∈py.flatten.map PC.val,u.oneCell'=true:=fun u hu=>by obtain⟨pc,_,rfl⟩:=List.mem_map.1 hu;exact PC.jU pc
 have hB:=r.fr.size
 have Xq:(px++py).length=px.length+py.length:=by simp
 have NE:σ2.h n=none:=by
  cases hh:σ2.h n with
  |none=>rfl
  |some b=>have:=H.iq n (by rw[hh];simp);rw[hn] at this;cases this
 have ne:∀q,σ.used q=true->q≠n:=fun q hq e=>by subst e;rw[hn] at hq;cases hq
 have aA:∀q,σ2.h q≠none->q≠n:=fun q hq e=>by subst e;exact hq NE
 rcases am8 (P:=P) w (ty:=ty) ht hi hz bA iw pw xX fK L aL r3 h1 hb with⟨a0,k0,rfl,rfl,bm⟩|⟨b,ob,cap,cur,e',rfl,b2,b3,b4,b5,b6,b7,b8,b9,bm⟩|⟨cap,arr,c1,c2,c3,c4,bm⟩
 ·
  have hpy:py=[]:=List.eq_nil_of_length_eq_zero k0
  subst hpy
  refine⟨_,w,⟨G.Im,av G.g n ⟨true,0,0,0,[],a0⟩⟩,bm,?_,?_⟩
  ·refine r.step (σ':=_) x5 (fun q hq=>by show av σ2.used n true q=true;rw[kY];exact qj n q hq) (aV.trans (u2:=fun n=>σ.used n=true) (fun _ h=>h) K (aV.insert H (blk:=.row true m2 sz []) (p:=⟨true,0,0,0,[],a0⟩) hn (fun _ _=>rfl))) ?_ r.fr
   show HR B E w _ (av σ2.h n (some (.row true m2 sz []))) (av σ2.used n true) []
   rw[kY]
   have ca:∀b,¬aR b ([]:List (List PC)):=by rintro b ⟨k,j,c,⟨e,he,_⟩,_⟩;simp at he
   refine H.insert (p:=⟨true,0,0,0,[],a0⟩) hn (fun _ _=>rfl) (Nat.le_refl _) (fun h=>by cases h) (fun cs c m hb=>by cases hb) ⟨iw,rfl,fun _=>⟨rfl,fun _=>rfl⟩,(fun h=>by cases h),(fun h=>by cases h),?_⟩
    (fun gr m sz xs _ _ n' bf m' aK au _ _ b hb=>absurd hb (ca b)) (fun gr sz xs _ b hb=>absurd hb (ca b)) (fun gr m sz xs _ _ i pc b hi=>by simp at hi)
   have hm:=F.mode
   simp only[List.append_nil] at hm
   exact hm
  ·refine RA.fQ rfl fun _=>.inl ?_
   simp[bw]
 ·
  have Ia:(ob+px.length*sz)+(py.flatten.map PC.val).length<=cur.size:=by rw[aL,b3,Nat.add_assoc,<-Nat.add_mul];exact Nat.add_le_add_left (Nat.mul_le_mul_right _ b5) _
  let w2:=dS w b (ob+px.length*sz) (py.flatten.map PC.val) cur
  have ed:∀x,x≠b->w2.heap[x]? =w.heap[x]? :=fun x hx=>zb x hx
  have HS:∀x,G.Im x->x≠b:=fun x hx he=>b7.1 (he▸hx)
  have tV:∀x,da w x->da w2 x:=fun x hx=>KJ b2 Ia x hx
  have Xs:∀x,aR x (px++py)->x≠b:=fun x hx=>(uz hx).elim (b9 x) (fun h=>N1 x h b ob cap (by obtain⟨k,j,c,⟨e,he,_⟩,_⟩:=h;have:=(List.getElem?_eq_some_iff.1 he).1;omega) rfl b7)
  let p:PB:=⟨false,b,ob,cap,px++py,none⟩
  have K2:aV w G σ2.h (fun n=>σ.used n=true) w2 ⟨G.Im,av G.g n p⟩ (av σ2.h n (some (.row true m2 sz ((px++py).map fun e=>e.map PC.er)))):=by
   refine⟨fun _ h=>h,fun x hx o=>gW (ed x (HS x hx)) o,fun q hq h0=>?_,fun q gr aK au hq h0=>?_⟩
   ·rw[bS _ _ _ _ (ne q hq)] at h0
    simp only[bS _ _ _ _ (ne q hq)]
    exact⟨h0,trivial,trivial,trivial,trivial,trivial⟩
   ·rw[bS _ _ _ _ (ne q hq)] at h0
    simp only[bS _ _ _ _ (ne q hq)]
    exact⟨⟨gr,au,h0⟩,fun k j pc h1 h2=>⟨pc,h1,rfl,h2⟩⟩
  have afq:b<w.heap.size:=(Array.getElem?_eq_some_iff.1 b2).1
  have Hn:HR B E w2 ⟨G.Im,av G.g n p⟩ (av σ2.h n (some (.row true m2 sz ((px++py).map fun e=>e.map PC.er)))) (av σ.used n true) []:=by
   refine H.put (p:=p) (fun x _ hx=>ed x (hx rfl)) (by show w.heap.size<=w2.heap.size;rw[qk];exact Nat.le_refl _) (fun x _ hx=>tV x hx) (fun q hq=>qj n q hq) (bw _ _ _)
    (fun _=>⟨b7.1,b8,by show b<w2.heap.size;rw[qk];exact afq⟩) (fun _ q hq h0 hl=>b7.2.1 q h0 hl) (fun _ q gr aK au hq h0 x hx he=>b7.2.2 q gr .live aK au h0 (by have HZ:x=b:=he;rw[<-HZ];exact hx))
    (fun cs c q hb=>by cases hb) K2 ?_ ?_ ?_ (fun gr m sz xs _ _ i pc b hi=>by simp at hi) (fun _ _ x hx he=>by obtain⟨q,gr,mo,aK,au,_,h0,hxF⟩:=hx;exact b7.2.2 q gr mo aK au h0 (by have HZ:x=b:=he;rw[<-HZ];exact hxF))
   ·refine⟨iw,rfl,(fun h=>by cases h),fun _=>⟨tV b ⟨cur,e',b2⟩,⟨F.len,fun k j c hk=>?_,fun k j c hk=>?_⟩,by show(px++py).length<=cap;rw[Xq];exact b5⟩,fun _ _=>?_,?_⟩
    ·show w2.cell? (ad b (ob+k*sz+j))=some c.val
     rw[B7 b2 Ia]
     have hf:=tq F.len hk
     rw[List.flatten_append] at hf
     have iM:px.flatten.length=px.length*sz:=by have:=Mr fK;rwa[List.length_map] at this
     rcases ve hk with⟨Ad,cM⟩|⟨Ad,cM⟩
     ·rw[if_neg ?_]
      ·exact b6.2.1 k j c cM
      ·rintro⟨q1,_⟩
       have hj:j<sz:=by obtain⟨e1,he,hj⟩:=cM;rw[<-fK e1 (List.mem_of_getElem? he)];exact(List.getElem?_eq_some_iff.1 hj).1
       have:(k+1)*sz<=px.length*sz:=Nat.mul_le_mul_right _ Ad
       rw[Nat.add_mul] at this
       omega
     ·have Dd:px.length*sz<=k*sz+j:=Nat.le_trans (Nat.mul_le_mul_right _ Ad) (Nat.le_add_right _ _)
      have bN:=(List.getElem?_eq_some_iff.1 hf).1
      rw[List.length_append,iM] at bN
      rw[List.getElem?_append_right (by rw[iM];exact Dd),iM] at hf
      rw[if_pos ⟨by omega,by simp only[List.length_map];omega⟩]
      rw[List.getElem?_map,show ob+k*sz+j - (ob+px.length*sz)=k*sz+j - px.length*sz by omega,hf]
      rfl
    ·exact(F.dF k j c hk).congr fun x hx o=>gW (ed x (Xs x ⟨k,j,c,hk,hx⟩)) o
    ·obtain⟨iK,q1,q2⟩:=KI (vs:=py.flatten.map PC.val) (o:=ob+px.length*sz) b2 Ia
     exact⟨b4,iK,e',q1,by rw[q2,b3]⟩
    ·have hm:=F.mode
     cases m2 with
     |aE=>exact hm
     |aa=>exact⟨fun x hx=>⟨(hm.1 x hx).1,tV x (hm.1 x hx).2.1,(hm.1 x hx).2.2⟩,hm.2⟩
     |live=>exact⟨fun x hx=>⟨(hm.1 x hx).1,tV x (hm.1 x hx).2.1,(hm.1 x hx).2.2⟩,hm.2⟩
   ·intro gr m' aK au hb gA q bf mo jS gH eS h0 iu x hx
    injection hb with _ hb _ _
    subst hb
    exact F.e7 gA q bf mo jS gH h0 iu x hx
   ·intro gr aK au hb x hx
    injection hb with _ hb _ _
    exact⟨fun _=>Xs x hx,fun q _ h0 hl=>F.live hb x hx q h0 hl⟩
  refine⟨_,w2,⟨G.Im,av G.g n p⟩,bm,?_,?_⟩
  ·exact r.step (σ':=_) x5 (fun q hq=>by show av σ2.used n true q=true;rw[kY];exact qj n q hq) (aV.trans (u2:=fun n=>σ.used n=true) (fun _ h=>h) K K2)
    (by show HR B E w2 _ _ (av σ2.used n true) [];rw[kY];exact Hn) (r.fr.one b8 (fun x hx Oj=>ed x Oj) (by show w.heap.size<=w2.heap.size;rw[qk];exact Nat.le_refl _) (B8 b2 Ia) rfl rfl rfl)
  ·refine RA.fQ rfl fun _=>.inr ⟨by simp[bw,p],some (ad b ob),?_,?_,?_⟩
   ·simp[bw,p]
   ·simp[bw,p];exact b5
   ·simp[bw,p]
 ·
  let w1:=w.drew
  have hd:∀x:Nat,x<w.heap.size->(w.drew.alloc (.cells arr e)).heap[x]? =w.heap[x]? :=fun x hx=>heap_alloc_old w.drew _ x hx
  have H1:HR B E w.drew G σ2.h σ.used []:=H.grow (w':=w.drew) (fun _ _=>rfl) (Nat.le_refl _)
  have r1:R B E w0 N σ a w.drew G:=r.step (w':=w.drew) rfl (fun _ h=>h) (aV.world (w:=w) (w':=w.drew) (fun _ _=>rfl) _) (r.hr.grow (w':=w.drew) (fun _ _=>rfl) (Nat.le_refl _)) (r.fr.grow (w':=w.drew) (fun _ _=>rfl) (Nat.le_refl _) rfl rfl rfl)
  have K1:aV w.drew G σ.h (fun n=>σ.used n=true) w.drew G σ2.h:=⟨K.im,fun _ _ _=>rfl,K.name,K.live⟩
  have gd:∀k j c,At (px++py) k j c->Good w.drew c:=fun k j c hk=>(F.dF k j c hk).congr fun _ _ _=>rfl
  have tF:∀k j c,At (px++py) k j c->arr[k*sz+j]? =some c.val:=fun k j c hk=>by
   have hf:=tq F.len hk
   refine c4 _ _ ?_
   rw[<-List.map_append,<-List.flatten_append,List.getElem?_map,hf]
   rfl
  have tS:arr.size=cap*sz:=by rw[c3,qV];omega
  have hB2:=r1.fr.size
  let p:PB:=⟨false,w.heap.size,0,cap,px++py,none⟩
  have hw:∀x:Nat,x<w.drew.heap.size->(w.drew.alloc (.cells arr e)).heap[x]? =w.drew.heap[x]? :=hd
  have Hn:HR B E (w.drew.alloc (.cells arr e)) ⟨G.Im,av G.g n p⟩ (av σ2.h n (some (.row true m2 sz ((px++py).map fun e=>e.map PC.er)))) (av σ.used n true) []:=by
   refine H1.insert (p:=p) hn hw (by simp) (fun _=>⟨H1.PN,.inl hB,by simp[p]⟩) (fun cs c m hb=>by cases hb) ?_ ?_ ?_ (fun gr m sz xs _ _ i pc b hi=>by simp at hi)
   ·refine⟨iw,rfl,(fun h=>by cases h),fun _=>⟨da.alloc _ _ _,⟨F.len,fun k j c hk=>?_,fun k j c hk=>?_⟩,by show(px++py).length<=cap;rw[Xq];exact c1⟩,fun _ _=>⟨c2,arr,e,heap_alloc_new w.drew _,(Nat.zero_add _).symm▸tS⟩,?_⟩
    ·show(w.drew.alloc (.cells arr e)).cell? (ad w.drew.heap.size (0+k*sz+j))=some c.val
     simp only[Nat.zero_add]
     unfold ad
     rw[World.cell?_alloc_new]
     exact tF k j c hk
    ·exact(gd k j c hk).congr fun x hx o=>gW (hw x ((gd k j c hk).lt hx)) o
    ·have hm:=F.mode
     have hu:∀x,da w x->da (w.drew.alloc (.cells arr e)) x:=fun x hx=>hx.congr (hd x hx.lt)
     cases m2 with
     |aE=>exact hm
     |aa=>exact⟨fun x hx=>⟨(hm.1 x hx).1,hu x (hm.1 x hx).2.1,(hm.1 x hx).2.2⟩,hm.2⟩
     |live=>exact⟨fun x hx=>⟨(hm.1 x hx).1,hu x (hm.1 x hx).2.1,(hm.1 x hx).2.2⟩,hm.2⟩
   ·intro gr m' aK au hb gA q bf mo jS gH h0 iu x hx
    injection hb with _ hb _ _
    subst hb
    exact F.e7 gA q bf mo jS gH h0 iu x hx
   ·intro gr aK au hb x hx
    injection hb with _ hb _ _
    refine⟨fun _=>?_,fun q h0 hl=>F.live hb x hx q h0 hl⟩
    obtain⟨k,j,c,hk,hxc⟩:=hx
    have:=(F.dF k j c hk).lt hxc
    show x≠w.heap.size
    omega
  refine⟨_,_,⟨G.Im,av G.g n p⟩,bm,?_,?_⟩
  ·exact r1.step (σ':=_) x5 (fun q hq=>by show av σ2.used n true q=true;rw[kY];exact qj n q hq) (aV.trans (u2:=fun n=>σ.used n=true) (fun _ h=>h) K1 (aV.insert H1 hn hw))
    (by show HR B E _ _ _ (av σ2.used n true) [];rw[kY];exact Hn) (r1.fr.grow hw (by simp) rfl rfl rfl)
  ·refine RA.fQ rfl fun _=>.inr ⟨by simp[bw,p],some (ad w.heap.size 0),?_,?_,?_⟩
   ·simp[bw,p]
   ·simp[bw,p];exact c1
   ·simp[bw,p]
theorem ajx (r:R B E w0 N σ a w G) {sz:Nat} {x:ai} {v:Value} {xs:List (List C)} {m:Mode} {σ1:St} (hv:RA w G σ.h x v) (hx:pd σ sz x=some (xs,m,σ1)):
  ∃px:List (List PC),xs=px.map (fun e=>e.map PC.er)/\kH B E w G σ1.h sz m px/\xm B E w G σ1.h sz m px v/\HR B E w G σ1.h σ.used []/\aV w G σ.h (fun n=>σ.used n=true) w G σ1.h/\σ1.env=σ.env/\σ1.used=σ.used/\
   (∀n b,σ1.h n=some b->σ.h n=some b):=by
 unfold pd at hx
 split at hx
 ·rename_i s
  injection hx with hx
  injection hx with h1 h2
  injection h2 with h2 h3
  subst h1 h2 h3
  have fi:v=.slice none 0 0:=(hv.eX (by simp)).1
  have ca:∀b,¬aR b ([]:List (List PC)):=by rintro b ⟨k,j,c,⟨e,he,_⟩,_⟩;simp at he
  exact⟨[],rfl,⟨by simp,by rintro k j c ⟨e,he,_⟩;simp at he,⟨fun b hb=>absurd hb (ca b),(by rintro k j c ⟨e,he,_⟩;simp at he),(by rintro k j c k' j' c' b ⟨e,he,_⟩;simp at he)⟩,fun _ _ _ _ _ _ _ _ b hb=>absurd hb (ca b),fun _ b hb=>absurd hb (ca b)⟩,
   .inl ⟨none,fi,rfl⟩,r.hr,aV.refl _ _ _ _,rfl,rfl,fun _ _ h=>h⟩
 ·rename_i n s len
  split at hx
  ·rename_i m0 rs jX hn
   split at hx
   ·rename_i hc
    obtain⟨rfl,rfl,rfl⟩:=hc
    injection hx with hx
    injection hx with h1 h2
    injection h2 with h2 h3
    subst h1 h2 h3
    have H:=r.hr
    have bF:σ.h n≠none:=by rw[hn];simp
    have hr:=H.row n true m0 s jX hn
    have gh:jc (G.g n) s 0 jX.length v:=(hv.eX (by simp)).1 bF
    have pE:jX.length=(G.g n).px.length:=by rw[hr.er];simp
    refine⟨(G.g n).px,hr.er,kH.QX H hn,?_,H.del n,aV.del n _,rfl,rfl,fun q b hq=>(ph hq).1⟩
    rcases gh with⟨aL,fi,_,_⟩|⟨aL,a',fi,jA,ha⟩
    ·have g2:=(hr.nl aL).2 rfl
     exact .inl ⟨(G.g n).na,by rw[fi,g2],(hr.nl aL).1⟩
    ·right
     obtain⟨r2,cur,e,r3,r4⟩:=hr.room aL rfl
     obtain⟨l1,l2,l3⟩:=hr.dq aL
     obtain⟨o1,o2,o3⟩:=H.own n bF aL
     have rU:=ha (.inr rfl)
     refine⟨(G.g n).b,(G.g n).o,(G.g n).cap,cur,e,?_,r3,r4,r2,l3,l2,⟨o1,fun q hq hl=>?_,fun q gr m' aK au hq hb=>?_⟩,o2,fun b hb=>H.rR bF aL hn hb⟩
     ·rw[fi,rU,pE];simp
     ·obtain⟨q1,q2⟩:=zP hq
      exact H.inj q n q1 bF q2 hl aL
     ·exact H.rR bF aL (ph hq).1 hb rfl
   ·cases hx
  ·cases hx
 ·cases hx
theorem amU {fl:Bool} {sz:Nat} {x:ai} {v:Value} {ys:List (List C)} {m m2:Mode} {σ1 σ2:St} {px:List (List PC)} (iw:0<sz) (H:HR B E w G σ1.h σ1.used []) (F:kH B E w G σ1.h sz m px) (hv:RA w G σ1.h x v)
  (hx:kK fl σ1 sz m x=some (ys,m2,σ2)):
  ∃py:List (List PC),ys=py.map (fun e=>e.map PC.er)/\u7 w sz py v/\kH B E w G σ2.h sz m2 (px++py)/\HR B E w G σ2.h σ1.used []/\aV w G σ1.h (fun n=>σ1.used n=true) w G σ2.h/\σ2.env=σ1.env/\σ2.used=σ1.used/\
   (∀n b,σ2.h n=some b->σ1.h n=some b)/\(∀b,aR b py->∀b',¬G.Im b'->(∀q gr mo aK au,σ1.h q=some (.row gr mo aK au)->¬aR b' (G.g q).px)->b≠b'):=by
 unfold kK at hx
 have afR:∀b,¬aR b ([]:List (List PC)):=by rintro b ⟨k,j,c,⟨e,he,_⟩,_⟩;simp at he
 split at hx
 ·rename_i s
  injection hx with hx
  injection hx with h1 h2
  injection h2 with h2 h3
  subst h1 h2 h3
  have fi:v=.slice none 0 0:=(hv.eX (by simp)).1
  subst fi
  exact⟨[],rfl,⟨by simp,by rintro k j c ⟨e,he,_⟩;simp at he,none,0,rfl,.inl ⟨rfl,rfl⟩⟩,by simpa using F,H,aV.refl _ _ _ _,rfl,rfl,fun _ _ h=>h,fun b hb=>absurd hb (afR b)⟩
 ·rename_i s uO
  split at hx
  ·rename_i hs
   subst hs
   obtain⟨pc,e1,e2,e3,e4⟩:=hv.c
   have aZ:∃ya c py,pc=.list s ya c py/\py.map (fun e=>e.map PC.er)=uO:=by
    cases pc with
    |int k n=>simp[PC.er] at e1
    |bool b=>simp[PC.er] at e1
    |list s' ya c py=>rw[PC.df] at e1;injection e1 with e1 e5;subst e1;exact⟨ya,c,py,rfl,e5⟩
   obtain⟨ya,c,py,rfl,e5⟩:=aZ
   have hR:u7 w s py v:=by rw[<-e2];exact u7.ZS e3
   have lF:∀b,aR b py->G.Im b:=fun b ⟨k,j,c,hk,hb⟩=>e4 b (.there _ _ _ _ k j c hk hb)
   have oq:∀b,aR b py->∀b',¬G.Im b'->(∀q gr mo aK au,σ1.h q=some (.row gr mo aK au)->¬aR b' (G.g q).px)->b≠b':=fun b hb b' aU _ he=>aU (he▸lF b hb)
   split at hx
   ·rename_i r6
    injection hx with hx
    injection hx with h1 h2
    injection h2 with h2 h3
    subst h1 h2 h3
    replace r6:=(Bool.and_eq_true _ _▸r6).2
    rw[<-e5] at r6
    exact⟨py,e5.symm,hR,F.U8 hR.1 hR.2.1 (BJ r6),H,aV.refl _ _ _ _,rfl,rfl,fun _ _ h=>h,oq⟩
   ·split at hx
    ·cases hx
    ·rename_i rW
     injection hx with hx
     injection hx with h1 h2
     injection h2 with h2 h3
     subst h1 h2 h3
     refine⟨py,e5.symm,hR,⟨fun e he=>(List.mem_append.1 he).elim (F.len e) (hR.1 e),fun k j c hk=>?_,fun b hb=>(uz hb).elim (F.Ur rW b) (lF b),fun h=>absurd rfl h,fun h=>by cases h⟩,H,aV.refl _ _ _ _,rfl,rfl,fun _ _ h=>h,oq⟩
     rcases ve hk with⟨_,h⟩|⟨_,h⟩
     ·exact F.dF _ _ _ h
     ·exact hR.2.1 _ _ _ h
  ·cases hx
 ·rename_i n s lo len
  split at hx
  ·rename_i gr m' rs uO hn
   split at hx
   ·rename_i hc
    obtain⟨rfl,rfl,hl⟩:=hc
    have bF:σ1.h n≠none:=by rw[hn];simp
    have hr:=H.row n gr m' s uO hn
    have gh:jc (G.g n) s lo len v:=(hv.eX (by simp)).1 bF
    obtain⟨q1,q2,q3,q4⟩:=EM hr gh hl
    have NG:∃ya c,jQ (G.g n) s lo len v=.list s ya c (((G.g n).px.drop lo).take len):=by
     rcases gh with⟨_,rfl,_,_⟩|⟨_,a',rfl,_,_⟩<;>exact⟨_,_,rfl⟩
    obtain⟨ya,c,NG⟩:=NG
    rw[NG] at q1 q2 q3 q4
    have hR:u7 w s (((G.g n).px.drop lo).take len) v:=by rw[<-q2];exact u7.ZS q3
    have qU:(uO.drop lo).take len=(((G.g n).px.drop lo).take len).map (fun e=>e.map PC.er):=by rw[PC.df] at q1;injection q1 with _ q1;exact q1.symm
    have oq:∀b,aR b (((G.g n).px.drop lo).take len)->∀b',¬G.Im b'->(∀q gr mo aK au,σ1.h q=some (.row gr mo aK au)->¬aR b' (G.g q).px)->b≠b':=by
     rintro b ⟨k,j,c,hk,hb⟩ b' _ aU rfl
     exact aU n gr m' s uO hn ⟨_,_,_,(n7 hk).1,hb⟩
    split at hx
    ·rename_i r6
     injection hx with hx
     injection hx with h1 h2
     injection h2 with h2 h3
     subst h1 h2 h3
     have XC:=(Bool.and_eq_true _ _▸r6).2
     rw[qU] at XC
     exact⟨_,qU,hR,F.U8 hR.1 hR.2.1 (BJ XC),H,aV.refl _ _ _ _,rfl,rfl,fun _ _ h=>h,oq⟩
    ·split at hx
     ·rename_i afC
      obtain⟨rfl,rfl⟩:=afC
      have e8:((G.g n).px.drop 0).take uO.length=(G.g n).px:=by
       have:uO.length=(G.g n).px.length:=by rw[hr.er];simp
       rw[this];simp
      rw[e8] at hR oq
      have F2:=kH.QX H hn
      have F1:=F.del n
      have gd:∀k j c,At (px++(G.g n).px) k j c->Good w c:=fun k j c hk=>by
       rcases ve hk with⟨_,h⟩|⟨_,h⟩
       ·exact F.dF _ _ _ h
       ·exact F2.dF _ _ _ h
      have hlen:∀e∈px++(G.g n).px,e.length=s:=fun e he=>(List.mem_append.1 he).elim (F.len e) (F2.len e)
      split at hx
      ·rename_i cA
       subst cA
       injection hx with hx
       injection hx with h1 h2
       injection h2 with h2 h3
       subst h1 h2 h3
       refine⟨(G.g n).px,hr.er,hR,⟨hlen,gd,?_,fun hm q bf mo aK au hq iu b hb=>?_,fun hm b hb q hq hl=>?_⟩,H.del n,aV.del n _,rfl,rfl,fun q b hq=>(ph hq).1,oq⟩
       ·have m1:=F.mode
        have m3:=F2.mode
        cases m with
        |aE=>exact fun b hb=>(uz hb).elim (m1 b) (m3 b)
        |aa=>exact⟨fun b hb=>(uz hb).elim (m1.1 b) (m3.1 b),J0 m1.2 m3.2 (fun b hb=>F.e7 (by simp) n gr .aa s uO hn (by simp) b hb)⟩
        |live=>exact⟨fun b hb=>(uz hb).elim (m1.1 b) (m3.1 b),J0 m1.2 m3.2 (fun b hb=>F.e7 (by simp) n gr .live s uO hn (by simp) b hb)⟩
       ·exact(uz hb).elim (F1.e7 hm q bf mo aK au hq iu b) (F2.e7 hm q bf mo aK au hq iu b)
       ·exact(uz hb).elim (fun h=>F1.live hm b h q hq hl) (fun h=>F2.live hm b h q hq hl)
      ·split at hx
       ·cases hx
       ·rename_i aL
        injection hx with hx
        injection hx with h1 h2
        injection h2 with h2 h3
        subst h1 h2 h3
        refine⟨(G.g n).px,hr.er,hR,⟨hlen,gd,fun b hb=>(uz hb).elim (F.Ur (fun h=>aL (.inl h)) b) (F2.Ur (fun h=>aL (.inr h)) b),fun h=>absurd rfl h,fun h=>by cases h⟩,H.del n,aV.del n _,rfl,rfl,fun q b hq=>(ph hq).1,oq⟩
     ·cases hx
   ·cases hx
  ·cases hx
 ·cases hx
theorem adq (r:R B E w0 N σ a w G) {n:Nat} {t e:TypeId} {i:TypeInfo} {z:Value} {x y:Operand} {mx my:MO} {fl:Bool} {sz by_:Nat} {xs ys:List (List C)} {m m2:Mode} {σ1 σ2 f9:St}
  (ho:o.op=.call {callee:=.builtin .append,args:=#[x,y],argTypes:=#[t,t]}) (hd:o.dst=some n) (hN:n<N) (ir:bq x mx=true) (gY:bq y my=true)
  (ht:P.underlying t=some (.slice e)) (hi:P.info? e=some i) (hz:i.zero=some z) (bA:i.size=sz) (iw:0<sz) (pw:i.bytes=by_) (xX:0<by_) (qV:z.cells.size=sz)
  (hl:pd σ sz (σ.ev mx)=some (xs,m,σ1)) (hr:kK fl σ1 sz m (σ.ev my)=some (ys,m2,σ2)) (hb:(xs.length+ys.length)*by_<=dA)
  (hx:σ2.ins n (.row true m2 sz (xs++ys))=some f9):
  o.wp P a w (Nx B E w0 N (f9.put o.dst (.one (.sl n sz 0 (xs.length+ys.length))))) Q:=by
 obtain⟨hn,rfl⟩:=lO hx
 obtain⟨x1,x2⟩:=r.ev ir
 obtain⟨y1,y2⟩:=r.ev gY
 obtain⟨px,e1,F1,L1,H1,K1,q1,q2,q3⟩:=ajx r x1 hl
 have y1':RA w G σ1.h (σ.ev my) (a.eval y):=y1.ek K1 y2
 rw[<-q2] at H1
 obtain⟨py,e2,R2,F2,H2,K2,p1,p2,p3,oq⟩:=amU iw H1 F1 y1' hr
 rw[q2] at H2
 have pE:xs.length=px.length:=by rw[e1];simp
 have Au:ys.length=py.length:=by rw[e2];simp
 have L2:xm B E w G σ2.h sz m px (a.eval x):=by
  rcases L1 with h|⟨b,o,cap,cur,e',b1,b2,b3,b4,b5,b6,⟨l1,l2,l3⟩,b8,b9⟩
  ·exact .inl h
  ·refine .inr ⟨b,o,cap,cur,e',b1,b2,b3,b4,b5,b6,⟨l1,fun q hq=>?_,fun q gr mo aK au hq=>l3 q gr mo aK au (p3 q _ hq)⟩,b8,b9⟩
   cases hh:σ2.h q with
   |none=>exact absurd hh hq
   |some bb=>exact l2 q (by rw[p3 q bb hh];simp)
 obtain⟨u,w',G',bm,r',hv⟩:=r.ack (P:=P) (σ2:=σ2) (n:=n) (m:=m) (m2:=m2) (px:=px) (py:=py) (ty:=o.type) (p1.trans q1) (p2.trans q2) H2 (aV.trans (u2:=fun n=>σ1.used n=true) (fun q hq=>by rw[q2];exact hq) K1 K2)
  (by rw[<-q2,<-p2];exact hn) iw F2 F1.len L2 R2 (fun b bW b' o' cap dQ tW Xr=>by
   rcases L1 with⟨_,h,_⟩|⟨b0,o0,vi,cur,e',b1,b2,b3,b4,b5,b6,⟨l1,l2,l3⟩,b8,b9⟩
   ·rw[h] at tW;injection tW with _ _ tW;omega
   ·rw[b1] at tW
    injection tW with tW
    injection tW with tW
    have z9:=(nc tW).1
    subst z9
    exact oq b bW b0 l1 l3) ht hi hz bA pw xX qV (by rw[<-pE,<-Au];exact hb)
 have NX:(px++py).map (fun e=>e.map PC.er)=xs++ys:=by rw[List.map_append,<-e1,<-e2]
 rw[NX] at r' hv
 rw[<-pE,<-Au] at hv
 refine m6 (v:=u) (w':=w') ?_ ⟨G',r'.put hv (fun q hq=>by have dH:q=n:=hq;subst dH;exact bw _ _ _) (fun q hq=>by rw[hd] at hq;injection hq with hq;omega)⟩
 simp[execOp,ho,resolve,invoke,builtin,bm]
end
end Go.Am
