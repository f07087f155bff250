/- Am14: append. No condition. -/
import Derived.Test.YtfkfmbhknekkdaaAm13
set_option linter.unusedVariables false
namespace Go.Am
theorem tD {α:Type} {px py:List (List α)} {k j:Nat} {c:α} (h:At (px++py) k j c):(k<px.length/\At px k j c)\/(px.length<=k/\At py (k - px.length) j c):=by
 obtain⟨e,he,hj⟩:=h
 rcases Nat.lt_or_ge k px.length with hk|hk
 ·rw[List.getElem?_append_left hk] at he;exact .inl ⟨hk,e,he,hj⟩
 ·rw[List.getElem?_append_right hk] at he;exact .inr ⟨hk,e,he,hj⟩
theorem s6 {b:Nat} {px py:List (List PC)} (h:aN b (px++py)):aN b px\/aN b py:=by
 obtain⟨k,j,c,hk,hb⟩:=h
 rcases tD hk with⟨_,h1⟩|⟨_,h1⟩
 ·exact .inl ⟨_,_,_,h1,hb⟩
 ·exact .inr ⟨_,_,_,h1,hb⟩
theorem GK {px py:List (List PC)} (h1:gx px) (h2:gx py) (h3:∀b,aN b px->¬aN b py):gx (px++py):=by
 refine⟨fun k j c hk=>?_,fun k j c k' j' c' b hk cC av hb aL=>?_⟩
 ·rcases tD hk with⟨_,h⟩|⟨_,h⟩
  ·exact h1.1 _ _ _ h
  ·exact h2.1 _ _ _ h
 ·rcases tD hk with⟨q,h⟩|⟨q,h⟩<;>rcases tD cC with⟨q',h'⟩|⟨q',h'⟩
  ·exact h1.2 _ _ _ _ _ _ b h h' av hb aL
  ·exact h3 b ⟨_,_,_,h,hb⟩ ⟨_,_,_,h',aL⟩
  ·exact h3 b ⟨_,_,_,h',aL⟩ ⟨_,_,_,h,hb⟩
  ·refine h2.2 _ _ _ _ _ _ b h h' (fun e=>av ?_) hb aL
   injection e with e1 e2
   rw[show k=k' by omega,e2]
section
variable {B:Nat} {E:Ex} {w0 w w':World} {G G':Gh} {h h':Nat->Option ak} {used used':Nat->Bool} {tk:List PC} {N:Nat}
variable {P:Program} {o:Oper} {a:Act} {σ σ':St} {Q:Exit->Act->World->Prop}
theorem zS {py:List (List PC)} (hs:fB (py.map fun e=>e.map PC.er)=true) (b:Nat):¬aN b py:=by
 rintro⟨k,j,c,⟨e,he,hj⟩,hb⟩
 have h1:e.map PC.er∈py.map fun e=>e.map PC.er:=List.mem_map_of_mem (f:=fun e=>e.map PC.er) (List.mem_of_getElem? he)
 have h2:=List.all_eq_true.1 hs _ h1
 have h3:=List.all_eq_true.1 h2 c.er (List.mem_map_of_mem (List.mem_of_getElem? hj))
 exact(Sep.jI (pc:=c) h3).2 b hb
structure jP (B:Nat) (E:Ex) (w:World) (G:Gh) (h:Nat->Option ak) (sz:Nat) (m:Mode) (px:List (List PC)):Prop where
 len:∀e∈px,e.length=sz
 dA:∀k j c,At px k j c->Good w c
 mode:Az B E w G px m
 fg:m≠ .aF->∀n gr m' aC ao,h n=some (.row gr m' aC ao)->m'≠ .aF->∀b,aN b px->¬aN b (G.g n).px
 live:m=.live->∀b,aN b px->∀n,h n≠none->(G.g n).nl=false->b≠(G.g n).b
theorem jP.Ra {m:Mode} {sz:Nat} {px py:List (List PC)} (F:jP B E w G h sz m px) (hl:∀e∈py,e.length=sz) (hg:∀k j c,At py k j c->Good w c) (cq:∀b,¬aN b py):jP B E w G h sz m (px++py):=by
 have eA:∀b,aN b (px++py)->aN b px:=fun b hb=>(s6 hb).resolve_right (cq b)
 refine⟨fun e he=>(List.mem_append.1 he).elim (F.len e) (hl e),fun k j c hk=>?_,?_,fun hm n gr m' aC ao hn bx b hb=>F.fg hm n gr m' aC ao hn bx b (eA b hb),fun hm b hb=>F.live hm b (eA b hb)⟩
 ·rcases tD hk with⟨_,h⟩|⟨_,h⟩
  ·exact F.dA _ _ _ h
  ·exact hg _ _ _ h
 ·have je:gx py:=⟨fun k j c hk=>Sep.CD (fun b hb=>cq b ⟨k,j,c,hk,hb⟩) (hg k j c hk),fun k j c k' j' c' b hk _ _ hb=>absurd ⟨k,j,c,hk,hb⟩ (cq b)⟩
  have hm:=F.mode
  cases m with
  |aF=>exact fun b hb=>hm b (eA b hb)
  |aj=>exact⟨fun b hb=>hm.1 b (eA b hb),GK hm.2 je (fun b _=>cq b)⟩
  |live=>exact⟨fun b hb=>hm.1 b (eA b hb),GK hm.2 je (fun b _=>cq b)⟩
theorem jP.NA (H:HR B E w G h used []) {n:Nat} {gr:Bool} {m:Mode} {sz:Nat} {xs:List (List C)} (hn:h n=some (.row gr m sz xs)):jP B E w G (aq h n none) sz m (G.g n).px:=by
 have hr:=H.row n gr m sz xs hn
 have aE:(G.g n).px≠[]->(G.g n).nl=false:=fun av=>by
  cases hq:(G.g n).nl with
  |false=>rfl
  |true=>exact absurd (hr.nl hq).1 av
 refine⟨fun e he=>(hr.dv (aE (List.ne_nil_of_mem he))).2.1.1 e he,fun k j c hk=>?_,hr.mode,fun hm q aU m' aC ao hq bx b hb=>?_,fun hm b hb q hq hl=>?_⟩
 ·have av:(G.g n).px≠[]:=by obtain⟨e,he,_⟩:=hk;exact List.ne_nil_of_mem (List.mem_of_getElem? he)
  exact(hr.dv (aE av)).2.1.2.2 k j c hk
 ·obtain⟨q1,q2⟩:=nQ hq
  exact H.fg n q gr m sz xs aU m' aC ao hn q1 hm bx (Ne.symm q2) b hb
 ·subst hm
  obtain⟨q1,q2⟩:=yk hq
  exact H.live n gr sz xs hn b hb q q1 hl
theorem jP.del {m:Mode} {sz:Nat} {px:List (List PC)} (F:jP B E w G h sz m px) (n:Nat):jP B E w G (aq h n none) sz m px:=
 ⟨F.len,F.dA,F.mode,fun hm q gr m' aC ao hq bx=>F.fg hm q gr m' aC ao (nQ hq).1 bx,fun hm b hb q hq=>F.live hm b hb q (yk hq).1⟩
theorem jP.Qo {m:Mode} {sz:Nat} {px:List (List PC)} (F:jP B E w G h sz m px) (hm:m≠ .live):∀b,aN b px->G.Im b:=by
 intro b hb
 have:=F.mode
 cases m with
 |aF=>exact this b hb
 |aj=>exact(this.1 b hb).1
 |live=>exact absurd rfl hm
def vt (B:Nat) (E:Ex) (w:World) (G:Gh) (h:Nat->Option ak) (sz:Nat) (m:Mode) (px:List (List PC)) (v:Value):Prop:=
 (∃a,v=.slice a 0 0/\px=[])\/
 ∃b o cap cur e,v=.slice (some (ad b o)) px.length cap/\w.heap[b]? =some (.cells cur e (0,0))/\cur.size=o+cap*sz/\cap<=maxLen/\px.length<=cap/\mQ w b o sz px/\
  mP G h b/\(B<=b\/E b)/\(∀b',aN b' px->b'≠b)
theorem vt.del {m:Mode} {sz:Nat} {px:List (List PC)} {v:Value} (L:vt B E w G h sz m px v) (n:Nat):vt B E w G (aq h n none) sz m px v:=by
 rcases L with h1|⟨b,o,cap,cur,e,a1,a2,a3,a4,a5,a6,⟨l1,l2,l3⟩,a8,a9⟩
 ·exact .inl h1
 ·exact .inr ⟨b,o,cap,cur,e,a1,a2,a3,a4,a5,a6,⟨l1,fun q hq=>l2 q (yk hq).1,fun q gr m sz xs hq=>l3 q gr m sz xs (nQ hq).1⟩,a8,a9⟩
theorem JD {px:List (List PC)} {sz:Nat} (hl:∀e∈px,e.length=sz):(px.flatten.map PC.val).length=px.length*sz:=by
 induction px with
 |nil=>simp
 |cons e px ih=>
  have:=ih (fun e he=>hl e (by simp[he]))
  simp only[List.flatten_cons,List.map_append,List.length_append,List.length_cons,Nat.add_mul,this,List.length_map] at*
  rw[hl e (by simp)]
  omega
theorem JC {α:Type} {sz:Nat} (bo:0<sz):∀{px:List (List α)} (_:∀e∈px,e.length=sz) {i:Nat} {c:α},px.flatten[i]? =some c->∃k j,At px k j c/\i=k*sz+j
 |[],_,i,c,hi=>by simp at hi
 |e::px,hl,i,c,hi=>by
  have h0:=hl e (by simp)
  simp only[List.flatten_cons] at hi
  rcases Nat.lt_or_ge i e.length with bB|BF
  ·rw[List.getElem?_append_left bB] at hi
   exact⟨0,i,⟨e,rfl,hi⟩,by omega⟩
  ·rw[List.getElem?_append_right BF] at hi
   obtain⟨k,j,⟨e',he,hj⟩,hk⟩:=JC bo (px:=px) (fun e he=>hl e (by simp[he])) hi
   exact⟨k+1,j,⟨e',by simpa using he,hj⟩,by rw[Nat.add_mul];omega⟩
theorem aj2 {t ty e e':TypeId} {i:TypeInfo} (ht:P.underlying t=some (.slice e)) (hi:P.info? e=some i)
  (g og uU OJ:Nat) (cur:Array Value) (hg:w.heap[g]? =some (.cells cur e' (0,0)))
  (a:Addr) (m c:Nat) (fh:List Value) (hl:fh.length=m*i.size) (qU:∀j u,fh[j]? =some u->w.cell? (a.add j)=some u) (h1:∀u∈fh,u.oneCell'=true)
  (BT:uU+m<=OJ) (fJ:og+uU*i.size+fh.length<=cur.size):
  (Builtin.append_ #[t,t] ty #[.slice (some (ad g og)) uU OJ,.slice (some a) m c]).run P w=.ok (.slice (some (ad g og)) (uU+m) OJ) (dY w g (og+uU*i.size) fh cur):=by
 have hf:=run_firstCells_some (P:=P) w i.size m a m c fh hl qU
 have lE:=run_storeCells_at P g (og+uU*i.size) e' fh 0 cur w hg (by simpa using fJ) h1
 simp only[Nat.add_zero] at lE
 have ha:(ad g og).add (uU*i.size)=⟨g,og+uU*i.size,none⟩:=by rw[lV];simp[ad]
 simp[Builtin.append_,run_underlying ht,sizeOf,typeInfo,hi,Builtin.lenOf,BT,hf,ha,lE,dY]
theorem aj1 (w:World) {t e:TypeId} {i:TypeInfo} {z:Value} {ty:TypeId} {sz by_:Nat} (ht:P.underlying t=some (.slice e)) (hi:P.info? e=some i) (hz:i.zero=some z) (bo:i.size=sz) (ic:0<sz) (ma:i.bytes=by_) (wa:0<by_)
  {m:Mode} {px:List (List PC)} {v:Value} (eH:∀e∈px,e.length=sz) (L:vt B E w G h sz m px v) {fh:List Value} {k c:Nat} {ya:Option Addr} (aE:fh.length=k*sz)
  (hy:(ya=none/\k=0)\/∃ay,ya=some ay/\∀(j:Nat) (u:Value),fh[j]? =some u->w.cell? (ay.add j)=some u) (h1:∀u∈fh,u.oneCell'=true) (hb:(px.length+k)*by_<=fL):
  (∃a,k=0/\v=.slice a 0 0/\px=[]/\(Builtin.append_ #[t,t] ty #[v,.slice ya k c]).run P w=.ok (.slice a 0 0) w)\/
  (∃b o cap cur e',v=.slice (some (ad b o)) px.length cap/\w.heap[b]? =some (.cells cur e' (0,0))/\cur.size=o+cap*sz/\cap<=maxLen/\px.length+k<=cap/\mQ w b o sz px/\mP G h b/\(B<=b\/E b)/\(∀b',aN b' px->b'≠b)/\
   (Builtin.append_ #[t,t] ty #[v,.slice ya k c]).run P w=.ok (.slice (some (ad b o)) (px.length+k) cap) (dY w b (o+px.length*sz) fh cur))\/
  (∃(cap:Nat) (arr:Array Value),px.length+k<=cap/\cap<=maxLen/\arr.size=cap*z.cells.size+(px.length+k)*sz - (px.length+k)*z.cells.size/\(∀(q:Nat) (u:Value),(px.flatten.map PC.val++fh)[q]? =some u->arr[q]? =some u)/\
   (Builtin.append_ #[t,t] ty #[v,.slice ya k c]).run P w=.ok (.slice (some (ad w.heap.size 0)) (px.length+k) cap) (w.drew.alloc (.cells arr e))):=by
 have wu:px.length+k<=fL:=Nat.le_trans (Nat.le_mul_of_pos_right _ wa) hb
 have gi:(fL:Nat)=140737488355328:=rfl
 have Kz:∀eQ,grownCap w (px.length+k) eQ e<=maxLen:=fun eQ=>grownCap_le_maxLen w _ eQ e (by simp only[maxLen];omega)
 have Ue:=JD eH
 have sq:∀eQ,((px.flatten.map PC.val).toArray++fh.toArray++Builtin.zeroCells z.cells (grownCap w (px.length+k) eQ e - (px.length+k))).size=grownCap w (px.length+k) eQ e*z.cells.size+(px.length+k)*sz - (px.length+k)*z.cells.size:=by
  intro eQ
  have BF:=grownCap_ge w (px.length+k) eQ e
  have h2:(px.length+k)*z.cells.size<=grownCap w (px.length+k) eQ e*z.cells.size:=Nat.mul_le_mul_right _ BF
  simp only[Array.size_append,List.size_toArray,size_zeroCells,Ue,aE,Nat.sub_mul,Nat.add_mul] at*
  omega
 have lz:∀eQ (q:Nat) (u:Value),(px.flatten.map PC.val++fh)[q]? =some u->((px.flatten.map PC.val).toArray++fh.toArray++Builtin.zeroCells z.cells (grownCap w (px.length+k) eQ e - (px.length+k)))[q]? =some u:=by
  intro eQ q u hq
  have K6:=(List.getElem?_eq_some_iff.1 hq).1
  rw[Array.getElem?_append_left (by simp only[Array.size_append,List.size_toArray];simpa using K6)]
  simpa using hq
 rcases L with⟨a,rfl,rfl⟩|⟨b,o,cap,cur,e',rfl,a2,a3,a4,a5,a6,a7,a8,a9⟩
 ·by_cases hk:k=0
  ·subst hk
   left
   have hn:fh=[]:=List.eq_nil_of_length_eq_zero (by simpa using aE)
   refine⟨a,rfl,rfl,rfl,?_⟩
   cases ya<;>cases a<;>simp[Builtin.append_,run_underlying ht,sizeOf,typeInfo,hi,Builtin.lenOf,Builtin.firstCells,loadCells,loadCellsFrom,storeCells]
  ·rcases hy with⟨_,h0⟩|⟨ay,rfl,qU⟩
   ·exact absurd h0 hk
   right;right
   cases a with
   |none=>
    have hr:=run_append_nil (P:=P) w t ty e i z ht hi hz ay k c fh (by rw[bo];exact aE) qU (by omega) (by simp only[List.length_nil,Nat.zero_add] at wu;omega) (by rw[ma];simp only[List.length_nil,Nat.zero_add] at hb;omega)
    have h3:=sq 0
    have h4:=lz 0
    have h5:=Kz 0
    simp only[List.length_nil,Nat.zero_add,List.flatten_nil,List.map_nil,List.nil_append] at h3 h4 h5⊢
    exact⟨grownCap w k 0 e,fh.toArray++Builtin.zeroCells z.cells (grownCap w k 0 e - k),grownCap_ge w k 0 e,h5,by simpa using h3,fun q u hq=>by simpa using h4 q u hq,hr⟩
   |some a=>
    have hr:=run_append_grow (P:=P) w t ty e i z ht hi hz a 0 0 [] (by simp) (fun q u hq=>by simp at hq) ay k c fh (by rw[bo];exact aE) qU (by omega) (by simp only[List.length_nil,Nat.zero_add] at wu;omega) (growslice_fits (by simp only[List.length_nil,Nat.zero_add] at wu;omega) (by rw[ma,Nat.zero_add];rw[List.length_nil,Nat.zero_add] at hb;exact hb))
    have h3:=sq 0
    have h4:=lz 0
    have h5:=Kz 0
    simp only[List.length_nil,Nat.zero_add,List.flatten_nil,List.map_nil,List.nil_append] at h3 h4 h5 hr⊢
    exact⟨_,_,grownCap_ge w k 0 e,h5,by simpa using h3,fun q u hq=>by simpa using h4 q u hq,hr⟩
 ·by_cases BT:px.length+k<=cap
  ·right;left
   refine⟨b,o,cap,cur,e',rfl,a2,a3,a4,BT,a6,a7,a8,a9,?_⟩
   rcases hy with⟨rfl,rfl⟩|⟨ay,rfl,qU⟩
   ·have hn:fh=[]:=List.eq_nil_of_length_eq_zero (by simpa using aE)
    subst hn
    have ads:dY w b (o+px.length*sz) [] cur=w:=by
     unfold dY
     simp only[List.append_nil,List.length_nil,Nat.add_zero,List.take_append_drop,Array.toArray_toList]
     exact setRow_self w b cur e' (0,0) a2
    rw[ads]
    simp[Builtin.append_,run_underlying ht,sizeOf,typeInfo,hi,Builtin.lenOf,Builtin.firstCells,a5,storeCells]
   ·have hr:=aj2 (P:=P) (w:=w) (ty:=ty) ht hi b o px.length cap cur a2 ay k c fh (by rw[bo];exact aE) qU h1 BT (by
     rw[bo,aE,a3,Nat.add_assoc,<-Nat.add_mul];exact Nat.add_le_add_left (Nat.mul_le_mul_right _ BT) _)
    rw[bo] at hr
    exact hr
  ·rcases hy with⟨_,rfl⟩|⟨ay,rfl,qU⟩
   ·omega
   right;right
   have hr:=run_append_grow (P:=P) w t ty e i z ht hi hz (ad b o) px.length cap (px.flatten.map PC.val) (by rw[bo];exact Ue) (fun q u hq=>by
    rw[List.getElem?_map] at hq
    cases hf:px.flatten[q]? with
    |none=>rw[hf] at hq;cases hq
    |some pc=>
     rw[hf] at hq
     simp at hq
     subst hq
     obtain⟨k',j',kL,rfl⟩:=JC ic eH hf
     rw[lV,<-Nat.add_assoc]
     exact a6.2.1 k' j' pc kL) ay k c fh (by rw[bo];exact aE) qU (by omega) (by omega) (growslice_fits (by omega) (by rw[ma];exact hb))
   exact⟨_,_,grownCap_ge w _ _ _,Kz _,sq _,lz _,hr⟩
def tv (w:World) (sz:Nat) (py:List (List PC)) (v:Value):Prop:=
 (∀e∈py,e.length=sz)/\(∀k j c,At py k j c->Good w c)/\
 ∃ya c,v=.slice ya py.length c/\((ya=none/\py.length=0)\/∃ay,ya=some ay/\∀(j:Nat) (u:Value),(py.flatten.map PC.val)[j]? =some u->w.cell? (ay.add j)=some u)
theorem tv.Xm {sz:Nat} {ya:Option Addr} {c:Nat} {py:List (List PC)} (hg:Good w (.list sz ya c py)):tv w sz py (.slice ya py.length c):=by
 cases hg with
 |nil _ _ _ h=>
  refine⟨by simp,by rintro k j c ⟨e,he,_⟩;simp at he,ya,c,rfl,?_⟩
  cases ya with
  |none=>exact .inl ⟨rfl,rfl⟩
  |some ay=>exact .inr ⟨ay,rfl,by simp⟩
 |cons _ b o _ _ h1 h2 h3 h4 h5 h6=>
  refine⟨h4,h6,_,c,rfl,.inr ⟨_,rfl,fun j u hj=>?_⟩⟩
  rw[List.getElem?_map] at hj
  cases hf:py.flatten[j]? with
  |none=>rw[hf] at hj;cases hj
  |some pc=>
   rw[hf] at hj
   simp at hj
   subst hj
   obtain⟨k',j',kL,rfl⟩:=JC h3 h4 hf
   rw[lV,<-Nat.add_assoc]
   exact h5 k' j' pc kL
theorem R.Z8 (r:R B E w0 N σ a w G) {σ2:St} (wg:σ2.env=σ.env) (j0:σ2.used=σ.used) (H:HR B E w G σ2.h σ.used []) (K:aQ w G σ.h (fun n=>σ.used n=true) w G σ2.h)
  {n:Nat} {sz by_:Nat} {m m2:Mode} {px py:List (List PC)} {v yv:Value} (hn:σ.used n=false) (ic:0<sz) (F:jP B E w G σ2.h sz m2 (px++py)) (eH:∀e∈px,e.length=sz) (L:vt B E w G σ2.h sz m px v) (Ry:tv w sz py yv)
  (KV:∀b,aN b py->∀b' o cap,0<cap->v=.slice (some (ad b' o)) px.length cap->mP G σ2.h b'->b≠b')
  {t e:TypeId} {i:TypeInfo} {z:Value} {ty:TypeId} (ht:P.underlying t=some (.slice e)) (hi:P.info? e=some i) (hz:i.zero=some z) (bo:i.size=sz) (ma:i.bytes=by_) (wa:0<by_) (pP:z.cells.size=sz)
  (hb:(px.length+py.length)*by_<=fL):
  ∃u w' G',(Builtin.append_ #[t,t] ty #[v,yv]).run P w=.ok u w'/\
   R B E w0 N {σ2 with h:=aq σ2.h n (some (.row true m2 sz ((px++py).map fun e=>e.map PC.er))),used:=aq σ2.used n true} a w' G'/\
   RA w' G' (aq σ2.h n (some (.row true m2 sz ((px++py).map fun e=>e.map PC.er)))) (.one (.sl n sz 0 (px.length+py.length))) u:=by
 obtain⟨r1,r2,ya,c,rfl,r3⟩:=Ry
 have aE:(py.flatten.map PC.val).length=py.length*sz:=JD r1
 have h1:∀u∈py.flatten.map PC.val,u.oneCell'=true:=fun u hu=>by obtain⟨pc,_,rfl⟩:=List.mem_map.1 hu;exact PC.jN pc
 have hB:=r.fr.size
 have Ub:(px++py).length=px.length+py.length:=by simp
 have KC:σ2.h n=none:=by
  cases hh:σ2.h n with
  |none=>rfl
  |some b=>have:=H.gN n (by rw[hh];simp);rw[hn] at this;cases this
 have ne:∀q,σ.used q=true->q≠n:=fun q hq e=>by subst e;rw[hn] at hq;cases hq
 have av:∀q,σ2.h q≠none->q≠n:=fun q hq e=>by subst e;exact hq KC
 rcases aj1 (P:=P) w (ty:=ty) ht hi hz bo ic ma wa eH L aE r3 h1 hb with⟨a0,k0,rfl,rfl,bH⟩|⟨b,ob,cap,cur,e',rfl,b2,b3,b4,b5,b6,b7,b8,b9,bH⟩|⟨cap,arr,c1,c2,c3,c4,bH⟩
 ·
  have hpy:py=[]:=List.eq_nil_of_length_eq_zero k0
  subst hpy
  refine⟨_,w,⟨G.Im,aq G.g n ⟨true,0,0,0,[],a0⟩⟩,bH,?_,?_⟩
  ·refine r.step (σ':=_) wg (fun q hq=>by show aq σ2.used n true q=true;rw[j0];exact oT n q hq) (aQ.trans (u2:=fun n=>σ.used n=true) (fun _ h=>h) K (aQ.insert H (blk:=.row true m2 sz []) (p:=⟨true,0,0,0,[],a0⟩) hn (fun _ _=>rfl))) ?_ r.fr
   show HR B E w _ (aq σ2.h n (some (.row true m2 sz []))) (aq σ2.used n true) []
   rw[j0]
   have cq:∀b,¬aN b ([]:List (List PC)):=by rintro b ⟨k,j,c,⟨e,he,_⟩,_⟩;simp at he
   refine H.insert (p:=⟨true,0,0,0,[],a0⟩) hn (fun _ _=>rfl) (Nat.le_refl _) (fun h=>by cases h) (fun cs c m hb=>by cases hb) ⟨ic,rfl,fun _=>⟨rfl,fun _=>rfl⟩,(fun h=>by cases h),(fun h=>by cases h),?_⟩
    (fun gr m sz xs _ _ n' aU m' aC ao _ _ b hb=>absurd hb (cq b)) (fun gr sz xs _ b hb=>absurd hb (cq b)) (fun gr m sz xs _ _ i pc b hi=>by simp at hi)
   have hm:=F.mode
   simp only[List.append_nil] at hm
   exact hm
  ·refine RA.fi rfl fun _=>.inl ?_
   simp[bu]
 ·
  have Fv:(ob+px.length*sz)+(py.flatten.map PC.val).length<=cur.size:=by rw[aE,b3,Nat.add_assoc,<-Nat.add_mul];exact Nat.add_le_add_left (Nat.mul_le_mul_right _ b5) _
  let w2:=dY w b (ob+px.length*sz) (py.flatten.map PC.val) cur
  have dk:∀x,x≠b->w2.heap[x]? =w.heap[x]? :=fun x hx=>xw x hx
  have Fc:∀x,G.Im x->x≠b:=fun x hx he=>b7.1 (he▸hx)
  have sI:∀x,dm w x->dm w2 x:=fun x hx=>HJ b2 Fv x hx
  have Ud:∀x,aN x (px++py)->x≠b:=fun x hx=>(s6 hx).elim (b9 x) (fun h=>KV x h b ob cap (by obtain⟨k,j,c,⟨e,he,_⟩,_⟩:=h;have:=(List.getElem?_eq_some_iff.1 he).1;omega) rfl b7)
  let p:PB:=⟨false,b,ob,cap,px++py,none⟩
  have K2:aQ w G σ2.h (fun n=>σ.used n=true) w2 ⟨G.Im,aq G.g n p⟩ (aq σ2.h n (some (.row true m2 sz ((px++py).map fun e=>e.map PC.er)))):=by
   refine⟨fun _ h=>h,fun x hx o=>gL (dk x (Fc x hx)) o,fun q hq h0=>?_,fun q gr aC ao hq h0=>?_⟩
   ·rw[cd _ _ _ _ (ne q hq)] at h0
    simp only[cd _ _ _ _ (ne q hq)]
    exact⟨h0,trivial,trivial,trivial,trivial,trivial⟩
   ·rw[cd _ _ _ _ (ne q hq)] at h0
    simp only[cd _ _ _ _ (ne q hq)]
    exact⟨⟨gr,ao,h0⟩,fun k j pc h1 h2=>⟨pc,h1,rfl,h2⟩⟩
  have acP:b<w.heap.size:=(Array.getElem?_eq_some_iff.1 b2).1
  have Hn:HR B E w2 ⟨G.Im,aq G.g n p⟩ (aq σ2.h n (some (.row true m2 sz ((px++py).map fun e=>e.map PC.er)))) (aq σ.used n true) []:=by
   refine H.put (p:=p) (fun x _ hx=>dk x (hx rfl)) (by show w.heap.size<=w2.heap.size;rw[oU];exact Nat.le_refl _) (fun x _ hx=>sI x hx) (fun q hq=>oT n q hq) (bu _ _ _)
    (fun _=>⟨b7.1,b8,by show b<w2.heap.size;rw[oU];exact acP⟩) (fun _ q hq h0 hl=>b7.2.1 q h0 hl) (fun _ q gr aC ao hq h0 x hx he=>b7.2.2 q gr .live aC ao h0 (by have Fj:x=b:=he;rw[<-Fj];exact hx))
    (fun cs c q hb=>by cases hb) K2 ?_ ?_ ?_ (fun gr m sz xs _ _ i pc b hi=>by simp at hi) (fun _ _ x hx he=>by obtain⟨q,gr,mo,aC,ao,_,h0,hxF⟩:=hx;exact b7.2.2 q gr mo aC ao h0 (by have Fj:x=b:=he;rw[<-Fj];exact hxF))
   ·refine⟨ic,rfl,(fun h=>by cases h),fun _=>⟨sI b ⟨cur,e',b2⟩,⟨F.len,fun k j c hk=>?_,fun k j c hk=>?_⟩,by show(px++py).length<=cap;rw[Ub];exact b5⟩,fun _ _=>?_,?_⟩
    ·show w2.cell? (ad b (ob+k*sz+j))=some c.val
     rw[Ap b2 Fv]
     have hf:=rV F.len hk
     rw[List.flatten_append] at hf
     have iy:px.flatten.length=px.length*sz:=by have:=JD eH;rwa[List.length_map] at this
     rcases tD hk with⟨wm,cC⟩|⟨wm,cC⟩
     ·rw[if_neg ?_]
      ·exact b6.2.1 k j c cC
      ·rintro⟨q1,_⟩
       have hj:j<sz:=by obtain⟨e1,he,hj⟩:=cC;rw[<-eH e1 (List.mem_of_getElem? he)];exact(List.getElem?_eq_some_iff.1 hj).1
       have:(k+1)*sz<=px.length*sz:=Nat.mul_le_mul_right _ wm
       rw[Nat.add_mul] at this
       omega
     ·have BF:px.length*sz<=k*sz+j:=Nat.le_trans (Nat.mul_le_mul_right _ wm) (Nat.le_add_right _ _)
      have bB:=(List.getElem?_eq_some_iff.1 hf).1
      rw[List.length_append,iy] at bB
      rw[List.getElem?_append_right (by rw[iy];exact BF),iy] at hf
      rw[if_pos ⟨by omega,by simp only[List.length_map];omega⟩]
      rw[List.getElem?_map,show ob+k*sz+j - (ob+px.length*sz)=k*sz+j - px.length*sz by omega,hf]
      rfl
    ·exact(F.dA k j c hk).congr fun x hx o=>gL (dk x (Ud x ⟨k,j,c,hk,hx⟩)) o
    ·obtain⟨iw,q1,q2⟩:=HI (vs:=py.flatten.map PC.val) (o:=ob+px.length*sz) b2 Fv
     exact⟨b4,iw,e',q1,by rw[q2,b3]⟩
    ·have hm:=F.mode
     cases m2 with
     |aF=>exact hm
     |aj=>exact⟨fun x hx=>⟨(hm.1 x hx).1,sI x (hm.1 x hx).2.1,(hm.1 x hx).2.2⟩,hm.2⟩
     |live=>exact⟨fun x hx=>⟨(hm.1 x hx).1,sI x (hm.1 x hx).2.1,(hm.1 x hx).2.2⟩,hm.2⟩
   ·intro gr m' aC ao hb gi q aU mo iS gw e7 h0 ia x hx
    injection hb with _ hb _ _
    subst hb
    exact F.fg gi q aU mo iS gw h0 ia x hx
   ·intro gr aC ao hb x hx
    injection hb with _ hb _ _
    exact⟨fun _=>Ud x hx,fun q _ h0 hl=>F.live hb x hx q h0 hl⟩
  refine⟨_,w2,⟨G.Im,aq G.g n p⟩,bH,?_,?_⟩
  ·exact r.step (σ':=_) wg (fun q hq=>by show aq σ2.used n true q=true;rw[j0];exact oT n q hq) (aQ.trans (u2:=fun n=>σ.used n=true) (fun _ h=>h) K K2)
    (by show HR B E w2 _ _ (aq σ2.used n true) [];rw[j0];exact Hn) (r.fr.one b8 (fun x hx Li=>dk x Li) (by show w.heap.size<=w2.heap.size;rw[oU];exact Nat.le_refl _) (Aq b2 Fv) rfl rfl rfl)
  ·refine RA.fi rfl fun _=>.inr ⟨by simp[bu,p],some (ad b ob),?_,?_,?_⟩
   ·simp[bu,p]
   ·simp[bu,p];exact b5
   ·simp[bu,p]
 ·
  let w1:=w.drew
  have hd:∀x:Nat,x<w.heap.size->(w.drew.alloc (.cells arr e)).heap[x]? =w.heap[x]? :=fun x hx=>heap_alloc_old w.drew _ x hx
  have H1:HR B E w.drew G σ2.h σ.used []:=H.grow (w':=w.drew) (fun _ _=>rfl) (Nat.le_refl _)
  have r1:R B E w0 N σ a w.drew G:=r.step (w':=w.drew) rfl (fun _ h=>h) (aQ.world (w:=w) (w':=w.drew) (fun _ _=>rfl) _) (r.hr.grow (w':=w.drew) (fun _ _=>rfl) (Nat.le_refl _)) (r.fr.grow (w':=w.drew) (fun _ _=>rfl) (Nat.le_refl _) rfl rfl rfl)
  have K1:aQ w.drew G σ.h (fun n=>σ.used n=true) w.drew G σ2.h:=⟨K.im,fun _ _ _=>rfl,K.name,K.live⟩
  have gO:∀k j c,At (px++py) k j c->Good w.drew c:=fun k j c hk=>(F.dA k j c hk).congr fun _ _ _=>rfl
  have sq:∀k j c,At (px++py) k j c->arr[k*sz+j]? =some c.val:=fun k j c hk=>by
   have hf:=rV F.len hk
   refine c4 _ _ ?_
   rw[<-List.map_append,<-List.flatten_append,List.getElem?_map,hf]
   rfl
  have sF:arr.size=cap*sz:=by rw[c3,pP];omega
  have hB2:=r1.fr.size
  let p:PB:=⟨false,w.heap.size,0,cap,px++py,none⟩
  have hw:∀x:Nat,x<w.drew.heap.size->(w.drew.alloc (.cells arr e)).heap[x]? =w.drew.heap[x]? :=hd
  have Hn:HR B E (w.drew.alloc (.cells arr e)) ⟨G.Im,aq G.g n p⟩ (aq σ2.h n (some (.row true m2 sz ((px++py).map fun e=>e.map PC.er)))) (aq σ.used n true) []:=by
   refine H1.insert (p:=p) hn hw (by simp) (fun _=>⟨H1.Mw,.inl hB,by simp[p]⟩) (fun cs c m hb=>by cases hb) ?_ ?_ ?_ (fun gr m sz xs _ _ i pc b hi=>by simp at hi)
   ·refine⟨ic,rfl,(fun h=>by cases h),fun _=>⟨dm.alloc _ _ _,⟨F.len,fun k j c hk=>?_,fun k j c hk=>?_⟩,by show(px++py).length<=cap;rw[Ub];exact c1⟩,fun _ _=>⟨c2,arr,e,heap_alloc_new w.drew _,(Nat.zero_add _).symm▸sF⟩,?_⟩
    ·show(w.drew.alloc (.cells arr e)).cell? (ad w.drew.heap.size (0+k*sz+j))=some c.val
     simp only[Nat.zero_add]
     unfold ad
     rw[World.cell?_alloc_new]
     exact sq k j c hk
    ·exact(gO k j c hk).congr fun x hx o=>gL (hw x ((gO k j c hk).lt hx)) o
    ·have hm:=F.mode
     have hu:∀x,dm w x->dm (w.drew.alloc (.cells arr e)) x:=fun x hx=>hx.congr (hd x hx.lt)
     cases m2 with
     |aF=>exact hm
     |aj=>exact⟨fun x hx=>⟨(hm.1 x hx).1,hu x (hm.1 x hx).2.1,(hm.1 x hx).2.2⟩,hm.2⟩
     |live=>exact⟨fun x hx=>⟨(hm.1 x hx).1,hu x (hm.1 x hx).2.1,(hm.1 x hx).2.2⟩,hm.2⟩
   ·intro gr m' aC ao hb gi q aU mo iS gw h0 ia x hx
    injection hb with _ hb _ _
    subst hb
    exact F.fg gi q aU mo iS gw h0 ia x hx
   ·intro gr aC ao hb x hx
    injection hb with _ hb _ _
    refine⟨fun _=>?_,fun q h0 hl=>F.live hb x hx q h0 hl⟩
    obtain⟨k,j,c,hk,hxc⟩:=hx
    have:=(F.dA k j c hk).lt hxc
    show x≠w.heap.size
    omega
  refine⟨_,_,⟨G.Im,aq G.g n p⟩,bH,?_,?_⟩
  ·exact r1.step (σ':=_) wg (fun q hq=>by show aq σ2.used n true q=true;rw[j0];exact oT n q hq) (aQ.trans (u2:=fun n=>σ.used n=true) (fun _ h=>h) K1 (aQ.insert H1 hn hw))
    (by show HR B E _ _ _ (aq σ2.used n true) [];rw[j0];exact Hn) (r1.fr.grow hw (by simp) rfl rfl rfl)
  ·refine RA.fi rfl fun _=>.inr ⟨by simp[bu,p],some (ad w.heap.size 0),?_,?_,?_⟩
   ·simp[bu,p]
   ·simp[bu,p];exact c1
   ·simp[bu,p]
theorem agE (r:R B E w0 N σ a w G) {sz:Nat} {x:ai} {v:Value} {xs:List (List C)} {m:Mode} {σ1:St} (hv:RA w G σ.h x v) (hx:nM σ sz x=some (xs,m,σ1)):
  ∃px:List (List PC),xs=px.map (fun e=>e.map PC.er)/\jP B E w G σ1.h sz m px/\vt B E w G σ1.h sz m px v/\HR B E w G σ1.h σ.used []/\aQ w G σ.h (fun n=>σ.used n=true) w G σ1.h/\σ1.env=σ.env/\σ1.used=σ.used/\
   (∀n b,σ1.h n=some b->σ.h n=some b):=by
 unfold nM at hx
 split at hx
 ·rename_i s
  injection hx with hx
  injection hx with h1 h2
  injection h2 with h2 h3
  subst h1 h2 h3
  have eO:v=.slice none 0 0:=(hv.eB (by simp)).1
  have cq:∀b,¬aN b ([]:List (List PC)):=by rintro b ⟨k,j,c,⟨e,he,_⟩,_⟩;simp at he
  exact⟨[],rfl,⟨by simp,by rintro k j c ⟨e,he,_⟩;simp at he,⟨fun b hb=>absurd hb (cq b),(by rintro k j c ⟨e,he,_⟩;simp at he),(by rintro k j c k' j' c' b ⟨e,he,_⟩;simp at he)⟩,fun _ _ _ _ _ _ _ _ b hb=>absurd hb (cq b),fun _ b hb=>absurd hb (cq b)⟩,
   .inl ⟨none,eO,rfl⟩,r.hr,aQ.refl _ _ _ _,rfl,rfl,fun _ _ h=>h⟩
 ·rename_i n s len
  split at hx
  ·rename_i m0 rs ju hn
   split at hx
   ·rename_i hc
    obtain⟨rfl,rfl,rfl⟩:=hc
    injection hx with hx
    injection hx with h1 h2
    injection h2 with h2 h3
    subst h1 h2 h3
    have H:=r.hr
    have bJ:σ.h n≠none:=by rw[hn];simp
    have hr:=H.row n true m0 s ju hn
    have fQ:gy (G.g n) s 0 ju.length v:=(hv.eB (by simp)).1 bJ
    have oe:ju.length=(G.g n).px.length:=by rw[hr.er];simp
    refine⟨(G.g n).px,hr.er,jP.NA H hn,?_,H.del n,aQ.del n _,rfl,rfl,fun q b hq=>(nQ hq).1⟩
    rcases fQ with⟨aE,eO,_,_⟩|⟨aE,a',eO,hH,ha⟩
    ·have g2:=(hr.nl aE).2 rfl
     exact .inl ⟨(G.g n).na,by rw[eO,g2],(hr.nl aE).1⟩
    ·right
     obtain⟨r2,cur,e,r3,r4⟩:=hr.room aE rfl
     obtain⟨l1,l2,l3⟩:=hr.dv aE
     obtain⟨o1,o2,o3⟩:=H.own n bJ aE
     have qM:=ha (.inr rfl)
     refine⟨(G.g n).b,(G.g n).o,(G.g n).cap,cur,e,?_,r3,r4,r2,l3,l2,⟨o1,fun q hq hl=>?_,fun q gr m' aC ao hq hb=>?_⟩,o2,fun b hb=>H.qI bJ aE hn hb⟩
     ·rw[eO,qM,oe];simp
     ·obtain⟨q1,q2⟩:=yk hq
      exact H.inj q n q1 bJ q2 hl aE
     ·exact H.qI bJ aE (nQ hq).1 hb rfl
   ·cases hx
  ·cases hx
 ·cases hx
theorem ajI {fl:Bool} {sz:Nat} {x:ai} {v:Value} {ys:List (List C)} {m m2:Mode} {σ1 σ2:St} {px:List (List PC)} (ic:0<sz) (H:HR B E w G σ1.h σ1.used []) (F:jP B E w G σ1.h sz m px) (hv:RA w G σ1.h x v)
  (hx:jR fl σ1 sz m x=some (ys,m2,σ2)):
  ∃py:List (List PC),ys=py.map (fun e=>e.map PC.er)/\tv w sz py v/\jP B E w G σ2.h sz m2 (px++py)/\HR B E w G σ2.h σ1.used []/\aQ w G σ1.h (fun n=>σ1.used n=true) w G σ2.h/\σ2.env=σ1.env/\σ2.used=σ1.used/\
   (∀n b,σ2.h n=some b->σ1.h n=some b)/\(∀b,aN b py->∀b',¬G.Im b'->(∀q gr mo aC ao,σ1.h q=some (.row gr mo aC ao)->¬aN b' (G.g q).px)->b≠b'):=by
 unfold jR at hx
 have adf:∀b,¬aN b ([]:List (List PC)):=by rintro b ⟨k,j,c,⟨e,he,_⟩,_⟩;simp at he
 split at hx
 ·rename_i s
  injection hx with hx
  injection hx with h1 h2
  injection h2 with h2 h3
  subst h1 h2 h3
  have eO:v=.slice none 0 0:=(hv.eB (by simp)).1
  subst eO
  exact⟨[],rfl,⟨by simp,by rintro k j c ⟨e,he,_⟩;simp at he,none,0,rfl,.inl ⟨rfl,rfl⟩⟩,by simpa using F,H,aQ.refl _ _ _ _,rfl,rfl,fun _ _ h=>h,fun b hb=>absurd hb (adf b)⟩
 ·rename_i s tj
  split at hx
  ·rename_i hs
   subst hs
   obtain⟨pc,e1,e2,e3,e4⟩:=hv.c
   have bc:∃ya c py,pc=.list s ya c py/\py.map (fun e=>e.map PC.er)=tj:=by
    cases pc with
    |int k n=>simp[PC.er] at e1
    |bool b=>simp[PC.er] at e1
    |list s' ya c py=>rw[PC.du] at e1;injection e1 with e1 e5;subst e1;exact⟨ya,c,py,rfl,e5⟩
   obtain⟨ya,c,py,rfl,e5⟩:=bc
   have hR:tv w s py v:=by rw[<-e2];exact tv.Xm e3
   have kH:∀b,aN b py->G.Im b:=fun b ⟨k,j,c,hk,hb⟩=>e4 b (.there _ _ _ _ k j c hk hb)
   have m8:∀b,aN b py->∀b',¬G.Im b'->(∀q gr mo aC ao,σ1.h q=some (.row gr mo aC ao)->¬aN b' (G.g q).px)->b≠b':=fun b hb b' aL _ he=>aL (he▸kH b hb)
   split at hx
   ·rename_i qV
    injection hx with hx
    injection hx with h1 h2
    injection h2 with h2 h3
    subst h1 h2 h3
    replace qV:=(Bool.and_eq_true _ _▸qV).2
    rw[<-e5] at qV
    exact⟨py,e5.symm,hR,F.Ra hR.1 hR.2.1 (zS qV),H,aQ.refl _ _ _ _,rfl,rfl,fun _ _ h=>h,m8⟩
   ·split at hx
    ·cases hx
    ·rename_i qQ
     injection hx with hx
     injection hx with h1 h2
     injection h2 with h2 h3
     subst h1 h2 h3
     refine⟨py,e5.symm,hR,⟨fun e he=>(List.mem_append.1 he).elim (F.len e) (hR.1 e),fun k j c hk=>?_,fun b hb=>(s6 hb).elim (F.Qo qQ b) (kH b),fun h=>absurd rfl h,fun h=>by cases h⟩,H,aQ.refl _ _ _ _,rfl,rfl,fun _ _ h=>h,m8⟩
     rcases tD hk with⟨_,h⟩|⟨_,h⟩
     ·exact F.dA _ _ _ h
     ·exact hR.2.1 _ _ _ h
  ·cases hx
 ·rename_i n s lo len
  split at hx
  ·rename_i gr m' rs tj hn
   split at hx
   ·rename_i hc
    obtain⟨rfl,rfl,hl⟩:=hc
    have bJ:σ1.h n≠none:=by rw[hn];simp
    have hr:=H.row n gr m' s tj hn
    have fQ:gy (G.g n) s lo len v:=(hv.eB (by simp)).1 bJ
    obtain⟨q1,q2,q3,q4⟩:=CU hr fQ hl
    have KE:∃ya c,jp (G.g n) s lo len v=.list s ya c (((G.g n).px.drop lo).take len):=by
     rcases fQ with⟨_,rfl,_,_⟩|⟨_,a',rfl,_,_⟩<;>exact⟨_,_,rfl⟩
    obtain⟨ya,c,KE⟩:=KE
    rw[KE] at q1 q2 q3 q4
    have hR:tv w s (((G.g n).px.drop lo).take len) v:=by rw[<-q2];exact tv.Xm q3
    have nf:(tj.drop lo).take len=(((G.g n).px.drop lo).take len).map (fun e=>e.map PC.er):=by rw[PC.du] at q1;injection q1 with _ q1;exact q1.symm
    have m8:∀b,aN b (((G.g n).px.drop lo).take len)->∀b',¬G.Im b'->(∀q gr mo aC ao,σ1.h q=some (.row gr mo aC ao)->¬aN b' (G.g q).px)->b≠b':=by
     rintro b ⟨k,j,c,hk,hb⟩ b' _ aL rfl
     exact aL n gr m' s tj hn ⟨_,_,_,(mU hk).1,hb⟩
    split at hx
    ·rename_i qV
     injection hx with hx
     injection hx with h1 h2
     injection h2 with h2 h3
     subst h1 h2 h3
     have Um:=(Bool.and_eq_true _ _▸qV).2
     rw[nf] at Um
     exact⟨_,nf,hR,F.Ra hR.1 hR.2.1 (zS Um),H,aQ.refl _ _ _ _,rfl,rfl,fun _ _ h=>h,m8⟩
    ·split at hx
     ·rename_i acY
      obtain⟨rfl,rfl⟩:=acY
      have eN:((G.g n).px.drop 0).take tj.length=(G.g n).px:=by
       have:tj.length=(G.g n).px.length:=by rw[hr.er];simp
       rw[this];simp
      rw[eN] at hR m8
      have F2:=jP.NA H hn
      have F1:=F.del n
      have gO:∀k j c,At (px++(G.g n).px) k j c->Good w c:=fun k j c hk=>by
       rcases tD hk with⟨_,h⟩|⟨_,h⟩
       ·exact F.dA _ _ _ h
       ·exact F2.dA _ _ _ h
      have hlen:∀e∈px++(G.g n).px,e.length=s:=fun e he=>(List.mem_append.1 he).elim (F.len e) (F2.len e)
      split at hx
      ·rename_i cU
       subst cU
       injection hx with hx
       injection hx with h1 h2
       injection h2 with h2 h3
       subst h1 h2 h3
       refine⟨(G.g n).px,hr.er,hR,⟨hlen,gO,?_,fun hm q aU mo aC ao hq ia b hb=>?_,fun hm b hb q hq hl=>?_⟩,H.del n,aQ.del n _,rfl,rfl,fun q b hq=>(nQ hq).1,m8⟩
       ·have m1:=F.mode
        have m3:=F2.mode
        cases m with
        |aF=>exact fun b hb=>(s6 hb).elim (m1 b) (m3 b)
        |aj=>exact⟨fun b hb=>(s6 hb).elim (m1.1 b) (m3.1 b),GK m1.2 m3.2 (fun b hb=>F.fg (by simp) n gr .aj s tj hn (by simp) b hb)⟩
        |live=>exact⟨fun b hb=>(s6 hb).elim (m1.1 b) (m3.1 b),GK m1.2 m3.2 (fun b hb=>F.fg (by simp) n gr .live s tj hn (by simp) b hb)⟩
       ·exact(s6 hb).elim (F1.fg hm q aU mo aC ao hq ia b) (F2.fg hm q aU mo aC ao hq ia b)
       ·exact(s6 hb).elim (fun h=>F1.live hm b h q hq hl) (fun h=>F2.live hm b h q hq hl)
      ·split at hx
       ·cases hx
       ·rename_i aE
        injection hx with hx
        injection hx with h1 h2
        injection h2 with h2 h3
        subst h1 h2 h3
        refine⟨(G.g n).px,hr.er,hR,⟨hlen,gO,fun b hb=>(s6 hb).elim (F.Qo (fun h=>aE (.inl h)) b) (F2.Qo (fun h=>aE (.inr h)) b),fun h=>absurd rfl h,fun h=>by cases h⟩,H.del n,aQ.del n _,rfl,rfl,fun q b hq=>(nQ hq).1,m8⟩
     ·cases hx
   ·cases hx
  ·cases hx
 ·cases hx
theorem abh (r:R B E w0 N σ a w G) {n:Nat} {t e:TypeId} {i:TypeInfo} {z:Value} {x y:Operand} {mx my:MO} {fl:Bool} {sz by_:Nat} {xs ys:List (List C)} {m m2:Mode} {σ1 σ2 fm:St}
  (ho:o.op=.call {callee:=.builtin .append,args:=#[x,y],argTypes:=#[t,t]}) (hd:o.dst=some n) (hN:n<N) (iz:bi x mx=true) (iK:bi y my=true)
  (ht:P.underlying t=some (.slice e)) (hi:P.info? e=some i) (hz:i.zero=some z) (bo:i.size=sz) (ic:0<sz) (ma:i.bytes=by_) (wa:0<by_) (pP:z.cells.size=sz)
  (hl:nM σ sz (σ.ev mx)=some (xs,m,σ1)) (hr:jR fl σ1 sz m (σ.ev my)=some (ys,m2,σ2)) (hb:(xs.length+ys.length)*by_<=fL)
  (hx:σ2.ins n (.row true m2 sz (xs++ys))=some fm):
  o.wp P a w (Nx B E w0 N (fm.put o.dst (.one (.sl n sz 0 (xs.length+ys.length))))) Q:=by
 obtain⟨hn,rfl⟩:=j8 hx
 obtain⟨x1,x2⟩:=r.ev iz
 obtain⟨y1,y2⟩:=r.ev iK
 obtain⟨px,e1,F1,L1,H1,K1,q1,q2,q3⟩:=agE r x1 hl
 have y1':RA w G σ1.h (σ.ev my) (a.eval y):=y1.eI K1 y2
 rw[<-q2] at H1
 obtain⟨py,e2,R2,F2,H2,K2,p1,p2,p3,m8⟩:=ajI ic H1 F1 y1' hr
 rw[q2] at H2
 have oe:xs.length=px.length:=by rw[e1];simp
 have y6:ys.length=py.length:=by rw[e2];simp
 have L2:vt B E w G σ2.h sz m px (a.eval x):=by
  rcases L1 with h|⟨b,o,cap,cur,e',b1,b2,b3,b4,b5,b6,⟨l1,l2,l3⟩,b8,b9⟩
  ·exact .inl h
  ·refine .inr ⟨b,o,cap,cur,e',b1,b2,b3,b4,b5,b6,⟨l1,fun q hq=>?_,fun q gr mo aC ao hq=>l3 q gr mo aC ao (p3 q _ hq)⟩,b8,b9⟩
   cases hh:σ2.h q with
   |none=>exact absurd hh hq
   |some bb=>exact l2 q (by rw[p3 q bb hh];simp)
 obtain⟨u,w',G',bH,r',hv⟩:=r.Z8 (P:=P) (σ2:=σ2) (n:=n) (m:=m) (m2:=m2) (px:=px) (py:=py) (ty:=o.type) (p1.trans q1) (p2.trans q2) H2 (aQ.trans (u2:=fun n=>σ1.used n=true) (fun q hq=>by rw[q2];exact hq) K1 K2)
  (by rw[<-q2,<-p2];exact hn) ic F2 F1.len L2 R2 (fun b cz b' o' cap dL sJ Uc=>by
   rcases L1 with⟨_,h,_⟩|⟨b0,o0,tF,cur,e',b1,b2,b3,b4,b5,b6,⟨l1,l2,l3⟩,b8,b9⟩
   ·rw[h] at sJ;injection sJ with _ _ sJ;omega
   ·rw[b1] at sJ
    injection sJ with sJ
    injection sJ with sJ
    have yI:=(lg sJ).1
    subst yI
    exact m8 b cz b0 l1 l3) ht hi hz bo ma wa pP (by rw[<-oe,<-y6];exact hb)
 have KU:(px++py).map (fun e=>e.map PC.er)=xs++ys:=by rw[List.map_append,<-e1,<-e2]
 rw[KU] at r' hv
 rw[<-oe,<-y6] at hv
 refine lR (v:=u) (w':=w') ?_ ⟨G',r'.put hv (fun q hq=>by have dB:q=n:=hq;subst dB;exact bu _ _ _) (fun q hq=>by rw[hd] at hq;injection hq with hq;omega)⟩
 simp[execOp,ho,resolve,invoke,builtin,bH]
end
end Go.Am
