/- Am14: append. No condition. -/
import Derived.Test.YtbgmbplglejidaaAm13
set_option linter.unusedVariables false
namespace Go.Am
theorem vQ {α:Type} {px py:List (List α)} {k j:Nat} {c:α} (h:At (px++py) k j c):(k<px.length/\At px k j c)\/(px.length<=k/\At py (k - px.length) j c):=by
 obtain⟨e,he,hj⟩:=h
 rcases Nat.lt_or_ge k px.length with hk|hk
 ·rw[List.getElem?_append_left hk] at he;exact .inl ⟨hk,e,he,hj⟩
 ·rw[List.getElem?_append_right hk] at he;exact .inr ⟨hk,e,he,hj⟩
theorem vg {b:Nat} {px py:List (List PC)} (h:aX b (px++py)):aX b px\/aX b py:=by
 obtain⟨k,j,c,hk,hb⟩:=h
 rcases vQ hk with⟨_,h1⟩|⟨_,h1⟩
 ·exact .inl ⟨_,_,_,h1,hb⟩
 ·exact .inr ⟨_,_,_,h1,hb⟩
theorem KH {px py:List (List PC)} (h1:iy px) (h2:iy py) (h3:∀b,aX b px->¬aX b py):iy (px++py):=by
 refine⟨fun k j c hk=>?_,fun k j c k' j' c' b hk cO aC hb aY=>?_⟩
 ·rcases vQ hk with⟨_,h⟩|⟨_,h⟩
  ·exact h1.1 _ _ _ h
  ·exact h2.1 _ _ _ h
 ·rcases vQ hk with⟨q,h⟩|⟨q,h⟩<;>rcases vQ cO with⟨q',h'⟩|⟨q',h'⟩
  ·exact h1.2 _ _ _ _ _ _ b h h' aC hb aY
  ·exact h3 b ⟨_,_,_,h,hb⟩ ⟨_,_,_,h',aY⟩
  ·exact h3 b ⟨_,_,_,h',aY⟩ ⟨_,_,_,h,hb⟩
  ·refine h2.2 _ _ _ _ _ _ b h h' (fun e=>aC ?_) hb aY
   injection e with e1 e2
   rw[show k=k' by omega,e2]
section
variable {B:Nat} {E:Ex} {w0 w w':World} {G G':Gh} {h h':Nat->Option ao} {used used':Nat->Bool} {tk:List PC} {N:Nat}
variable {P:Program} {o:Oper} {a:Act} {σ σ':St} {Q:Exit->Act->World->Prop}
theorem CE {py:List (List PC)} (hs:ga (py.map fun e=>e.map PC.er)=true) (b:Nat):¬aX b py:=by
 rintro⟨k,j,c,⟨e,he,hj⟩,hb⟩
 have h1:e.map PC.er∈py.map fun e=>e.map PC.er:=List.mem_map_of_mem (f:=fun e=>e.map PC.er) (List.mem_of_getElem? he)
 have h2:=List.all_eq_true.1 hs _ h1
 have h3:=List.all_eq_true.1 h2 c.er (List.mem_map_of_mem (List.mem_of_getElem? hj))
 exact(Sep.lF (pc:=c) h3).2 b hb
structure lR (B:Nat) (E:Ex) (w:World) (G:Gh) (h:Nat->Option ao) (sz:Nat) (m:Mode) (px:List (List PC)):Prop where
 len:∀e∈px,e.length=sz
 eA:∀k j c,At px k j c->Good w c
 mode:Dg B E w G px m
 fI:m≠ .aF->∀n gr m' aJ aq,h n=some (.row gr m' aJ aq)->m'≠ .aF->∀b,aX b px->¬aX b (G.g n).px
 live:m=.live->∀b,aX b px->∀n,h n≠none->(G.g n).nl=false->b≠(G.g n).b
theorem lR.WQ {m:Mode} {sz:Nat} {px py:List (List PC)} (F:lR B E w G h sz m px) (hl:∀e∈py,e.length=sz) (hg:∀k j c,At py k j c->Good w c) (cf:∀b,¬aX b py):lR B E w G h sz m (px++py):=by
 have eX:∀b,aX b (px++py)->aX b px:=fun b hb=>(vg hb).resolve_right (cf b)
 refine⟨fun e he=>(List.mem_append.1 he).elim (F.len e) (hl e),fun k j c hk=>?_,?_,fun hm n gr m' aJ aq hn bM b hb=>F.fI hm n gr m' aJ aq hn bM b (eX b hb),fun hm b hb=>F.live hm b (eX b hb)⟩
 ·rcases vQ hk with⟨_,h⟩|⟨_,h⟩
  ·exact F.eA _ _ _ h
  ·exact hg _ _ _ h
 ·have ky:iy py:=⟨fun k j c hk=>Sep.Fg (fun b hb=>cf b ⟨k,j,c,hk,hb⟩) (hg k j c hk),fun k j c k' j' c' b hk _ _ hb=>absurd ⟨k,j,c,hk,hb⟩ (cf b)⟩
  have hm:=F.mode
  cases m with
  |aF=>exact fun b hb=>hm b (eX b hb)
  |ab=>exact⟨fun b hb=>hm.1 b (eX b hb),KH hm.2 ky (fun b _=>cf b)⟩
  |live=>exact⟨fun b hb=>hm.1 b (eX b hb),KH hm.2 ky (fun b _=>cf b)⟩
theorem lR.Sa (H:HR B E w G h used []) {n:Nat} {gr:Bool} {m:Mode} {sz:Nat} {xs:List (List C)} (hn:h n=some (.row gr m sz xs)):lR B E w G (av h n none) sz m (G.g n).px:=by
 have hr:=H.row n gr m sz xs hn
 have aL:(G.g n).px≠[]->(G.g n).nl=false:=fun aC=>by
  cases hq:(G.g n).nl with
  |false=>rfl
  |true=>exact absurd (hr.nl hq).1 aC
 refine⟨fun e he=>(hr.dV (aL (List.ne_nil_of_mem he))).2.1.1 e he,fun k j c hk=>?_,hr.mode,fun hm q bm m' aJ aq hq bM b hb=>?_,fun hm b hb q hq hl=>?_⟩
 ·have aC:(G.g n).px≠[]:=by obtain⟨e,he,_⟩:=hk;exact List.ne_nil_of_mem (List.mem_of_getElem? he)
  exact(hr.dV (aL aC)).2.1.2.2 k j c hk
 ·obtain⟨q1,q2⟩:=qz hq
  exact H.fI n q gr m sz xs bm m' aJ aq hn q1 hm bM (Ne.symm q2) b hb
 ·subst hm
  obtain⟨q1,q2⟩:=AZ hq
  exact H.live n gr sz xs hn b hb q q1 hl
theorem lR.del {m:Mode} {sz:Nat} {px:List (List PC)} (F:lR B E w G h sz m px) (n:Nat):lR B E w G (av h n none) sz m px:=
 ⟨F.len,F.eA,F.mode,fun hm q gr m' aJ aq hq bM=>F.fI hm q gr m' aJ aq (qz hq).1 bM,fun hm b hb q hq=>F.live hm b hb q (AZ hq).1⟩
theorem lR.VZ {m:Mode} {sz:Nat} {px:List (List PC)} (F:lR B E w G h sz m px) (hm:m≠ .live):∀b,aX b px->G.Im b:=by
 intro b hb
 have:=F.mode
 cases m with
 |aF=>exact this b hb
 |ab=>exact(this.1 b hb).1
 |live=>exact absurd rfl hm
def xN (B:Nat) (E:Ex) (w:World) (G:Gh) (h:Nat->Option ao) (sz:Nat) (m:Mode) (px:List (List PC)) (v:Value):Prop:=
 (∃a,v=.slice a 0 0/\px=[])\/
 ∃b o cap cur e,v=.slice (some (ad b o)) px.length cap/\w.heap[b]? =some (.cells cur e (0,0))/\cur.size=o+cap*sz/\cap<=maxLen/\px.length<=cap/\pg w b o sz px/\
  pf G h b/\(B<=b\/E b)/\(∀b',aX b' px->b'≠b)
theorem xN.del {m:Mode} {sz:Nat} {px:List (List PC)} {v:Value} (L:xN B E w G h sz m px v) (n:Nat):xN B E w G (av h n none) sz m px v:=by
 rcases L with h1|⟨b,o,cap,cur,e,a1,a2,a3,a4,a5,a6,⟨l1,l2,l3⟩,a8,a9⟩
 ·exact .inl h1
 ·exact .inr ⟨b,o,cap,cur,e,a1,a2,a3,a4,a5,a6,⟨l1,fun q hq=>l2 q (AZ hq).1,fun q gr m sz xs hq=>l3 q gr m sz xs (qz hq).1⟩,a8,a9⟩
theorem NH {px:List (List PC)} {sz:Nat} (hl:∀e∈px,e.length=sz):(px.flatten.map PC.val).length=px.length*sz:=by
 induction px with
 |nil=>simp
 |cons e px ih=>
  have:=ih (fun e he=>hl e (by simp[he]))
  simp only[List.flatten_cons,List.map_append,List.length_append,List.length_cons,Nat.add_mul,this,List.length_map] at*
  rw[hl e (by simp)]
  omega
theorem NG {α:Type} {sz:Nat} (bI:0<sz):∀{px:List (List α)} (_:∀e∈px,e.length=sz) {i:Nat} {c:α},px.flatten[i]? =some c->∃k j,At px k j c/\i=k*sz+j
 |[],_,i,c,hi=>by simp at hi
 |e::px,hl,i,c,hi=>by
  have h0:=hl e (by simp)
  simp only[List.flatten_cons] at hi
  rcases Nat.lt_or_ge i e.length with bH|Es
  ·rw[List.getElem?_append_left bH] at hi
   exact⟨0,i,⟨e,rfl,hi⟩,by omega⟩
  ·rw[List.getElem?_append_right Es] at hi
   obtain⟨k,j,⟨e',he,hj⟩,hk⟩:=NG bI (px:=px) (fun e he=>hl e (by simp[he])) hi
   exact⟨k+1,j,⟨e',by simpa using he,hj⟩,by rw[Nat.add_mul];omega⟩
theorem aoj {t ty e e':TypeId} {i:TypeInfo} (ht:P.underlying t=some (.slice e)) (hi:P.info? e=some i)
  (g og xf TO:Nat) (cur:Array Value) (hg:w.heap[g]? =some (.cells cur e' (0,0)))
  (a:Addr) (m c:Nat) (fP:List Value) (hl:fP.length=m*i.size) (ti:∀j u,fP[j]? =some u->w.cell? (a.add j)=some u) (h1:∀u∈fP,u.oneCell'=true)
  (EG:xf+m<=TO) (fJ:og+xf*i.size+fP.length<=cur.size):
  (Builtin.append_ #[t,t] ty #[.slice (some (ad g og)) xf TO,.slice (some a) m c]).run P w=.ok (.slice (some (ad g og)) (xf+m) TO) (eS w g (og+xf*i.size) fP cur):=by
 have hf:=run_firstCells_some (P:=P) w i.size m a m c fP hl ti
 have dA:=run_storeCells_at P g (og+xf*i.size) e' fP 0 cur w hg (by simpa using fJ) h1
 simp only[Nat.add_zero] at dA
 have ha:(ad g og).add (xf*i.size)=⟨g,og+xf*i.size,none⟩:=by rw[ou];simp[ad]
 simp[Builtin.append_,run_underlying ht,sizeOf,typeInfo,hi,Builtin.lenOf,EG,hf,ha,dA,eS]
theorem aoi (w:World) {t e:TypeId} {i:TypeInfo} {z:Value} {ty:TypeId} {sz by_:Nat} (ht:P.underlying t=some (.slice e)) (hi:P.info? e=some i) (hz:i.zero=some z) (bI:i.size=sz) (ji:0<sz) (oB:i.bytes=by_) (yx:0<by_)
  {m:Mode} {px:List (List PC)} {v:Value} (fK:∀e∈px,e.length=sz) (L:xN B E w G h sz m px v) {fP:List Value} {k c:Nat} {ya:Option Addr} (aL:fP.length=k*sz)
  (hy:(ya=none/\k=0)\/∃ay,ya=some ay/\∀(j:Nat) (u:Value),fP[j]? =some u->w.cell? (ay.add j)=some u) (h1:∀u∈fP,u.oneCell'=true) (hb:(px.length+k)*by_<=dK):
  (∃a,k=0/\v=.slice a 0 0/\px=[]/\(Builtin.append_ #[t,t] ty #[v,.slice ya k c]).run P w=.ok (.slice a 0 0) w)\/
  (∃b o cap cur e',v=.slice (some (ad b o)) px.length cap/\w.heap[b]? =some (.cells cur e' (0,0))/\cur.size=o+cap*sz/\cap<=maxLen/\px.length+k<=cap/\pg w b o sz px/\pf G h b/\(B<=b\/E b)/\(∀b',aX b' px->b'≠b)/\
   (Builtin.append_ #[t,t] ty #[v,.slice ya k c]).run P w=.ok (.slice (some (ad b o)) (px.length+k) cap) (eS w b (o+px.length*sz) fP cur))\/
  (∃(cap:Nat) (arr:Array Value),px.length+k<=cap/\cap<=maxLen/\arr.size=cap*z.cells.size+(px.length+k)*sz - (px.length+k)*z.cells.size/\(∀(q:Nat) (u:Value),(px.flatten.map PC.val++fP)[q]? =some u->arr[q]? =some u)/\
   (Builtin.append_ #[t,t] ty #[v,.slice ya k c]).run P w=.ok (.slice (some (ad w.heap.size 0)) (px.length+k) cap) (w.drew.alloc (.cells arr e))):=by
 have yJ:px.length+k<=dK:=Nat.le_trans (Nat.le_mul_of_pos_right _ yx) hb
 have ik:(dK:Nat)=140737488355328:=rfl
 have OW:∀fu,grownCap w (px.length+k) fu e<=maxLen:=fun fu=>grownCap_le_maxLen w _ fu e (by simp only[maxLen];omega)
 have ZM:=NH fK
 have ur:∀fu,((px.flatten.map PC.val).toArray++fP.toArray++Builtin.zeroCells z.cells (grownCap w (px.length+k) fu e - (px.length+k))).size=grownCap w (px.length+k) fu e*z.cells.size+(px.length+k)*sz - (px.length+k)*z.cells.size:=by
  intro fu
  have Es:=grownCap_ge w (px.length+k) fu e
  have h2:(px.length+k)*z.cells.size<=grownCap w (px.length+k) fu e*z.cells.size:=Nat.mul_le_mul_right _ Es
  simp only[Array.size_append,List.size_toArray,size_zeroCells,ZM,aL,Nat.sub_mul,Nat.add_mul] at*
  omega
 have nN:∀fu (q:Nat) (u:Value),(px.flatten.map PC.val++fP)[q]? =some u->((px.flatten.map PC.val).toArray++fP.toArray++Builtin.zeroCells z.cells (grownCap w (px.length+k) fu e - (px.length+k)))[q]? =some u:=by
  intro fu q u hq
  have PH:=(List.getElem?_eq_some_iff.1 hq).1
  rw[Array.getElem?_append_left (by simp only[Array.size_append,List.size_toArray];simpa using PH)]
  simpa using hq
 rcases L with⟨a,rfl,rfl⟩|⟨b,o,cap,cur,e',rfl,a2,a3,a4,a5,a6,a7,a8,a9⟩
 ·by_cases hk:k=0
  ·subst hk
   left
   have hn:fP=[]:=List.eq_nil_of_length_eq_zero (by simpa using aL)
   refine⟨a,rfl,rfl,rfl,?_⟩
   cases ya<;>cases a<;>simp[Builtin.append_,run_underlying ht,sizeOf,typeInfo,hi,Builtin.lenOf,Builtin.firstCells,loadCells,loadCellsFrom,storeCells]
  ·rcases hy with⟨_,h0⟩|⟨ay,rfl,ti⟩
   ·exact absurd h0 hk
   right;right
   cases a with
   |none=>
    have hr:=run_append_nil (P:=P) w t ty e i z ht hi hz ay k c fP (by rw[bI];exact aL) ti (by omega) (by simp only[List.length_nil,Nat.zero_add] at yJ;omega) (by rw[oB];simp only[List.length_nil,Nat.zero_add] at hb;omega)
    have h3:=ur 0
    have h4:=nN 0
    have h5:=OW 0
    simp only[List.length_nil,Nat.zero_add,List.flatten_nil,List.map_nil,List.nil_append] at h3 h4 h5⊢
    exact⟨grownCap w k 0 e,fP.toArray++Builtin.zeroCells z.cells (grownCap w k 0 e - k),grownCap_ge w k 0 e,h5,by simpa using h3,fun q u hq=>by simpa using h4 q u hq,hr⟩
   |some a=>
    have hr:=run_append_grow (P:=P) w t ty e i z ht hi hz a 0 0 [] (by simp) (fun q u hq=>by simp at hq) ay k c fP (by rw[bI];exact aL) ti (by omega) (by simp only[List.length_nil,Nat.zero_add] at yJ;omega) (growslice_fits (by simp only[List.length_nil,Nat.zero_add] at yJ;omega) (by rw[oB,Nat.zero_add];rw[List.length_nil,Nat.zero_add] at hb;exact hb))
    have h3:=ur 0
    have h4:=nN 0
    have h5:=OW 0
    simp only[List.length_nil,Nat.zero_add,List.flatten_nil,List.map_nil,List.nil_append] at h3 h4 h5 hr⊢
    exact⟨_,_,grownCap_ge w k 0 e,h5,by simpa using h3,fun q u hq=>by simpa using h4 q u hq,hr⟩
 ·by_cases EG:px.length+k<=cap
  ·right;left
   refine⟨b,o,cap,cur,e',rfl,a2,a3,a4,EG,a6,a7,a8,a9,?_⟩
   rcases hy with⟨rfl,rfl⟩|⟨ay,rfl,ti⟩
   ·have hn:fP=[]:=List.eq_nil_of_length_eq_zero (by simpa using aL)
    subst hn
    have aik:eS w b (o+px.length*sz) [] cur=w:=by
     unfold eS
     simp only[List.append_nil,List.length_nil,Nat.add_zero,List.take_append_drop,Array.toArray_toList]
     exact setRow_self w b cur e' (0,0) a2
    rw[aik]
    simp[Builtin.append_,run_underlying ht,sizeOf,typeInfo,hi,Builtin.lenOf,Builtin.firstCells,a5,storeCells]
   ·have hr:=aoj (P:=P) (w:=w) (ty:=ty) ht hi b o px.length cap cur a2 ay k c fP (by rw[bI];exact aL) ti h1 EG (by
     rw[bI,aL,a3,Nat.add_assoc,<-Nat.add_mul];exact Nat.add_le_add_left (Nat.mul_le_mul_right _ EG) _)
    rw[bI] at hr
    exact hr
  ·rcases hy with⟨_,rfl⟩|⟨ay,rfl,ti⟩
   ·omega
   right;right
   have hr:=run_append_grow (P:=P) w t ty e i z ht hi hz (ad b o) px.length cap (px.flatten.map PC.val) (by rw[bI];exact ZM) (fun q u hq=>by
    rw[List.getElem?_map] at hq
    cases hf:px.flatten[q]? with
    |none=>rw[hf] at hq;cases hq
    |some pc=>
     rw[hf] at hq
     simp at hq
     subst hq
     obtain⟨k',j',mY,rfl⟩:=NG ji fK hf
     rw[ou,<-Nat.add_assoc]
     exact a6.2.1 k' j' pc mY) ay k c fP (by rw[bI];exact aL) ti (by omega) (by omega) (growslice_fits (by omega) (by rw[oB];exact hb))
   exact⟨_,_,grownCap_ge w _ _ _,OW _,ur _,nN _,hr⟩
def vK (w:World) (sz:Nat) (py:List (List PC)) (v:Value):Prop:=
 (∀e∈py,e.length=sz)/\(∀k j c,At py k j c->Good w c)/\
 ∃ya c,v=.slice ya py.length c/\((ya=none/\py.length=0)\/∃ay,ya=some ay/\∀(j:Nat) (u:Value),(py.flatten.map PC.val)[j]? =some u->w.cell? (ay.add j)=some u)
theorem vK.abn {sz:Nat} {ya:Option Addr} {c:Nat} {py:List (List PC)} (hg:Good w (.list sz ya c py)):vK w sz py (.slice ya py.length c):=by
 cases hg with
 |nil _ _ _ h=>
  refine⟨by simp,by rintro k j c ⟨e,he,_⟩;simp at he,ya,c,rfl,?_⟩
  cases ya with
  |none=>exact .inl ⟨rfl,rfl⟩
  |some ay=>exact .inr ⟨ay,rfl,by simp⟩
 |cons _ b o _ _ h1 h2 h3 h4 h5 h6=>
  refine⟨h4,h6,_,c,rfl,.inr ⟨_,rfl,fun j u hj=>?_⟩⟩
  rw[List.getElem?_map] at hj
  cases hf:py.flatten[j]? with
  |none=>rw[hf] at hj;cases hj
  |some pc=>
   rw[hf] at hj
   simp at hj
   subst hj
   obtain⟨k',j',mY,rfl⟩:=NG h3 h4 hf
   rw[ou,<-Nat.add_assoc]
   exact h5 k' j' pc mY
theorem R.aem (r:R B E w0 N σ a w G) {σ2:St} (yC:σ2.env=σ.env) (mz:σ2.used=σ.used) (H:HR B E w G σ2.h σ.used []) (K:bf w G σ.h (fun n=>σ.used n=true) w G σ2.h)
  {n:Nat} {sz by_:Nat} {m m2:Mode} {px py:List (List PC)} {v yv:Value} (hn:σ.used n=false) (ji:0<sz) (F:lR B E w G σ2.h sz m2 (px++py)) (fK:∀e∈px,e.length=sz) (L:xN B E w G σ2.h sz m px v) (Ry:vK w sz py yv)
  (Pw:∀b,aX b py->∀b' o cap,0<cap->v=.slice (some (ad b' o)) px.length cap->pf G σ2.h b'->b≠b')
  {t e:TypeId} {i:TypeInfo} {z:Value} {ty:TypeId} (ht:P.underlying t=some (.slice e)) (hi:P.info? e=some i) (hz:i.zero=some z) (bI:i.size=sz) (oB:i.bytes=by_) (yx:0<by_) (sk:z.cells.size=sz)
  (hb:(px.length+py.length)*by_<=dK):
  ∃u w' G',(Builtin.append_ #[t,t] ty #[v,yv]).run P w=.ok u w'/\
   R B E w0 N {σ2 with h:=av σ2.h n (some (.row true m2 sz ((px++py).map fun e=>e.map PC.er))),used:=av σ2.used n true} a w' G'/\
   RA w' G' (av σ2.h n (some (.row true m2 sz ((px++py).map fun e=>e.map PC.er)))) (.one (.sl n sz 0 (px.length+py.length))) u:=by
 obtain⟨r1,r2,ya,c,rfl,r3⟩:=Ry
 have aL:(py.flatten.map PC.val).length=py.length*sz:=NH r1
 have h1:∀u∈py.flatten.map PC.val,u.oneCell'=true:=fun u hu=>by obtain⟨pc,_,rfl⟩:=List.mem_map.1 hu;exact PC.kN pc
 have hB:=r.fr.size
 have ZH:(px++py).length=px.length+py.length:=by simp
 have O3:σ2.h n=none:=by
  cases hh:σ2.h n with
  |none=>rfl
  |some b=>have:=H.iK n (by rw[hh];simp);rw[hn] at this;cases this
 have ne:∀q,σ.used q=true->q≠n:=fun q hq e=>by subst e;rw[hn] at hq;cases hq
 have aC:∀q,σ2.h q≠none->q≠n:=fun q hq e=>by subst e;exact hq O3
 rcases aoi (P:=P) w (ty:=ty) ht hi hz bI ji oB yx fK L aL r3 h1 hb with⟨a0,k0,rfl,rfl,bX⟩|⟨b,ob,cap,cur,e',rfl,b2,b3,b4,b5,b6,b7,b8,b9,bX⟩|⟨cap,arr,c1,c2,c3,c4,bX⟩
 ·
  have hpy:py=[]:=List.eq_nil_of_length_eq_zero k0
  subst hpy
  refine⟨_,w,⟨G.Im,av G.g n ⟨true,0,0,0,[],a0⟩⟩,bX,?_,?_⟩
  ·refine r.step (σ':=_) yC (fun q hq=>by show av σ2.used n true q=true;rw[mz];exact rE n q hq) (bf.trans (u2:=fun n=>σ.used n=true) (fun _ h=>h) K (bf.insert H (blk:=.row true m2 sz []) (p:=⟨true,0,0,0,[],a0⟩) hn (fun _ _=>rfl))) ?_ r.fr
   show HR B E w _ (av σ2.h n (some (.row true m2 sz []))) (av σ2.used n true) []
   rw[mz]
   have cf:∀b,¬aX b ([]:List (List PC)):=by rintro b ⟨k,j,c,⟨e,he,_⟩,_⟩;simp at he
   refine H.insert (p:=⟨true,0,0,0,[],a0⟩) hn (fun _ _=>rfl) (Nat.le_refl _) (fun h=>by cases h) (fun cs c m hb=>by cases hb) ⟨ji,rfl,fun _=>⟨rfl,fun _=>rfl⟩,(fun h=>by cases h),(fun h=>by cases h),?_⟩
    (fun gr m sz xs _ _ n' bm m' aJ aq _ _ b hb=>absurd hb (cf b)) (fun gr sz xs _ b hb=>absurd hb (cf b)) (fun gr m sz xs _ _ i pc b hi=>by simp at hi)
   have hm:=F.mode
   simp only[List.append_nil] at hm
   exact hm
  ·refine RA.gu rfl fun _=>.inl ?_
   simp[bG]
 ·
  have JA:(ob+px.length*sz)+(py.flatten.map PC.val).length<=cur.size:=by rw[aL,b3,Nat.add_assoc,<-Nat.add_mul];exact Nat.add_le_add_left (Nat.mul_le_mul_right _ b5) _
  let w2:=eS w b (ob+px.length*sz) (py.flatten.map PC.val) cur
  have dQ:∀x,x≠b->w2.heap[x]? =w.heap[x]? :=fun x hx=>zY x hx
  have Jj:∀x,G.Im x->x≠b:=fun x hx he=>b7.1 (he▸hx)
  have uO:∀x,dH w x->dH w2 x:=fun x hx=>Lx b2 JA x hx
  have ZL:∀x,aX x (px++py)->x≠b:=fun x hx=>(vg hx).elim (b9 x) (fun h=>Pw x h b ob cap (by obtain⟨k,j,c,⟨e,he,_⟩,_⟩:=h;have:=(List.getElem?_eq_some_iff.1 he).1;omega) rfl b7)
  let p:PB:=⟨false,b,ob,cap,px++py,none⟩
  have K2:bf w G σ2.h (fun n=>σ.used n=true) w2 ⟨G.Im,av G.g n p⟩ (av σ2.h n (some (.row true m2 sz ((px++py).map fun e=>e.map PC.er)))):=by
   refine⟨fun _ h=>h,fun x hx o=>iJ (dQ x (Jj x hx)) o,fun q hq h0=>?_,fun q gr aJ aq hq h0=>?_⟩
   ·rw[cz _ _ _ _ (ne q hq)] at h0
    simp only[cz _ _ _ _ (ne q hq)]
    exact⟨h0,trivial,trivial,trivial,trivial,trivial⟩
   ·rw[cz _ _ _ _ (ne q hq)] at h0
    simp only[cz _ _ _ _ (ne q hq)]
    exact⟨⟨gr,aq,h0⟩,fun k j pc h1 h2=>⟨pc,h1,rfl,h2⟩⟩
  have ahK:b<w.heap.size:=(Array.getElem?_eq_some_iff.1 b2).1
  have Hn:HR B E w2 ⟨G.Im,av G.g n p⟩ (av σ2.h n (some (.row true m2 sz ((px++py).map fun e=>e.map PC.er)))) (av σ.used n true) []:=by
   refine H.put (p:=p) (fun x _ hx=>dQ x (hx rfl)) (by show w.heap.size<=w2.heap.size;rw[rF];exact Nat.le_refl _) (fun x _ hx=>uO x hx) (fun q hq=>rE n q hq) (bG _ _ _)
    (fun _=>⟨b7.1,b8,by show b<w2.heap.size;rw[rF];exact ahK⟩) (fun _ q hq h0 hl=>b7.2.1 q h0 hl) (fun _ q gr aJ aq hq h0 x hx he=>b7.2.2 q gr .live aJ aq h0 (by have Jt:x=b:=he;rw[<-Jt];exact hx))
    (fun cs c q hb=>by cases hb) K2 ?_ ?_ ?_ (fun gr m sz xs _ _ i pc b hi=>by simp at hi) (fun _ _ x hx he=>by obtain⟨q,gr,mo,aJ,aq,_,h0,hxF⟩:=hx;exact b7.2.2 q gr mo aJ aq h0 (by have Jt:x=b:=he;rw[<-Jt];exact hxF))
   ·refine⟨ji,rfl,(fun h=>by cases h),fun _=>⟨uO b ⟨cur,e',b2⟩,⟨F.len,fun k j c hk=>?_,fun k j c hk=>?_⟩,by show(px++py).length<=cap;rw[ZH];exact b5⟩,fun _ _=>?_,?_⟩
    ·show w2.cell? (ad b (ob+k*sz+j))=some c.val
     rw[C4 b2 JA]
     have hf:=tW F.len hk
     rw[List.flatten_append] at hf
     have jF:px.flatten.length=px.length*sz:=by have:=NH fK;rwa[List.length_map] at this
     rcases vQ hk with⟨iM,cO⟩|⟨iM,cO⟩
     ·rw[if_neg ?_]
      ·exact b6.2.1 k j c cO
      ·rintro⟨q1,_⟩
       have hj:j<sz:=by obtain⟨e1,he,hj⟩:=cO;rw[<-fK e1 (List.mem_of_getElem? he)];exact(List.getElem?_eq_some_iff.1 hj).1
       have:(k+1)*sz<=px.length*sz:=Nat.mul_le_mul_right _ iM
       rw[Nat.add_mul] at this
       omega
     ·have Es:px.length*sz<=k*sz+j:=Nat.le_trans (Nat.mul_le_mul_right _ iM) (Nat.le_add_right _ _)
      have bH:=(List.getElem?_eq_some_iff.1 hf).1
      rw[List.length_append,jF] at bH
      rw[List.getElem?_append_right (by rw[jF];exact Es),jF] at hf
      rw[if_pos ⟨by omega,by simp only[List.length_map];omega⟩]
      rw[List.getElem?_map,show ob+k*sz+j - (ob+px.length*sz)=k*sz+j - px.length*sz by omega,hf]
      rfl
    ·exact(F.eA k j c hk).congr fun x hx o=>iJ (dQ x (ZL x ⟨k,j,c,hk,hx⟩)) o
    ·obtain⟨jC,q1,q2⟩:=Lw (vs:=py.flatten.map PC.val) (o:=ob+px.length*sz) b2 JA
     exact⟨b4,jC,e',q1,by rw[q2,b3]⟩
    ·have hm:=F.mode
     cases m2 with
     |aF=>exact hm
     |ab=>exact⟨fun x hx=>⟨(hm.1 x hx).1,uO x (hm.1 x hx).2.1,(hm.1 x hx).2.2⟩,hm.2⟩
     |live=>exact⟨fun x hx=>⟨(hm.1 x hx).1,uO x (hm.1 x hx).2.1,(hm.1 x hx).2.2⟩,hm.2⟩
   ·intro gr m' aJ aq hb ik q bm mo ko iw fE h0 jg x hx
    injection hb with _ hb _ _
    subst hb
    exact F.fI ik q bm mo ko iw h0 jg x hx
   ·intro gr aJ aq hb x hx
    injection hb with _ hb _ _
    exact⟨fun _=>ZL x hx,fun q _ h0 hl=>F.live hb x hx q h0 hl⟩
  refine⟨_,w2,⟨G.Im,av G.g n p⟩,bX,?_,?_⟩
  ·exact r.step (σ':=_) yC (fun q hq=>by show av σ2.used n true q=true;rw[mz];exact rE n q hq) (bf.trans (u2:=fun n=>σ.used n=true) (fun _ h=>h) K K2)
    (by show HR B E w2 _ _ (av σ2.used n true) [];rw[mz];exact Hn) (r.fr.one b8 (fun x hx PQ=>dQ x PQ) (by show w.heap.size<=w2.heap.size;rw[rF];exact Nat.le_refl _) (C5 b2 JA) rfl rfl rfl)
  ·refine RA.gu rfl fun _=>.inr ⟨by simp[bG,p],some (ad b ob),?_,?_,?_⟩
   ·simp[bG,p]
   ·simp[bG,p];exact b5
   ·simp[bG,p]
 ·
  let w1:=w.drew
  have hd:∀x:Nat,x<w.heap.size->(w.drew.alloc (.cells arr e)).heap[x]? =w.heap[x]? :=fun x hx=>heap_alloc_old w.drew _ x hx
  have H1:HR B E w.drew G σ2.h σ.used []:=H.grow (w':=w.drew) (fun _ _=>rfl) (Nat.le_refl _)
  have r1:R B E w0 N σ a w.drew G:=r.step (w':=w.drew) rfl (fun _ h=>h) (bf.world (w:=w) (w':=w.drew) (fun _ _=>rfl) _) (r.hr.grow (w':=w.drew) (fun _ _=>rfl) (Nat.le_refl _)) (r.fr.grow (w':=w.drew) (fun _ _=>rfl) (Nat.le_refl _) rfl rfl rfl)
  have K1:bf w.drew G σ.h (fun n=>σ.used n=true) w.drew G σ2.h:=⟨K.im,fun _ _ _=>rfl,K.name,K.live⟩
  have hJ:∀k j c,At (px++py) k j c->Good w.drew c:=fun k j c hk=>(F.eA k j c hk).congr fun _ _ _=>rfl
  have ur:∀k j c,At (px++py) k j c->arr[k*sz+j]? =some c.val:=fun k j c hk=>by
   have hf:=tW F.len hk
   refine c4 _ _ ?_
   rw[<-List.map_append,<-List.flatten_append,List.getElem?_map,hf]
   rfl
  have uL:arr.size=cap*sz:=by rw[c3,sk];omega
  have hB2:=r1.fr.size
  let p:PB:=⟨false,w.heap.size,0,cap,px++py,none⟩
  have hw:∀x:Nat,x<w.drew.heap.size->(w.drew.alloc (.cells arr e)).heap[x]? =w.drew.heap[x]? :=hd
  have Hn:HR B E (w.drew.alloc (.cells arr e)) ⟨G.Im,av G.g n p⟩ (av σ2.h n (some (.row true m2 sz ((px++py).map fun e=>e.map PC.er)))) (av σ.used n true) []:=by
   refine H1.insert (p:=p) hn hw (by simp) (fun _=>⟨H1.QF,.inl hB,by simp[p]⟩) (fun cs c m hb=>by cases hb) ?_ ?_ ?_ (fun gr m sz xs _ _ i pc b hi=>by simp at hi)
   ·refine⟨ji,rfl,(fun h=>by cases h),fun _=>⟨dH.alloc _ _ _,⟨F.len,fun k j c hk=>?_,fun k j c hk=>?_⟩,by show(px++py).length<=cap;rw[ZH];exact c1⟩,fun _ _=>⟨c2,arr,e,heap_alloc_new w.drew _,(Nat.zero_add _).symm▸uL⟩,?_⟩
    ·show(w.drew.alloc (.cells arr e)).cell? (ad w.drew.heap.size (0+k*sz+j))=some c.val
     simp only[Nat.zero_add]
     unfold ad
     rw[World.cell?_alloc_new]
     exact ur k j c hk
    ·exact(hJ k j c hk).congr fun x hx o=>iJ (hw x ((hJ k j c hk).lt hx)) o
    ·have hm:=F.mode
     have hu:∀x,dH w x->dH (w.drew.alloc (.cells arr e)) x:=fun x hx=>hx.congr (hd x hx.lt)
     cases m2 with
     |aF=>exact hm
     |ab=>exact⟨fun x hx=>⟨(hm.1 x hx).1,hu x (hm.1 x hx).2.1,(hm.1 x hx).2.2⟩,hm.2⟩
     |live=>exact⟨fun x hx=>⟨(hm.1 x hx).1,hu x (hm.1 x hx).2.1,(hm.1 x hx).2.2⟩,hm.2⟩
   ·intro gr m' aJ aq hb ik q bm mo ko iw h0 jg x hx
    injection hb with _ hb _ _
    subst hb
    exact F.fI ik q bm mo ko iw h0 jg x hx
   ·intro gr aJ aq hb x hx
    injection hb with _ hb _ _
    refine⟨fun _=>?_,fun q h0 hl=>F.live hb x hx q h0 hl⟩
    obtain⟨k,j,c,hk,hxc⟩:=hx
    have:=(F.eA k j c hk).lt hxc
    show x≠w.heap.size
    omega
  refine⟨_,_,⟨G.Im,av G.g n p⟩,bX,?_,?_⟩
  ·exact r1.step (σ':=_) yC (fun q hq=>by show av σ2.used n true q=true;rw[mz];exact rE n q hq) (bf.trans (u2:=fun n=>σ.used n=true) (fun _ h=>h) K1 (bf.insert H1 hn hw))
    (by show HR B E _ _ _ (av σ2.used n true) [];rw[mz];exact Hn) (r1.fr.grow hw (by simp) rfl rfl rfl)
  ·refine RA.gu rfl fun _=>.inr ⟨by simp[bG,p],some (ad w.heap.size 0),?_,?_,?_⟩
   ·simp[bG,p]
   ·simp[bG,p];exact c1
   ·simp[bG,p]
theorem ajY (r:R B E w0 N σ a w G) {sz:Nat} {x:aj} {v:Value} {xs:List (List C)} {m:Mode} {σ1:St} (hv:RA w G σ.h x v) (hx:qu σ sz x=some (xs,m,σ1)):
  ∃px:List (List PC),xs=px.map (fun e=>e.map PC.er)/\lR B E w G σ1.h sz m px/\xN B E w G σ1.h sz m px v/\HR B E w G σ1.h σ.used []/\bf w G σ.h (fun n=>σ.used n=true) w G σ1.h/\σ1.env=σ.env/\σ1.used=σ.used/\
   (∀n b,σ1.h n=some b->σ.h n=some b):=by
 unfold qu at hx
 split at hx
 ·rename_i s
  injection hx with hx
  injection hx with h1 h2
  injection h2 with h2 h3
  subst h1 h2 h3
  have dS:v=.slice none 0 0:=(hv.fH (by simp)).1
  have cf:∀b,¬aX b ([]:List (List PC)):=by rintro b ⟨k,j,c,⟨e,he,_⟩,_⟩;simp at he
  exact⟨[],rfl,⟨by simp,by rintro k j c ⟨e,he,_⟩;simp at he,⟨fun b hb=>absurd hb (cf b),(by rintro k j c ⟨e,he,_⟩;simp at he),(by rintro k j c k' j' c' b ⟨e,he,_⟩;simp at he)⟩,fun _ _ _ _ _ _ _ _ b hb=>absurd hb (cf b),fun _ b hb=>absurd hb (cf b)⟩,
   .inl ⟨none,dS,rfl⟩,r.hr,bf.refl _ _ _ _,rfl,rfl,fun _ _ h=>h⟩
 ·rename_i n s len
  split at hx
  ·rename_i m0 rs kR hn
   split at hx
   ·rename_i hc
    obtain⟨rfl,rfl,rfl⟩:=hc
    injection hx with hx
    injection hx with h1 h2
    injection h2 with h2 h3
    subst h1 h2 h3
    have H:=r.hr
    have bP:σ.h n≠none:=by rw[hn];simp
    have hr:=H.row n true m0 s kR hn
    have gA:jA (G.g n) s 0 kR.length v:=(hv.fH (by simp)).1 bP
    have qR:kR.length=(G.g n).px.length:=by rw[hr.er];simp
    refine⟨(G.g n).px,hr.er,lR.Sa H hn,?_,H.del n,bf.del n _,rfl,rfl,fun q b hq=>(qz hq).1⟩
    rcases gA with⟨aL,dS,_,_⟩|⟨aL,a',dS,jE,ha⟩
    ·have g2:=(hr.nl aL).2 rfl
     exact .inl ⟨(G.g n).na,by rw[dS,g2],(hr.nl aL).1⟩
    ·right
     obtain⟨r2,cur,e,r3,r4⟩:=hr.room aL rfl
     obtain⟨l1,l2,l3⟩:=hr.dV aL
     obtain⟨o1,o2,o3⟩:=H.own n bP aL
     have pC:=ha (.inr rfl)
     refine⟨(G.g n).b,(G.g n).o,(G.g n).cap,cur,e,?_,r3,r4,r2,l3,l2,⟨o1,fun q hq hl=>?_,fun q gr m' aJ aq hq hb=>?_⟩,o2,fun b hb=>H.s9 bP aL hn hb⟩
     ·rw[dS,pC,qR];simp
     ·obtain⟨q1,q2⟩:=AZ hq
      exact H.inj q n q1 bP q2 hl aL
     ·exact H.s9 bP aL (qz hq).1 hb rfl
   ·cases hx
  ·cases hx
 ·cases hx
theorem an0 {fl:Bool} {sz:Nat} {x:aj} {v:Value} {ys:List (List C)} {m m2:Mode} {σ1 σ2:St} {px:List (List PC)} (ji:0<sz) (H:HR B E w G σ1.h σ1.used []) (F:lR B E w G σ1.h sz m px) (hv:RA w G σ1.h x v)
  (hx:lV fl σ1 sz m x=some (ys,m2,σ2)):
  ∃py:List (List PC),ys=py.map (fun e=>e.map PC.er)/\vK w sz py v/\lR B E w G σ2.h sz m2 (px++py)/\HR B E w G σ2.h σ1.used []/\bf w G σ1.h (fun n=>σ1.used n=true) w G σ2.h/\σ2.env=σ1.env/\σ2.used=σ1.used/\
   (∀n b,σ2.h n=some b->σ1.h n=some b)/\(∀b,aX b py->∀b',¬G.Im b'->(∀q gr mo aJ aq,σ1.h q=some (.row gr mo aJ aq)->¬aX b' (G.g q).px)->b≠b'):=by
 unfold lV at hx
 have ah6:∀b,¬aX b ([]:List (List PC)):=by rintro b ⟨k,j,c,⟨e,he,_⟩,_⟩;simp at he
 split at hx
 ·rename_i s
  injection hx with hx
  injection hx with h1 h2
  injection h2 with h2 h3
  subst h1 h2 h3
  have dS:v=.slice none 0 0:=(hv.fH (by simp)).1
  subst dS
  exact⟨[],rfl,⟨by simp,by rintro k j c ⟨e,he,_⟩;simp at he,none,0,rfl,.inl ⟨rfl,rfl⟩⟩,by simpa using F,H,bf.refl _ _ _ _,rfl,rfl,fun _ _ h=>h,fun b hb=>absurd hb (ah6 b)⟩
 ·rename_i s vw
  split at hx
  ·rename_i hs
   subst hs
   obtain⟨pc,e1,e2,e3,e4⟩:=hv.c
   have aU:∃ya c py,pc=.list s ya c py/\py.map (fun e=>e.map PC.er)=vw:=by
    cases pc with
    |int k n=>simp[PC.er] at e1
    |bool b=>simp[PC.er] at e1
    |list s' ya c py=>rw[PC.dO] at e1;injection e1 with e1 e5;subst e1;exact⟨ya,c,py,rfl,e5⟩
   obtain⟨ya,c,py,rfl,e5⟩:=aU
   have hR:vK w s py v:=by rw[<-e2];exact vK.abn e3
   have mW:∀b,aX b py->G.Im b:=fun b ⟨k,j,c,hk,hb⟩=>e4 b (.there _ _ _ _ k j c hk hb)
   have pE:∀b,aX b py->∀b',¬G.Im b'->(∀q gr mo aJ aq,σ1.h q=some (.row gr mo aJ aq)->¬aX b' (G.g q).px)->b≠b':=fun b hb b' aY _ he=>aY (he▸mW b hb)
   split at hx
   ·rename_i tm
    injection hx with hx
    injection hx with h1 h2
    injection h2 with h2 h3
    subst h1 h2 h3
    replace tm:=(Bool.and_eq_true _ _▸tm).2
    rw[<-e5] at tm
    exact⟨py,e5.symm,hR,F.WQ hR.1 hR.2.1 (CE tm),H,bf.refl _ _ _ _,rfl,rfl,fun _ _ h=>h,pE⟩
   ·split at hx
    ·cases hx
    ·rename_i tf
     injection hx with hx
     injection hx with h1 h2
     injection h2 with h2 h3
     subst h1 h2 h3
     refine⟨py,e5.symm,hR,⟨fun e he=>(List.mem_append.1 he).elim (F.len e) (hR.1 e),fun k j c hk=>?_,fun b hb=>(vg hb).elim (F.VZ tf b) (mW b),fun h=>absurd rfl h,fun h=>by cases h⟩,H,bf.refl _ _ _ _,rfl,rfl,fun _ _ h=>h,pE⟩
     rcases vQ hk with⟨_,h⟩|⟨_,h⟩
     ·exact F.eA _ _ _ h
     ·exact hR.2.1 _ _ _ h
  ·cases hx
 ·rename_i n s lo len
  split at hx
  ·rename_i gr m' rs vw hn
   split at hx
   ·rename_i hc
    obtain⟨rfl,rfl,hl⟩:=hc
    have bP:σ1.h n≠none:=by rw[hn];simp
    have hr:=H.row n gr m' s vw hn
    have gA:jA (G.g n) s lo len v:=(hv.fH (by simp)).1 bP
    obtain⟨q1,q2,q3,q4⟩:=FK hr gA hl
    have O6:∃ya c,kK (G.g n) s lo len v=.list s ya c (((G.g n).px.drop lo).take len):=by
     rcases gA with⟨_,rfl,_,_⟩|⟨_,a',rfl,_,_⟩<;>exact⟨_,_,rfl⟩
    obtain⟨ya,c,O6⟩:=O6
    rw[O6] at q1 q2 q3 q4
    have hR:vK w s (((G.g n).px.drop lo).take len) v:=by rw[<-q2];exact vK.abn q3
    have sj:(vw.drop lo).take len=(((G.g n).px.drop lo).take len).map (fun e=>e.map PC.er):=by rw[PC.dO] at q1;injection q1 with _ q1;exact q1.symm
    have pE:∀b,aX b (((G.g n).px.drop lo).take len)->∀b',¬G.Im b'->(∀q gr mo aJ aq,σ1.h q=some (.row gr mo aJ aq)->¬aX b' (G.g q).px)->b≠b':=by
     rintro b ⟨k,j,c,hk,hb⟩ b' _ aY rfl
     exact aY n gr m' s vw hn ⟨_,_,_,(pi hk).1,hb⟩
    split at hx
    ·rename_i tm
     injection hx with hx
     injection hx with h1 h2
     injection h2 with h2 h3
     subst h1 h2 h3
     have ZW:=(Bool.and_eq_true _ _▸tm).2
     rw[sj] at ZW
     exact⟨_,sj,hR,F.WQ hR.1 hR.2.1 (CE ZW),H,bf.refl _ _ _ _,rfl,rfl,fun _ _ h=>h,pE⟩
    ·split at hx
     ·rename_i ahR
      obtain⟨rfl,rfl⟩:=ahR
      have fL:((G.g n).px.drop 0).take vw.length=(G.g n).px:=by
       have:vw.length=(G.g n).px.length:=by rw[hr.er];simp
       rw[this];simp
      rw[fL] at hR pE
      have F2:=lR.Sa H hn
      have F1:=F.del n
      have hJ:∀k j c,At (px++(G.g n).px) k j c->Good w c:=fun k j c hk=>by
       rcases vQ hk with⟨_,h⟩|⟨_,h⟩
       ·exact F.eA _ _ _ h
       ·exact F2.eA _ _ _ h
      have hlen:∀e∈px++(G.g n).px,e.length=s:=fun e he=>(List.mem_append.1 he).elim (F.len e) (F2.len e)
      split at hx
      ·rename_i c6
       subst c6
       injection hx with hx
       injection hx with h1 h2
       injection h2 with h2 h3
       subst h1 h2 h3
       refine⟨(G.g n).px,hr.er,hR,⟨hlen,hJ,?_,fun hm q bm mo aJ aq hq jg b hb=>?_,fun hm b hb q hq hl=>?_⟩,H.del n,bf.del n _,rfl,rfl,fun q b hq=>(qz hq).1,pE⟩
       ·have m1:=F.mode
        have m3:=F2.mode
        cases m with
        |aF=>exact fun b hb=>(vg hb).elim (m1 b) (m3 b)
        |ab=>exact⟨fun b hb=>(vg hb).elim (m1.1 b) (m3.1 b),KH m1.2 m3.2 (fun b hb=>F.fI (by simp) n gr .ab s vw hn (by simp) b hb)⟩
        |live=>exact⟨fun b hb=>(vg hb).elim (m1.1 b) (m3.1 b),KH m1.2 m3.2 (fun b hb=>F.fI (by simp) n gr .live s vw hn (by simp) b hb)⟩
       ·exact(vg hb).elim (F1.fI hm q bm mo aJ aq hq jg b) (F2.fI hm q bm mo aJ aq hq jg b)
       ·exact(vg hb).elim (fun h=>F1.live hm b h q hq hl) (fun h=>F2.live hm b h q hq hl)
      ·split at hx
       ·cases hx
       ·rename_i aL
        injection hx with hx
        injection hx with h1 h2
        injection h2 with h2 h3
        subst h1 h2 h3
        refine⟨(G.g n).px,hr.er,hR,⟨hlen,hJ,fun b hb=>(vg hb).elim (F.VZ (fun h=>aL (.inl h)) b) (F2.VZ (fun h=>aL (.inr h)) b),fun h=>absurd rfl h,fun h=>by cases h⟩,H.del n,bf.del n _,rfl,rfl,fun q b hq=>(qz hq).1,pE⟩
     ·cases hx
   ·cases hx
  ·cases hx
 ·cases hx
theorem afF (r:R B E w0 N σ a w G) {n:Nat} {t e:TypeId} {i:TypeInfo} {z:Value} {x y:Operand} {mx my:MO} {fl:Bool} {sz by_:Nat} {xs ys:List (List C)} {m m2:Mode} {σ1 σ2 gW:St}
  (ho:o.op=.call {callee:=.builtin .append,args:=#[x,y],argTypes:=#[t,t]}) (hd:o.dst=some n) (hN:n<N) (ij:bz x mx=true) (jY:bz y my=true)
  (ht:P.underlying t=some (.slice e)) (hi:P.info? e=some i) (hz:i.zero=some z) (bI:i.size=sz) (ji:0<sz) (oB:i.bytes=by_) (yx:0<by_) (sk:z.cells.size=sz)
  (hl:qu σ sz (σ.ev mx)=some (xs,m,σ1)) (hr:lV fl σ1 sz m (σ.ev my)=some (ys,m2,σ2)) (hb:(xs.length+ys.length)*by_<=dK)
  (hx:σ2.ins n (.row true m2 sz (xs++ys))=some gW):
  o.wp P a w (Nx B E w0 N (gW.put o.dst (.one (.sl n sz 0 (xs.length+ys.length))))) Q:=by
 obtain⟨hn,rfl⟩:=mE hx
 obtain⟨x1,x2⟩:=r.ev ij
 obtain⟨y1,y2⟩:=r.ev jY
 obtain⟨px,e1,F1,L1,H1,K1,q1,q2,q3⟩:=ajY r x1 hl
 have y1':RA w G σ1.h (σ.ev my) (a.eval y):=y1.ff K1 y2
 rw[<-q2] at H1
 obtain⟨py,e2,R2,F2,H2,K2,p1,p2,p3,pE⟩:=an0 ji H1 F1 y1' hr
 rw[q2] at H2
 have qR:xs.length=px.length:=by rw[e1];simp
 have BO:ys.length=py.length:=by rw[e2];simp
 have L2:xN B E w G σ2.h sz m px (a.eval x):=by
  rcases L1 with h|⟨b,o,cap,cur,e',b1,b2,b3,b4,b5,b6,⟨l1,l2,l3⟩,b8,b9⟩
  ·exact .inl h
  ·refine .inr ⟨b,o,cap,cur,e',b1,b2,b3,b4,b5,b6,⟨l1,fun q hq=>?_,fun q gr mo aJ aq hq=>l3 q gr mo aJ aq (p3 q _ hq)⟩,b8,b9⟩
   cases hh:σ2.h q with
   |none=>exact absurd hh hq
   |some bb=>exact l2 q (by rw[p3 q bb hh];simp)
 obtain⟨u,w',G',bX,r',hv⟩:=r.aem (P:=P) (σ2:=σ2) (n:=n) (m:=m) (m2:=m2) (px:=px) (py:=py) (ty:=o.type) (p1.trans q1) (p2.trans q2) H2 (bf.trans (u2:=fun n=>σ1.used n=true) (fun q hq=>by rw[q2];exact hq) K1 K2)
  (by rw[<-q2,<-p2];exact hn) ji F2 F1.len L2 R2 (fun b cH b' o' cap eP uP ZK=>by
   rcases L1 with⟨_,h,_⟩|⟨b0,o0,vU,cur,e',b1,b2,b3,b4,b5,b6,⟨l1,l2,l3⟩,b8,b9⟩
   ·rw[h] at uP;injection uP with _ _ uP;omega
   ·rw[b1] at uP
    injection uP with uP
    injection uP with uP
    have Bp:=(nD uP).1
    subst Bp
    exact pE b cH b0 l1 l3) ht hi hz bI oB yx sk (by rw[<-qR,<-BO];exact hb)
 have Pt:(px++py).map (fun e=>e.map PC.er)=xs++ys:=by rw[List.map_append,<-e1,<-e2]
 rw[Pt] at r' hv
 rw[<-qR,<-BO] at hv
 refine oe (v:=u) (w':=w') ?_ ⟨G',r'.put hv (fun q hq=>by have eD:q=n:=hq;subst eD;exact bG _ _ _) (fun q hq=>by rw[hd] at hq;injection hq with hq;omega)⟩
 simp[execOp,ho,resolve,invoke,builtin,bX]
end
end Go.Am
