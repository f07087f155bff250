/- Am14: append. No condition. -/
import Derived.Test.YtifmggmhdcdgbaaAm13
set_option linter.unusedVariables false
namespace Go.Am
theorem vO {α:Type} {px py:List (List α)} {k j:Nat} {c:α} (h:At (px++py) k j c):(k<px.length/\At px k j c)\/(px.length<=k/\At py (k - px.length) j c):=by
 obtain⟨e,he,hj⟩:=h
 rcases Nat.lt_or_ge k px.length with hk|hk
 ·rw[List.getElem?_append_left hk] at he;exact .inl ⟨hk,e,he,hj⟩
 ·rw[List.getElem?_append_right hk] at he;exact .inr ⟨hk,e,he,hj⟩
theorem vc {b:Nat} {px py:List (List PC)} (h:aS b (px++py)):aS b px\/aS b py:=by
 obtain⟨k,j,c,hk,hb⟩:=h
 rcases vO hk with⟨_,h1⟩|⟨_,h1⟩
 ·exact .inl ⟨_,_,_,h1,hb⟩
 ·exact .inr ⟨_,_,_,h1,hb⟩
theorem KC {px py:List (List PC)} (h1:g7 px) (h2:g7 py) (h3:∀b,aS b px->¬aS b py):g7 (px++py):=by
 refine⟨fun k j c hk=>?_,fun k j c k' j' c' b hk cX ax hb aT=>?_⟩
 ·rcases vO hk with⟨_,h⟩|⟨_,h⟩
  ·exact h1.1 _ _ _ h
  ·exact h2.1 _ _ _ h
 ·rcases vO hk with⟨q,h⟩|⟨q,h⟩<;>rcases vO cX with⟨q',h'⟩|⟨q',h'⟩
  ·exact h1.2 _ _ _ _ _ _ b h h' ax hb aT
  ·exact h3 b ⟨_,_,_,h,hb⟩ ⟨_,_,_,h',aT⟩
  ·exact h3 b ⟨_,_,_,h',aT⟩ ⟨_,_,_,h,hb⟩
  ·refine h2.2 _ _ _ _ _ _ b h h' (fun e=>ax ?_) hb aT
   injection e with e1 e2
   rw[show k=k' by omega,e2]
section
variable {B:Nat} {E:Ex} {w0 w w':World} {G G':Gh} {h h':Nat->Option ar} {used used':Nat->Bool} {tk:List PC} {N:Nat}
variable {P:Program} {o:Oper} {a:Act} {σ σ':St} {Q:Exit->Act->World->Prop}
theorem Ci {py:List (List PC)} (hs:fN (py.map fun e=>e.map PC.er)=true) (b:Nat):¬aS b py:=by
 rintro⟨k,j,c,⟨e,he,hj⟩,hb⟩
 have h1:e.map PC.er∈py.map fun e=>e.map PC.er:=List.mem_map_of_mem (f:=fun e=>e.map PC.er) (List.mem_of_getElem? he)
 have h2:=List.all_eq_true.1 hs _ h1
 have h3:=List.all_eq_true.1 h2 c.er (List.mem_map_of_mem (List.mem_of_getElem? hj))
 exact(Sep.kK (pc:=c) h3).2 b hb
structure kV (B:Nat) (E:Ex) (w:World) (G:Gh) (h:Nat->Option ar) (sz:Nat) (m:Mode) (px:List (List PC)):Prop where
 len:∀e∈px,e.length=sz
 eD:∀k j c,At px k j c->Good w c
 mode:CS B E w G px m
 fv:m≠ .aA->∀n gr m' aK av,h n=some (.row gr m' aK av)->m'≠ .aA->∀b,aS b px->¬aS b (G.g n).px
 live:m=.live->∀b,aS b px->∀n,h n≠none->(G.g n).nl=false->b≠(G.g n).b
theorem kV.VH {m:Mode} {sz:Nat} {px py:List (List PC)} (F:kV B E w G h sz m px) (hl:∀e∈py,e.length=sz) (hg:∀k j c,At py k j c->Good w c) (cb:∀b,¬aS b py):kV B E w G h sz m (px++py):=by
 have eT:∀b,aS b (px++py)->aS b px:=fun b hb=>(vc hb).resolve_right (cb b)
 refine⟨fun e he=>(List.mem_append.1 he).elim (F.len e) (hl e),fun k j c hk=>?_,?_,fun hm n gr m' aK av hn bB b hb=>F.fv hm n gr m' aK av hn bB b (eT b hb),fun hm b hb=>F.live hm b (eT b hb)⟩
 ·rcases vO hk with⟨_,h⟩|⟨_,h⟩
  ·exact F.eD _ _ _ h
  ·exact hg _ _ _ h
 ·have j4:g7 py:=⟨fun k j c hk=>Sep.EV (fun b hb=>cb b ⟨k,j,c,hk,hb⟩) (hg k j c hk),fun k j c k' j' c' b hk _ _ hb=>absurd ⟨k,j,c,hk,hb⟩ (cb b)⟩
  have hm:=F.mode
  cases m with
  |aA=>exact fun b hb=>hm b (eT b hb)
  |ab=>exact⟨fun b hb=>hm.1 b (eT b hb),KC hm.2 j4 (fun b _=>cb b)⟩
  |live=>exact⟨fun b hb=>hm.1 b (eT b hb),KC hm.2 j4 (fun b _=>cb b)⟩
theorem kV.Rx (H:HR B E w G h used []) {n:Nat} {gr:Bool} {m:Mode} {sz:Nat} {xs:List (List C)} (hn:h n=some (.row gr m sz xs)):kV B E w G (aw h n none) sz m (G.g n).px:=by
 have hr:=H.row n gr m sz xs hn
 have aM:(G.g n).px≠[]->(G.g n).nl=false:=fun ax=>by
  cases hq:(G.g n).nl with
  |false=>rfl
  |true=>exact absurd (hr.nl hq).1 ax
 refine⟨fun e he=>(hr.dD (aM (List.ne_nil_of_mem he))).2.1.1 e he,fun k j c hk=>?_,hr.mode,fun hm q bk m' aK av hq bB b hb=>?_,fun hm b hb q hq hl=>?_⟩
 ·have ax:(G.g n).px≠[]:=by obtain⟨e,he,_⟩:=hk;exact List.ne_nil_of_mem (List.mem_of_getElem? he)
  exact(hr.dD (aM ax)).2.1.2.2 k j c hk
 ·obtain⟨q1,q2⟩:=pz hq
  exact H.fv n q gr m sz xs bk m' aK av hn q1 hm bB (Ne.symm q2) b hb
 ·subst hm
  obtain⟨q1,q2⟩:=Aj hq
  exact H.live n gr sz xs hn b hb q q1 hl
theorem kV.del {m:Mode} {sz:Nat} {px:List (List PC)} (F:kV B E w G h sz m px) (n:Nat):kV B E w G (aw h n none) sz m px:=
 ⟨F.len,F.eD,F.mode,fun hm q gr m' aK av hq bB=>F.fv hm q gr m' aK av (pz hq).1 bB,fun hm b hb q hq=>F.live hm b hb q (Aj hq).1⟩
theorem kV.UY {m:Mode} {sz:Nat} {px:List (List PC)} (F:kV B E w G h sz m px) (hm:m≠ .live):∀b,aS b px->G.Im b:=by
 intro b hb
 have:=F.mode
 cases m with
 |aA=>exact this b hb
 |ab=>exact(this.1 b hb).1
 |live=>exact absurd rfl hm
def xR (B:Nat) (E:Ex) (w:World) (G:Gh) (h:Nat->Option ar) (sz:Nat) (m:Mode) (px:List (List PC)) (v:Value):Prop:=
 (∃a,v=.slice a 0 0/\px=[])\/
 ∃b o cap cur e,v=.slice (some (ad b o)) px.length cap/\w.heap[b]? =some (.cells cur e (0,0))/\cur.size=o+cap*sz/\cap<=maxLen/\px.length<=cap/\oF w b o sz px/\
  oE G h b/\(B<=b\/E b)/\(∀b',aS b' px->b'≠b)
theorem xR.del {m:Mode} {sz:Nat} {px:List (List PC)} {v:Value} (L:xR B E w G h sz m px v) (n:Nat):xR B E w G (aw h n none) sz m px v:=by
 rcases L with h1|⟨b,o,cap,cur,e,a1,a2,a3,a4,a5,a6,⟨l1,l2,l3⟩,a8,a9⟩
 ·exact .inl h1
 ·exact .inr ⟨b,o,cap,cur,e,a1,a2,a3,a4,a5,a6,⟨l1,fun q hq=>l2 q (Aj hq).1,fun q gr m sz xs hq=>l3 q gr m sz xs (pz hq).1⟩,a8,a9⟩
theorem M5 {px:List (List PC)} {sz:Nat} (hl:∀e∈px,e.length=sz):(px.flatten.map PC.val).length=px.length*sz:=by
 induction px with
 |nil=>simp
 |cons e px ih=>
  have:=ih (fun e he=>hl e (by simp[he]))
  simp only[List.flatten_cons,List.map_append,List.length_append,List.length_cons,Nat.add_mul,this,List.length_map] at*
  rw[hl e (by simp)]
  omega
theorem M4 {α:Type} {sz:Nat} (bD:0<sz):∀{px:List (List α)} (_:∀e∈px,e.length=sz) {i:Nat} {c:α},px.flatten[i]? =some c->∃k j,At px k j c/\i=k*sz+j
 |[],_,i,c,hi=>by simp at hi
 |e::px,hl,i,c,hi=>by
  have h0:=hl e (by simp)
  simp only[List.flatten_cons] at hi
  rcases Nat.lt_or_ge i e.length with bH|DO
  ·rw[List.getElem?_append_left bH] at hi
   exact⟨0,i,⟨e,rfl,hi⟩,by omega⟩
  ·rw[List.getElem?_append_right DO] at hi
   obtain⟨k,j,⟨e',he,hj⟩,hk⟩:=M4 bD (px:=px) (fun e he=>hl e (by simp[he])) hi
   exact⟨k+1,j,⟨e',by simpa using he,hj⟩,by rw[Nat.add_mul];omega⟩
theorem ans {t ty e e':TypeId} {i:TypeInfo} (ht:P.underlying t=some (.slice e)) (hi:P.info? e=some i)
  (g og xk S8:Nat) (cur:Array Value) (hg:w.heap[g]? =some (.cells cur e' (0,0)))
  (a:Addr) (m c:Nat) (fB:List Value) (hl:fB.length=m*i.size) (sD:∀j u,fB[j]? =some u->w.cell? (a.add j)=some u) (h1:∀u∈fB,u.oneCell'=true)
  (D6:xk+m<=S8) (gO:og+xk*i.size+fB.length<=cur.size):
  (Builtin.append_ #[t,t] ty #[.slice (some (ad g og)) xk S8,.slice (some a) m c]).run P w=.ok (.slice (some (ad g og)) (xk+m) S8) (d8 w g (og+xk*i.size) fB cur):=by
 have hf:=run_firstCells_some (P:=P) w i.size m a m c fB hl sD
 have mQ:=run_storeCells_at P g (og+xk*i.size) e' fB 0 cur w hg (by simpa using gO) h1
 simp only[Nat.add_zero] at mQ
 have ha:(ad g og).add (xk*i.size)=⟨g,og+xk*i.size,none⟩:=by rw[nw];simp[ad]
 simp[Builtin.append_,run_underlying ht,sizeOf,typeInfo,hi,Builtin.lenOf,D6,hf,ha,mQ,d8]
theorem anr (w:World) {t e:TypeId} {i:TypeInfo} {z:Value} {ty:TypeId} {sz by_:Nat} (ht:P.underlying t=some (.slice e)) (hi:P.info? e=some i) (hz:i.zero=some z) (bD:i.size=sz) (iZ:0<sz) (pK:i.bytes=by_) (yB:0<by_)
  {m:Mode} {px:List (List PC)} {v:Value} (fY:∀e∈px,e.length=sz) (L:xR B E w G h sz m px v) {fB:List Value} {k c:Nat} {ya:Option Addr} (aM:fB.length=k*sz)
  (hy:(ya=none/\k=0)\/∃ay,ya=some ay/\∀(j:Nat) (u:Value),fB[j]? =some u->w.cell? (ay.add j)=some u) (h1:∀u∈fB,u.oneCell'=true) (hb:(px.length+k)*by_<=dK):
  (∃a,k=0/\v=.slice a 0 0/\px=[]/\(Builtin.append_ #[t,t] ty #[v,.slice ya k c]).run P w=.ok (.slice a 0 0) w)\/
  (∃b o cap cur e',v=.slice (some (ad b o)) px.length cap/\w.heap[b]? =some (.cells cur e' (0,0))/\cur.size=o+cap*sz/\cap<=maxLen/\px.length+k<=cap/\oF w b o sz px/\oE G h b/\(B<=b\/E b)/\(∀b',aS b' px->b'≠b)/\
   (Builtin.append_ #[t,t] ty #[v,.slice ya k c]).run P w=.ok (.slice (some (ad b o)) (px.length+k) cap) (d8 w b (o+px.length*sz) fB cur))\/
  (∃(cap:Nat) (arr:Array Value),px.length+k<=cap/\cap<=maxLen/\arr.size=cap*z.cells.size+(px.length+k)*sz - (px.length+k)*z.cells.size/\(∀(q:Nat) (u:Value),(px.flatten.map PC.val++fB)[q]? =some u->arr[q]? =some u)/\
   (Builtin.append_ #[t,t] ty #[v,.slice ya k c]).run P w=.ok (.slice (some (ad w.heap.size 0)) (px.length+k) cap) (w.drew.alloc (.cells arr e))):=by
 have sC:px.length+k<=dK:=Nat.le_trans (Nat.le_mul_of_pos_right _ yB) hb
 have gP:(dK:Nat)=140737488355328:=rfl
 have N6:∀eZ,grownCap w (px.length+k) eZ e<=maxLen:=fun eZ=>grownCap_le_maxLen w _ eZ e (by simp only[maxLen];omega)
 have Yc:=M5 fY
 have ul:∀eZ,((px.flatten.map PC.val).toArray++fB.toArray++Builtin.zeroCells z.cells (grownCap w (px.length+k) eZ e - (px.length+k))).size=grownCap w (px.length+k) eZ e*z.cells.size+(px.length+k)*sz - (px.length+k)*z.cells.size:=by
  intro eZ
  have DO:=grownCap_ge w (px.length+k) eZ e
  have h2:(px.length+k)*z.cells.size<=grownCap w (px.length+k) eZ e*z.cells.size:=Nat.mul_le_mul_right _ DO
  simp only[Array.size_append,List.size_toArray,size_zeroCells,Yc,aM,Nat.sub_mul,Nat.add_mul] at*
  omega
 have mO:∀eZ (q:Nat) (u:Value),(px.flatten.map PC.val++fB)[q]? =some u->((px.flatten.map PC.val).toArray++fB.toArray++Builtin.zeroCells z.cells (grownCap w (px.length+k) eZ e - (px.length+k)))[q]? =some u:=by
  intro eZ q u hq
  have IP:=(List.getElem?_eq_some_iff.1 hq).1
  rw[Array.getElem?_append_left (by simp only[Array.size_append,List.size_toArray];simpa using IP)]
  simpa using hq
 rcases L with⟨a,rfl,rfl⟩|⟨b,o,cap,cur,e',rfl,a2,a3,a4,a5,a6,a7,a8,a9⟩
 ·by_cases hk:k=0
  ·subst hk
   left
   have hn:fB=[]:=List.eq_nil_of_length_eq_zero (by simpa using aM)
   refine⟨a,rfl,rfl,rfl,?_⟩
   cases ya<;>cases a<;>simp[Builtin.append_,run_underlying ht,sizeOf,typeInfo,hi,Builtin.lenOf,Builtin.firstCells,loadCells,loadCellsFrom,storeCells]
  ·rcases hy with⟨_,h0⟩|⟨ay,rfl,sD⟩
   ·exact absurd h0 hk
   right;right
   cases a with
   |none=>
    have hr:=run_append_nil (P:=P) w t ty e i z ht hi hz ay k c fB (by rw[bD];exact aM) sD (by omega) (by simp only[List.length_nil,Nat.zero_add] at sC;omega) (by rw[pK];simp only[List.length_nil,Nat.zero_add] at hb;omega)
    have h3:=ul 0
    have h4:=mO 0
    have h5:=N6 0
    simp only[List.length_nil,Nat.zero_add,List.flatten_nil,List.map_nil,List.nil_append] at h3 h4 h5⊢
    exact⟨grownCap w k 0 e,fB.toArray++Builtin.zeroCells z.cells (grownCap w k 0 e - k),grownCap_ge w k 0 e,h5,by simpa using h3,fun q u hq=>by simpa using h4 q u hq,hr⟩
   |some a=>
    have hr:=run_append_grow (P:=P) w t ty e i z ht hi hz a 0 0 [] (by simp) (fun q u hq=>by simp at hq) ay k c fB (by rw[bD];exact aM) sD (by omega) (by simp only[List.length_nil,Nat.zero_add] at sC;omega) (growslice_fits (by simp only[List.length_nil,Nat.zero_add] at sC;omega) (by rw[pK,Nat.zero_add];rw[List.length_nil,Nat.zero_add] at hb;exact hb))
    have h3:=ul 0
    have h4:=mO 0
    have h5:=N6 0
    simp only[List.length_nil,Nat.zero_add,List.flatten_nil,List.map_nil,List.nil_append] at h3 h4 h5 hr⊢
    exact⟨_,_,grownCap_ge w k 0 e,h5,by simpa using h3,fun q u hq=>by simpa using h4 q u hq,hr⟩
 ·by_cases D6:px.length+k<=cap
  ·right;left
   refine⟨b,o,cap,cur,e',rfl,a2,a3,a4,D6,a6,a7,a8,a9,?_⟩
   rcases hy with⟨rfl,rfl⟩|⟨ay,rfl,sD⟩
   ·have hn:fB=[]:=List.eq_nil_of_length_eq_zero (by simpa using aM)
    subst hn
    have agx:d8 w b (o+px.length*sz) [] cur=w:=by
     unfold d8
     simp only[List.append_nil,List.length_nil,Nat.add_zero,List.take_append_drop,Array.toArray_toList]
     exact setRow_self w b cur e' (0,0) a2
    rw[agx]
    simp[Builtin.append_,run_underlying ht,sizeOf,typeInfo,hi,Builtin.lenOf,Builtin.firstCells,a5,storeCells]
   ·have hr:=ans (P:=P) (w:=w) (ty:=ty) ht hi b o px.length cap cur a2 ay k c fB (by rw[bD];exact aM) sD h1 D6 (by
     rw[bD,aM,a3,Nat.add_assoc,<-Nat.add_mul];exact Nat.add_le_add_left (Nat.mul_le_mul_right _ D6) _)
    rw[bD] at hr
    exact hr
  ·rcases hy with⟨_,rfl⟩|⟨ay,rfl,sD⟩
   ·omega
   right;right
   have hr:=run_append_grow (P:=P) w t ty e i z ht hi hz (ad b o) px.length cap (px.flatten.map PC.val) (by rw[bD];exact Yc) (fun q u hq=>by
    rw[List.getElem?_map] at hq
    cases hf:px.flatten[q]? with
    |none=>rw[hf] at hq;cases hq
    |some pc=>
     rw[hf] at hq
     simp at hq
     subst hq
     obtain⟨k',j',lZ,rfl⟩:=M4 iZ fY hf
     rw[nw,<-Nat.add_assoc]
     exact a6.2.1 k' j' pc lZ) ay k c fB (by rw[bD];exact aM) sD (by omega) (by omega) (growslice_fits (by omega) (by rw[pK];exact hb))
   exact⟨_,_,grownCap_ge w _ _ _,N6 _,ul _,mO _,hr⟩
def vI (w:World) (sz:Nat) (py:List (List PC)) (v:Value):Prop:=
 (∀e∈py,e.length=sz)/\(∀k j c,At py k j c->Good w c)/\
 ∃ya c,v=.slice ya py.length c/\((ya=none/\py.length=0)\/∃ay,ya=some ay/\∀(j:Nat) (u:Value),(py.flatten.map PC.val)[j]? =some u->w.cell? (ay.add j)=some u)
theorem vI.aay {sz:Nat} {ya:Option Addr} {c:Nat} {py:List (List PC)} (hg:Good w (.list sz ya c py)):vI w sz py (.slice ya py.length c):=by
 cases hg with
 |nil _ _ _ h=>
  refine⟨by simp,by rintro k j c ⟨e,he,_⟩;simp at he,ya,c,rfl,?_⟩
  cases ya with
  |none=>exact .inl ⟨rfl,rfl⟩
  |some ay=>exact .inr ⟨ay,rfl,by simp⟩
 |cons _ b o _ _ h1 h2 h3 h4 h5 h6=>
  refine⟨h4,h6,_,c,rfl,.inr ⟨_,rfl,fun j u hj=>?_⟩⟩
  rw[List.getElem?_map] at hj
  cases hf:py.flatten[j]? with
  |none=>rw[hf] at hj;cases hj
  |some pc=>
   rw[hf] at hj
   simp at hj
   subst hj
   obtain⟨k',j',lZ,rfl⟩:=M4 h3 h4 hf
   rw[nw,<-Nat.add_assoc]
   exact h5 k' j' pc lZ
theorem R.ac9 (r:R B E w0 N σ a w G) {σ2:St} (yD:σ2.env=σ.env) (ly:σ2.used=σ.used) (H:HR B E w G σ2.h σ.used []) (K:aW w G σ.h (fun n=>σ.used n=true) w G σ2.h)
  {n:Nat} {sz by_:Nat} {m m2:Mode} {px py:List (List PC)} {v yv:Value} (hn:σ.used n=false) (iZ:0<sz) (F:kV B E w G σ2.h sz m2 (px++py)) (fY:∀e∈px,e.length=sz) (L:xR B E w G σ2.h sz m px v) (Ry:vI w sz py yv)
  (OG:∀b,aS b py->∀b' o cap,0<cap->v=.slice (some (ad b' o)) px.length cap->oE G σ2.h b'->b≠b')
  {t e:TypeId} {i:TypeInfo} {z:Value} {ty:TypeId} (ht:P.underlying t=some (.slice e)) (hi:P.info? e=some i) (hz:i.zero=some z) (bD:i.size=sz) (pK:i.bytes=by_) (yB:0<by_) (ru:z.cells.size=sz)
  (hb:(px.length+py.length)*by_<=dK):
  ∃u w' G',(Builtin.append_ #[t,t] ty #[v,yv]).run P w=.ok u w'/\
   R B E w0 N {σ2 with h:=aw σ2.h n (some (.row true m2 sz ((px++py).map fun e=>e.map PC.er))),used:=aw σ2.used n true} a w' G'/\
   RA w' G' (aw σ2.h n (some (.row true m2 sz ((px++py).map fun e=>e.map PC.er)))) (.one (.sl n sz 0 (px.length+py.length))) u:=by
 obtain⟨r1,r2,ya,c,rfl,r3⟩:=Ry
 have aM:(py.flatten.map PC.val).length=py.length*sz:=M5 r1
 have h1:∀u∈py.flatten.map PC.val,u.oneCell'=true:=fun u hu=>by obtain⟨pc,_,rfl⟩:=List.mem_map.1 hu;exact PC.ki pc
 have hB:=r.fr.size
 have X8:(px++py).length=px.length+py.length:=by simp
 have Oe:σ2.h n=none:=by
  cases hh:σ2.h n with
  |none=>rfl
  |some b=>have:=H.iS n (by rw[hh];simp);rw[hn] at this;cases this
 have ne:∀q,σ.used q=true->q≠n:=fun q hq e=>by subst e;rw[hn] at hq;cases hq
 have ax:∀q,σ2.h q≠none->q≠n:=fun q hq e=>by subst e;exact hq Oe
 rcases anr (P:=P) w (ty:=ty) ht hi hz bD iZ pK yB fY L aM r3 h1 hb with⟨a0,k0,rfl,rfl,bq⟩|⟨b,ob,cap,cur,e',rfl,b2,b3,b4,b5,b6,b7,b8,b9,bq⟩|⟨cap,arr,c1,c2,c3,c4,bq⟩
 ·
  have hpy:py=[]:=List.eq_nil_of_length_eq_zero k0
  subst hpy
  refine⟨_,w,⟨G.Im,aw G.g n ⟨true,0,0,0,[],a0⟩⟩,bq,?_,?_⟩
  ·refine r.step (σ':=_) yD (fun q hq=>by show aw σ2.used n true q=true;rw[ly];exact qI n q hq) (aW.trans (u2:=fun n=>σ.used n=true) (fun _ h=>h) K (aW.insert H (blk:=.row true m2 sz []) (p:=⟨true,0,0,0,[],a0⟩) hn (fun _ _=>rfl))) ?_ r.fr
   show HR B E w _ (aw σ2.h n (some (.row true m2 sz []))) (aw σ2.used n true) []
   rw[ly]
   have cb:∀b,¬aS b ([]:List (List PC)):=by rintro b ⟨k,j,c,⟨e,he,_⟩,_⟩;simp at he
   refine H.insert (p:=⟨true,0,0,0,[],a0⟩) hn (fun _ _=>rfl) (Nat.le_refl _) (fun h=>by cases h) (fun cs c m hb=>by cases hb) ⟨iZ,rfl,fun _=>⟨rfl,fun _=>rfl⟩,(fun h=>by cases h),(fun h=>by cases h),?_⟩
    (fun gr m sz xs _ _ n' bk m' aK av _ _ b hb=>absurd hb (cb b)) (fun gr sz xs _ b hb=>absurd hb (cb b)) (fun gr m sz xs _ _ i pc b hi=>by simp at hi)
   have hm:=F.mode
   simp only[List.append_nil] at hm
   exact hm
  ·refine RA.gb rfl fun _=>.inl ?_
   simp[bA]
 ·
  have IK:(ob+px.length*sz)+(py.flatten.map PC.val).length<=cur.size:=by rw[aM,b3,Nat.add_assoc,<-Nat.add_mul];exact Nat.add_le_add_left (Nat.mul_le_mul_right _ b5) _
  let w2:=d8 w b (ob+px.length*sz) (py.flatten.map PC.val) cur
  have eF:∀x,x≠b->w2.heap[x]? =w.heap[x]? :=fun x hx=>zC x hx
  have Iu:∀x,G.Im x->x≠b:=fun x hx he=>b7.1 (he▸hx)
  have uH:∀x,dr w x->dr w2 x:=fun x hx=>Lq b2 IK x hx
  have Ya:∀x,aS x (px++py)->x≠b:=fun x hx=>(vc hx).elim (b9 x) (fun h=>OG x h b ob cap (by obtain⟨k,j,c,⟨e,he,_⟩,_⟩:=h;have:=(List.getElem?_eq_some_iff.1 he).1;omega) rfl b7)
  let p:PB:=⟨false,b,ob,cap,px++py,none⟩
  have K2:aW w G σ2.h (fun n=>σ.used n=true) w2 ⟨G.Im,aw G.g n p⟩ (aw σ2.h n (some (.row true m2 sz ((px++py).map fun e=>e.map PC.er)))):=by
   refine⟨fun _ h=>h,fun x hx o=>io (eF x (Iu x hx)) o,fun q hq h0=>?_,fun q gr aK av hq h0=>?_⟩
   ·rw[bZ _ _ _ _ (ne q hq)] at h0
    simp only[bZ _ _ _ _ (ne q hq)]
    exact⟨h0,trivial,trivial,trivial,trivial,trivial⟩
   ·rw[bZ _ _ _ _ (ne q hq)] at h0
    simp only[bZ _ _ _ _ (ne q hq)]
    exact⟨⟨gr,av,h0⟩,fun k j pc h1 h2=>⟨pc,h1,rfl,h2⟩⟩
  have afT:b<w.heap.size:=(Array.getElem?_eq_some_iff.1 b2).1
  have Hn:HR B E w2 ⟨G.Im,aw G.g n p⟩ (aw σ2.h n (some (.row true m2 sz ((px++py).map fun e=>e.map PC.er)))) (aw σ.used n true) []:=by
   refine H.put (p:=p) (fun x _ hx=>eF x (hx rfl)) (by show w.heap.size<=w2.heap.size;rw[qK];exact Nat.le_refl _) (fun x _ hx=>uH x hx) (fun q hq=>qI n q hq) (bA _ _ _)
    (fun _=>⟨b7.1,b8,by show b<w2.heap.size;rw[qK];exact afT⟩) (fun _ q hq h0 hl=>b7.2.1 q h0 hl) (fun _ q gr aK av hq h0 x hx he=>b7.2.2 q gr .live aK av h0 (by have IC:x=b:=he;rw[<-IC];exact hx))
    (fun cs c q hb=>by cases hb) K2 ?_ ?_ ?_ (fun gr m sz xs _ _ i pc b hi=>by simp at hi) (fun _ _ x hx he=>by obtain⟨q,gr,mo,aK,av,_,h0,hxF⟩:=hx;exact b7.2.2 q gr mo aK av h0 (by have IC:x=b:=he;rw[<-IC];exact hxF))
   ·refine⟨iZ,rfl,(fun h=>by cases h),fun _=>⟨uH b ⟨cur,e',b2⟩,⟨F.len,fun k j c hk=>?_,fun k j c hk=>?_⟩,by show(px++py).length<=cap;rw[X8];exact b5⟩,fun _ _=>?_,?_⟩
    ·show w2.cell? (ad b (ob+k*sz+j))=some c.val
     rw[CI b2 IK]
     have hf:=tZ F.len hk
     rw[List.flatten_append] at hf
     have jn:px.flatten.length=px.length*sz:=by have:=M5 fY;rwa[List.length_map] at this
     rcases vO hk with⟨AF,cX⟩|⟨AF,cX⟩
     ·rw[if_neg ?_]
      ·exact b6.2.1 k j c cX
      ·rintro⟨q1,_⟩
       have hj:j<sz:=by obtain⟨e1,he,hj⟩:=cX;rw[<-fY e1 (List.mem_of_getElem? he)];exact(List.getElem?_eq_some_iff.1 hj).1
       have:(k+1)*sz<=px.length*sz:=Nat.mul_le_mul_right _ AF
       rw[Nat.add_mul] at this
       omega
     ·have DO:px.length*sz<=k*sz+j:=Nat.le_trans (Nat.mul_le_mul_right _ AF) (Nat.le_add_right _ _)
      have bH:=(List.getElem?_eq_some_iff.1 hf).1
      rw[List.length_append,jn] at bH
      rw[List.getElem?_append_right (by rw[jn];exact DO),jn] at hf
      rw[if_pos ⟨by omega,by simp only[List.length_map];omega⟩]
      rw[List.getElem?_map,show ob+k*sz+j - (ob+px.length*sz)=k*sz+j - px.length*sz by omega,hf]
      rfl
    ·exact(F.eD k j c hk).congr fun x hx o=>io (eF x (Ya x ⟨k,j,c,hk,hx⟩)) o
    ·obtain⟨jm,q1,q2⟩:=Lp (vs:=py.flatten.map PC.val) (o:=ob+px.length*sz) b2 IK
     exact⟨b4,jm,e',q1,by rw[q2,b3]⟩
    ·have hm:=F.mode
     cases m2 with
     |aA=>exact hm
     |ab=>exact⟨fun x hx=>⟨(hm.1 x hx).1,uH x (hm.1 x hx).2.1,(hm.1 x hx).2.2⟩,hm.2⟩
     |live=>exact⟨fun x hx=>⟨(hm.1 x hx).1,uH x (hm.1 x hx).2.1,(hm.1 x hx).2.2⟩,hm.2⟩
   ·intro gr m' aK av hb gP q bk mo kc g0 fi h0 iW x hx
    injection hb with _ hb _ _
    subst hb
    exact F.fv gP q bk mo kc g0 h0 iW x hx
   ·intro gr aK av hb x hx
    injection hb with _ hb _ _
    exact⟨fun _=>Ya x hx,fun q _ h0 hl=>F.live hb x hx q h0 hl⟩
  refine⟨_,w2,⟨G.Im,aw G.g n p⟩,bq,?_,?_⟩
  ·exact r.step (σ':=_) yD (fun q hq=>by show aw σ2.used n true q=true;rw[ly];exact qI n q hq) (aW.trans (u2:=fun n=>σ.used n=true) (fun _ h=>h) K K2)
    (by show HR B E w2 _ _ (aw σ2.used n true) [];rw[ly];exact Hn) (r.fr.one b8 (fun x hx OZ=>eF x OZ) (by show w.heap.size<=w2.heap.size;rw[qK];exact Nat.le_refl _) (CJ b2 IK) rfl rfl rfl)
  ·refine RA.gb rfl fun _=>.inr ⟨by simp[bA,p],some (ad b ob),?_,?_,?_⟩
   ·simp[bA,p]
   ·simp[bA,p];exact b5
   ·simp[bA,p]
 ·
  let w1:=w.drew
  have hd:∀x:Nat,x<w.heap.size->(w.drew.alloc (.cells arr e)).heap[x]? =w.heap[x]? :=fun x hx=>heap_alloc_old w.drew _ x hx
  have H1:HR B E w.drew G σ2.h σ.used []:=H.grow (w':=w.drew) (fun _ _=>rfl) (Nat.le_refl _)
  have r1:R B E w0 N σ a w.drew G:=r.step (w':=w.drew) rfl (fun _ h=>h) (aW.world (w:=w) (w':=w.drew) (fun _ _=>rfl) _) (r.hr.grow (w':=w.drew) (fun _ _=>rfl) (Nat.le_refl _)) (r.fr.grow (w':=w.drew) (fun _ _=>rfl) (Nat.le_refl _) rfl rfl rfl)
  have K1:aW w.drew G σ.h (fun n=>σ.used n=true) w.drew G σ2.h:=⟨K.im,fun _ _ _=>rfl,K.name,K.live⟩
  have gC:∀k j c,At (px++py) k j c->Good w.drew c:=fun k j c hk=>(F.eD k j c hk).congr fun _ _ _=>rfl
  have ul:∀k j c,At (px++py) k j c->arr[k*sz+j]? =some c.val:=fun k j c hk=>by
   have hf:=tZ F.len hk
   refine c4 _ _ ?_
   rw[<-List.map_append,<-List.flatten_append,List.getElem?_map,hf]
   rfl
  have uE:arr.size=cap*sz:=by rw[c3,ru];omega
  have hB2:=r1.fr.size
  let p:PB:=⟨false,w.heap.size,0,cap,px++py,none⟩
  have hw:∀x:Nat,x<w.drew.heap.size->(w.drew.alloc (.cells arr e)).heap[x]? =w.drew.heap[x]? :=hd
  have Hn:HR B E (w.drew.alloc (.cells arr e)) ⟨G.Im,aw G.g n p⟩ (aw σ2.h n (some (.row true m2 sz ((px++py).map fun e=>e.map PC.er)))) (aw σ.used n true) []:=by
   refine H1.insert (p:=p) hn hw (by simp) (fun _=>⟨H1.Qt,.inl hB,by simp[p]⟩) (fun cs c m hb=>by cases hb) ?_ ?_ ?_ (fun gr m sz xs _ _ i pc b hi=>by simp at hi)
   ·refine⟨iZ,rfl,(fun h=>by cases h),fun _=>⟨dr.alloc _ _ _,⟨F.len,fun k j c hk=>?_,fun k j c hk=>?_⟩,by show(px++py).length<=cap;rw[X8];exact c1⟩,fun _ _=>⟨c2,arr,e,heap_alloc_new w.drew _,(Nat.zero_add _).symm▸uE⟩,?_⟩
    ·show(w.drew.alloc (.cells arr e)).cell? (ad w.drew.heap.size (0+k*sz+j))=some c.val
     simp only[Nat.zero_add]
     unfold ad
     rw[World.cell?_alloc_new]
     exact ul k j c hk
    ·exact(gC k j c hk).congr fun x hx o=>io (hw x ((gC k j c hk).lt hx)) o
    ·have hm:=F.mode
     have hu:∀x,dr w x->dr (w.drew.alloc (.cells arr e)) x:=fun x hx=>hx.congr (hd x hx.lt)
     cases m2 with
     |aA=>exact hm
     |ab=>exact⟨fun x hx=>⟨(hm.1 x hx).1,hu x (hm.1 x hx).2.1,(hm.1 x hx).2.2⟩,hm.2⟩
     |live=>exact⟨fun x hx=>⟨(hm.1 x hx).1,hu x (hm.1 x hx).2.1,(hm.1 x hx).2.2⟩,hm.2⟩
   ·intro gr m' aK av hb gP q bk mo kc g0 h0 iW x hx
    injection hb with _ hb _ _
    subst hb
    exact F.fv gP q bk mo kc g0 h0 iW x hx
   ·intro gr aK av hb x hx
    injection hb with _ hb _ _
    refine⟨fun _=>?_,fun q h0 hl=>F.live hb x hx q h0 hl⟩
    obtain⟨k,j,c,hk,hxc⟩:=hx
    have:=(F.eD k j c hk).lt hxc
    show x≠w.heap.size
    omega
  refine⟨_,_,⟨G.Im,aw G.g n p⟩,bq,?_,?_⟩
  ·exact r1.step (σ':=_) yD (fun q hq=>by show aw σ2.used n true q=true;rw[ly];exact qI n q hq) (aW.trans (u2:=fun n=>σ.used n=true) (fun _ h=>h) K1 (aW.insert H1 hn hw))
    (by show HR B E _ _ _ (aw σ2.used n true) [];rw[ly];exact Hn) (r1.fr.grow hw (by simp) rfl rfl rfl)
  ·refine RA.gb rfl fun _=>.inr ⟨by simp[bA,p],some (ad w.heap.size 0),?_,?_,?_⟩
   ·simp[bA,p]
   ·simp[bA,p];exact c1
   ·simp[bA,p]
theorem ajU (r:R B E w0 N σ a w G) {sz:Nat} {x:aj} {v:Value} {xs:List (List C)} {m:Mode} {σ1:St} (hv:RA w G σ.h x v) (hx:pt σ sz x=some (xs,m,σ1)):
  ∃px:List (List PC),xs=px.map (fun e=>e.map PC.er)/\kV B E w G σ1.h sz m px/\xR B E w G σ1.h sz m px v/\HR B E w G σ1.h σ.used []/\aW w G σ.h (fun n=>σ.used n=true) w G σ1.h/\σ1.env=σ.env/\σ1.used=σ.used/\
   (∀n b,σ1.h n=some b->σ.h n=some b):=by
 unfold pt at hx
 split at hx
 ·rename_i s
  injection hx with hx
  injection hx with h1 h2
  injection h2 with h2 h3
  subst h1 h2 h3
  have fH:v=.slice none 0 0:=(hv.fq (by simp)).1
  have cb:∀b,¬aS b ([]:List (List PC)):=by rintro b ⟨k,j,c,⟨e,he,_⟩,_⟩;simp at he
  exact⟨[],rfl,⟨by simp,by rintro k j c ⟨e,he,_⟩;simp at he,⟨fun b hb=>absurd hb (cb b),(by rintro k j c ⟨e,he,_⟩;simp at he),(by rintro k j c k' j' c' b ⟨e,he,_⟩;simp at he)⟩,fun _ _ _ _ _ _ _ _ b hb=>absurd hb (cb b),fun _ b hb=>absurd hb (cb b)⟩,
   .inl ⟨none,fH,rfl⟩,r.hr,aW.refl _ _ _ _,rfl,rfl,fun _ _ h=>h⟩
 ·rename_i n s len
  split at hx
  ·rename_i m0 rs km hn
   split at hx
   ·rename_i hc
    obtain⟨rfl,rfl,rfl⟩:=hc
    injection hx with hx
    injection hx with h1 h2
    injection h2 with h2 h3
    subst h1 h2 h3
    have H:=r.hr
    have bJ:σ.h n≠none:=by rw[hn];simp
    have hr:=H.row n true m0 s km hn
    have gE:jF (G.g n) s 0 km.length v:=(hv.fq (by simp)).1 bJ
    have pV:km.length=(G.g n).px.length:=by rw[hr.er];simp
    refine⟨(G.g n).px,hr.er,kV.Rx H hn,?_,H.del n,aW.del n _,rfl,rfl,fun q b hq=>(pz hq).1⟩
    rcases gE with⟨aM,fH,_,_⟩|⟨aM,a',fH,jZ,ha⟩
    ·have g2:=(hr.nl aM).2 rfl
     exact .inl ⟨(G.g n).na,by rw[fH,g2],(hr.nl aM).1⟩
    ·right
     obtain⟨r2,cur,e,r3,r4⟩:=hr.room aM rfl
     obtain⟨l1,l2,l3⟩:=hr.dD aM
     obtain⟨o1,o2,o3⟩:=H.own n bJ aM
     have sx:=ha (.inr rfl)
     refine⟨(G.g n).b,(G.g n).o,(G.g n).cap,cur,e,?_,r3,r4,r2,l3,l2,⟨o1,fun q hq hl=>?_,fun q gr m' aK av hq hb=>?_⟩,o2,fun b hb=>H.sr bJ aM hn hb⟩
     ·rw[fH,sx,pV];simp
     ·obtain⟨q1,q2⟩:=Aj hq
      exact H.inj q n q1 bJ q2 hl aM
     ·exact H.sr bJ aM (pz hq).1 hb rfl
   ·cases hx
  ·cases hx
 ·cases hx
theorem anc {fl:Bool} {sz:Nat} {x:aj} {v:Value} {ys:List (List C)} {m m2:Mode} {σ1 σ2:St} {px:List (List PC)} (iZ:0<sz) (H:HR B E w G σ1.h σ1.used []) (F:kV B E w G σ1.h sz m px) (hv:RA w G σ1.h x v)
  (hx:la fl σ1 sz m x=some (ys,m2,σ2)):
  ∃py:List (List PC),ys=py.map (fun e=>e.map PC.er)/\vI w sz py v/\kV B E w G σ2.h sz m2 (px++py)/\HR B E w G σ2.h σ1.used []/\aW w G σ1.h (fun n=>σ1.used n=true) w G σ2.h/\σ2.env=σ1.env/\σ2.used=σ1.used/\
   (∀n b,σ2.h n=some b->σ1.h n=some b)/\(∀b,aS b py->∀b',¬G.Im b'->(∀q gr mo aK av,σ1.h q=some (.row gr mo aK av)->¬aS b' (G.g q).px)->b≠b'):=by
 unfold la at hx
 have agk:∀b,¬aS b ([]:List (List PC)):=by rintro b ⟨k,j,c,⟨e,he,_⟩,_⟩;simp at he
 split at hx
 ·rename_i s
  injection hx with hx
  injection hx with h1 h2
  injection h2 with h2 h3
  subst h1 h2 h3
  have fH:v=.slice none 0 0:=(hv.fq (by simp)).1
  subst fH
  exact⟨[],rfl,⟨by simp,by rintro k j c ⟨e,he,_⟩;simp at he,none,0,rfl,.inl ⟨rfl,rfl⟩⟩,by simpa using F,H,aW.refl _ _ _ _,rfl,rfl,fun _ _ h=>h,fun b hb=>absurd hb (agk b)⟩
 ·rename_i s vt
  split at hx
  ·rename_i hs
   subst hs
   obtain⟨pc,e1,e2,e3,e4⟩:=hv.c
   have aZ:∃ya c py,pc=.list s ya c py/\py.map (fun e=>e.map PC.er)=vt:=by
    cases pc with
    |int k n=>simp[PC.er] at e1
    |bool b=>simp[PC.er] at e1
    |list s' ya c py=>rw[PC.dz] at e1;injection e1 with e1 e5;subst e1;exact⟨ya,c,py,rfl,e5⟩
   obtain⟨ya,c,py,rfl,e5⟩:=aZ
   have hR:vI w s py v:=by rw[<-e2];exact vI.aay e3
   have lY:∀b,aS b py->G.Im b:=fun b ⟨k,j,c,hk,hb⟩=>e4 b (.there _ _ _ _ k j c hk hb)
   have oL:∀b,aS b py->∀b',¬G.Im b'->(∀q gr mo aK av,σ1.h q=some (.row gr mo aK av)->¬aS b' (G.g q).px)->b≠b':=fun b hb b' aT _ he=>aT (he▸lY b hb)
   split at hx
   ·rename_i sF
    injection hx with hx
    injection hx with h1 h2
    injection h2 with h2 h3
    subst h1 h2 h3
    replace sF:=(Bool.and_eq_true _ _▸sF).2
    rw[<-e5] at sF
    exact⟨py,e5.symm,hR,F.VH hR.1 hR.2.1 (Ci sF),H,aW.refl _ _ _ _,rfl,rfl,fun _ _ h=>h,oL⟩
   ·split at hx
    ·cases hx
    ·rename_i sA
     injection hx with hx
     injection hx with h1 h2
     injection h2 with h2 h3
     subst h1 h2 h3
     refine⟨py,e5.symm,hR,⟨fun e he=>(List.mem_append.1 he).elim (F.len e) (hR.1 e),fun k j c hk=>?_,fun b hb=>(vc hb).elim (F.UY sA b) (lY b),fun h=>absurd rfl h,fun h=>by cases h⟩,H,aW.refl _ _ _ _,rfl,rfl,fun _ _ h=>h,oL⟩
     rcases vO hk with⟨_,h⟩|⟨_,h⟩
     ·exact F.eD _ _ _ h
     ·exact hR.2.1 _ _ _ h
  ·cases hx
 ·rename_i n s lo len
  split at hx
  ·rename_i gr m' rs vt hn
   split at hx
   ·rename_i hc
    obtain⟨rfl,rfl,hl⟩:=hc
    have bJ:σ1.h n≠none:=by rw[hn];simp
    have hr:=H.row n gr m' s vt hn
    have gE:jF (G.g n) s lo len v:=(hv.fq (by simp)).1 bJ
    obtain⟨q1,q2,q3,q4⟩:=Fj hr gE hl
    have Og:∃ya c,kb (G.g n) s lo len v=.list s ya c (((G.g n).px.drop lo).take len):=by
     rcases gE with⟨_,rfl,_,_⟩|⟨_,a',rfl,_,_⟩<;>exact⟨_,_,rfl⟩
    obtain⟨ya,c,Og⟩:=Og
    rw[Og] at q1 q2 q3 q4
    have hR:vI w s (((G.g n).px.drop lo).take len) v:=by rw[<-q2];exact vI.aay q3
    have rr:(vt.drop lo).take len=(((G.g n).px.drop lo).take len).map (fun e=>e.map PC.er):=by rw[PC.dz] at q1;injection q1 with _ q1;exact q1.symm
    have oL:∀b,aS b (((G.g n).px.drop lo).take len)->∀b',¬G.Im b'->(∀q gr mo aK av,σ1.h q=some (.row gr mo aK av)->¬aS b' (G.g q).px)->b≠b':=by
     rintro b ⟨k,j,c,hk,hb⟩ b' _ aT rfl
     exact aT n gr m' s vt hn ⟨_,_,_,(oG hk).1,hb⟩
    split at hx
    ·rename_i sF
     injection hx with hx
     injection hx with h1 h2
     injection h2 with h2 h3
     subst h1 h2 h3
     have Yk:=(Bool.and_eq_true _ _▸sF).2
     rw[rr] at Yk
     exact⟨_,rr,hR,F.VH hR.1 hR.2.1 (Ci Yk),H,aW.refl _ _ _ _,rfl,rfl,fun _ _ h=>h,oL⟩
    ·split at hx
     ·rename_i af3
      obtain⟨rfl,rfl⟩:=af3
      have fx:((G.g n).px.drop 0).take vt.length=(G.g n).px:=by
       have:vt.length=(G.g n).px.length:=by rw[hr.er];simp
       rw[this];simp
      rw[fx] at hR oL
      have F2:=kV.Rx H hn
      have F1:=F.del n
      have gC:∀k j c,At (px++(G.g n).px) k j c->Good w c:=fun k j c hk=>by
       rcases vO hk with⟨_,h⟩|⟨_,h⟩
       ·exact F.eD _ _ _ h
       ·exact F2.eD _ _ _ h
      have hlen:∀e∈px++(G.g n).px,e.length=s:=fun e he=>(List.mem_append.1 he).elim (F.len e) (F2.len e)
      split at hx
      ·rename_i cJ
       subst cJ
       injection hx with hx
       injection hx with h1 h2
       injection h2 with h2 h3
       subst h1 h2 h3
       refine⟨(G.g n).px,hr.er,hR,⟨hlen,gC,?_,fun hm q bk mo aK av hq iW b hb=>?_,fun hm b hb q hq hl=>?_⟩,H.del n,aW.del n _,rfl,rfl,fun q b hq=>(pz hq).1,oL⟩
       ·have m1:=F.mode
        have m3:=F2.mode
        cases m with
        |aA=>exact fun b hb=>(vc hb).elim (m1 b) (m3 b)
        |ab=>exact⟨fun b hb=>(vc hb).elim (m1.1 b) (m3.1 b),KC m1.2 m3.2 (fun b hb=>F.fv (by simp) n gr .ab s vt hn (by simp) b hb)⟩
        |live=>exact⟨fun b hb=>(vc hb).elim (m1.1 b) (m3.1 b),KC m1.2 m3.2 (fun b hb=>F.fv (by simp) n gr .live s vt hn (by simp) b hb)⟩
       ·exact(vc hb).elim (F1.fv hm q bk mo aK av hq iW b) (F2.fv hm q bk mo aK av hq iW b)
       ·exact(vc hb).elim (fun h=>F1.live hm b h q hq hl) (fun h=>F2.live hm b h q hq hl)
      ·split at hx
       ·cases hx
       ·rename_i aM
        injection hx with hx
        injection hx with h1 h2
        injection h2 with h2 h3
        subst h1 h2 h3
        refine⟨(G.g n).px,hr.er,hR,⟨hlen,gC,fun b hb=>(vc hb).elim (F.UY (fun h=>aM (.inl h)) b) (F2.UY (fun h=>aM (.inr h)) b),fun h=>absurd rfl h,fun h=>by cases h⟩,H.del n,aW.del n _,rfl,rfl,fun q b hq=>(pz hq).1,oL⟩
     ·cases hx
   ·cases hx
  ·cases hx
 ·cases hx
theorem ad1 (r:R B E w0 N σ a w G) {n:Nat} {t e:TypeId} {i:TypeInfo} {z:Value} {x y:Operand} {mx my:MO} {fl:Bool} {sz by_:Nat} {xs ys:List (List C)} {m m2:Mode} {σ1 σ2 gz:St}
  (ho:o.op=.call {callee:=.builtin .append,args:=#[x,y],argTypes:=#[t,t]}) (hd:o.dst=some n) (hN:n<N) (iV:bw x mx=true) (iv:bw y my=true)
  (ht:P.underlying t=some (.slice e)) (hi:P.info? e=some i) (hz:i.zero=some z) (bD:i.size=sz) (iZ:0<sz) (pK:i.bytes=by_) (yB:0<by_) (ru:z.cells.size=sz)
  (hl:pt σ sz (σ.ev mx)=some (xs,m,σ1)) (hr:la fl σ1 sz m (σ.ev my)=some (ys,m2,σ2)) (hb:(xs.length+ys.length)*by_<=dK)
  (hx:σ2.ins n (.row true m2 sz (xs++ys))=some gz):
  o.wp P a w (Nx B E w0 N (gz.put o.dst (.one (.sl n sz 0 (xs.length+ys.length))))) Q:=by
 obtain⟨hn,rfl⟩:=mg hx
 obtain⟨x1,x2⟩:=r.ev iV
 obtain⟨y1,y2⟩:=r.ev iv
 obtain⟨px,e1,F1,L1,H1,K1,q1,q2,q3⟩:=ajU r x1 hl
 have y1':RA w G σ1.h (σ.ev my) (a.eval y):=y1.eM K1 y2
 rw[<-q2] at H1
 obtain⟨py,e2,R2,F2,H2,K2,p1,p2,p3,oL⟩:=anc iZ H1 F1 y1' hr
 rw[q2] at H2
 have pV:xs.length=px.length:=by rw[e1];simp
 have AZ:ys.length=py.length:=by rw[e2];simp
 have L2:xR B E w G σ2.h sz m px (a.eval x):=by
  rcases L1 with h|⟨b,o,cap,cur,e',b1,b2,b3,b4,b5,b6,⟨l1,l2,l3⟩,b8,b9⟩
  ·exact .inl h
  ·refine .inr ⟨b,o,cap,cur,e',b1,b2,b3,b4,b5,b6,⟨l1,fun q hq=>?_,fun q gr mo aK av hq=>l3 q gr mo aK av (p3 q _ hq)⟩,b8,b9⟩
   cases hh:σ2.h q with
   |none=>exact absurd hh hq
   |some bb=>exact l2 q (by rw[p3 q bb hh];simp)
 obtain⟨u,w',G',bq,r',hv⟩:=r.ac9 (P:=P) (σ2:=σ2) (n:=n) (m:=m) (m2:=m2) (px:=px) (py:=py) (ty:=o.type) (p1.trans q1) (p2.trans q2) H2 (aW.trans (u2:=fun n=>σ1.used n=true) (fun q hq=>by rw[q2];exact hq) K1 K2)
  (by rw[<-q2,<-p2];exact hn) iZ F2 F1.len L2 R2 (fun b cg b' o' cap dY uI X9=>by
   rcases L1 with⟨_,h,_⟩|⟨b0,o0,vR,cur,e',b1,b2,b3,b4,b5,b6,⟨l1,l2,l3⟩,b8,b9⟩
   ·rw[h] at uI;injection uI with _ _ uI;omega
   ·rw[b1] at uI
    injection uI with uI
    injection uI with uI
    have AA:=(nz uI).1
    subst AA
    exact oL b cg b0 l1 l3) ht hi hz bD pK yB ru (by rw[<-pV,<-AZ];exact hb)
 have OC:(px++py).map (fun e=>e.map PC.er)=xs++ys:=by rw[List.map_append,<-e1,<-e2]
 rw[OC] at r' hv
 rw[<-pV,<-AZ] at hv
 refine nq (v:=u) (w':=w') ?_ ⟨G',r'.put hv (fun q hq=>by have dQ:q=n:=hq;subst dQ;exact bA _ _ _) (fun q hq=>by rw[hd] at hq;injection hq with hq;omega)⟩
 simp[execOp,ho,resolve,invoke,builtin,bq]
end
end Go.Am
