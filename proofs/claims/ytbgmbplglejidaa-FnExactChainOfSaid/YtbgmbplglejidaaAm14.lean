/- Am14: append. No condition. -/
import Derived.Test.YtbgmbplglejidaaAm13
set_option linter.unusedVariables false
namespace Go.Am
theorem vG {α:Type} {px py:List (List α)} {k j:Nat} {c:α} (h:At (px++py) k j c):(k<px.length/\At px k j c)\/(px.length<=k/\At py (k - px.length) j c):=by
 obtain⟨e,he,hj⟩:=h
 rcases Nat.lt_or_ge k px.length with hk|hk
 ·rw[List.getElem?_append_left hk] at he;exact .inl ⟨hk,e,he,hj⟩
 ·rw[List.getElem?_append_right hk] at he;exact .inr ⟨hk,e,he,hj⟩
theorem u6 {b:Nat} {px py:List (List PC)} (h:aX b (px++py)):aX b px\/aX b py:=by
 obtain⟨k,j,c,hk,hb⟩:=h
 rcases vG hk with⟨_,h1⟩|⟨_,h1⟩
 ·exact .inl ⟨_,_,_,h1,hb⟩
 ·exact .inr ⟨_,_,_,h1,hb⟩
theorem J2 {px py:List (List PC)} (h1:ig px) (h2:ig py) (h3:∀b,aX b px->¬aX b py):ig (px++py):=by
 refine⟨fun k j c hk=>?_,fun k j c k' j' c' b hk cY aE hb aW=>?_⟩
 ·rcases vG hk with⟨_,h⟩|⟨_,h⟩
  ·exact h1.1 _ _ _ h
  ·exact h2.1 _ _ _ h
 ·rcases vG hk with⟨q,h⟩|⟨q,h⟩<;>rcases vG cY with⟨q',h'⟩|⟨q',h'⟩
  ·exact h1.2 _ _ _ _ _ _ b h h' aE hb aW
  ·exact h3 b ⟨_,_,_,h,hb⟩ ⟨_,_,_,h',aW⟩
  ·exact h3 b ⟨_,_,_,h',aW⟩ ⟨_,_,_,h,hb⟩
  ·refine h2.2 _ _ _ _ _ _ b h h' (fun e=>aE ?_) hb aW
   injection e with e1 e2
   rw[show k=k' by omega,e2]
section
variable {B:Nat} {E:Ex} {w0 w w':World} {G G':Gh} {h h':Nat->Option aq} {used used':Nat->Bool} {tk:List PC} {N:Nat}
variable {P:Program} {o:Oper} {a:Act} {σ σ':St} {Q:Exit->Act->World->Prop}
theorem B8 {py:List (List PC)} (hs:fQ (py.map fun e=>e.map PC.er)=true) (b:Nat):¬aX b py:=by
 rintro⟨k,j,c,⟨e,he,hj⟩,hb⟩
 have h1:e.map PC.er∈py.map fun e=>e.map PC.er:=List.mem_map_of_mem (f:=fun e=>e.map PC.er) (List.mem_of_getElem? he)
 have h2:=List.all_eq_true.1 hs _ h1
 have h3:=List.all_eq_true.1 h2 c.er (List.mem_map_of_mem (List.mem_of_getElem? hj))
 exact(Sep.kP (pc:=c) h3).2 b hb
structure lf (B:Nat) (E:Ex) (w:World) (G:Gh) (h:Nat->Option aq) (sz:Nat) (m:Mode) (px:List (List PC)):Prop where
 len:∀e∈px,e.length=sz
 dH:∀k j c,At px k j c->Good w c
 mode:CL B E w G px m
 fA:m≠ .aO->∀n gr m' aL ar,h n=some (.row gr m' aL ar)->m'≠ .aO->∀b,aX b px->¬aX b (G.g n).px
 live:m=.live->∀b,aX b px->∀n,h n≠none->(G.g n).nl=false->b≠(G.g n).b
theorem lf.W7 {m:Mode} {sz:Nat} {px py:List (List PC)} (F:lf B E w G h sz m px) (hl:∀e∈py,e.length=sz) (hg:∀k j c,At py k j c->Good w c) (bS:∀b,¬aX b py):lf B E w G h sz m (px++py):=by
 have e8:∀b,aX b (px++py)->aX b px:=fun b hb=>(u6 hb).resolve_right (bS b)
 refine⟨fun e he=>(List.mem_append.1 he).elim (F.len e) (hl e),fun k j c hk=>?_,?_,fun hm n gr m' aL ar hn bI b hb=>F.fA hm n gr m' aL ar hn bI b (e8 b hb),fun hm b hb=>F.live hm b (e8 b hb)⟩
 ·rcases vG hk with⟨_,h⟩|⟨_,h⟩
  ·exact F.dH _ _ _ h
  ·exact hg _ _ _ h
 ·have kf:ig py:=⟨fun k j c hk=>Sep.EI (fun b hb=>bS b ⟨k,j,c,hk,hb⟩) (hg k j c hk),fun k j c k' j' c' b hk _ _ hb=>absurd ⟨k,j,c,hk,hb⟩ (bS b)⟩
  have hm:=F.mode
  cases m with
  |aO=>exact fun b hb=>hm b (e8 b hb)
  |ab=>exact⟨fun b hb=>hm.1 b (e8 b hb),J2 hm.2 kf (fun b _=>bS b)⟩
  |live=>exact⟨fun b hb=>hm.1 b (e8 b hb),J2 hm.2 kf (fun b _=>bS b)⟩
theorem lf.R8 (H:HR B E w G h used []) {n:Nat} {gr:Bool} {m:Mode} {sz:Nat} {xs:List (List C)} (hn:h n=some (.row gr m sz xs)):lf B E w G (ax h n none) sz m (G.g n).px:=by
 have hr:=H.row n gr m sz xs hn
 have aR:(G.g n).px≠[]->(G.g n).nl=false:=fun aE=>by
  cases hq:(G.g n).nl with
  |false=>rfl
  |true=>exact absurd (hr.nl hq).1 aE
 refine⟨fun e he=>(hr.dT (aR (List.ne_nil_of_mem he))).2.1.1 e he,fun k j c hk=>?_,hr.mode,fun hm q bj m' aL ar hq bI b hb=>?_,fun hm b hb q hq hl=>?_⟩
 ·have aE:(G.g n).px≠[]:=by obtain⟨e,he,_⟩:=hk;exact List.ne_nil_of_mem (List.mem_of_getElem? he)
  exact(hr.dT (aR aE)).2.1.2.2 k j c hk
 ·obtain⟨q1,q2⟩:=pO hq
  exact H.fA n q gr m sz xs bj m' aL ar hn q1 hm bI (Ne.symm q2) b hb
 ·subst hm
  obtain⟨q1,q2⟩:=AA hq
  exact H.live n gr sz xs hn b hb q q1 hl
theorem lf.del {m:Mode} {sz:Nat} {px:List (List PC)} (F:lf B E w G h sz m px) (n:Nat):lf B E w G (ax h n none) sz m px:=
 ⟨F.len,F.dH,F.mode,fun hm q gr m' aL ar hq bI=>F.fA hm q gr m' aL ar (pO hq).1 bI,fun hm b hb q hq=>F.live hm b hb q (AA hq).1⟩
theorem lf.Ws {m:Mode} {sz:Nat} {px:List (List PC)} (F:lf B E w G h sz m px) (hm:m≠ .live):∀b,aX b px->G.Im b:=by
 intro b hb
 have:=F.mode
 cases m with
 |aO=>exact this b hb
 |ab=>exact(this.1 b hb).1
 |live=>exact absurd rfl hm
def xO (B:Nat) (E:Ex) (w:World) (G:Gh) (h:Nat->Option aq) (sz:Nat) (m:Mode) (px:List (List PC)) (v:Value):Prop:=
 (∃a,v=.slice a 0 0/\px=[])\/
 ∃b o cap cur e,v=.slice (some (ad b o)) px.length cap/\w.heap[b]? =some (.cells cur e (0,0))/\cur.size=o+cap*sz/\cap<=maxLen/\px.length<=cap/\oD w b o sz px/\
  oC G h b/\(B<=b\/E b)/\(∀b',aX b' px->b'≠b)
theorem xO.del {m:Mode} {sz:Nat} {px:List (List PC)} {v:Value} (L:xO B E w G h sz m px v) (n:Nat):xO B E w G (ax h n none) sz m px v:=by
 rcases L with h1|⟨b,o,cap,cur,e,a1,a2,a3,a4,a5,a6,⟨l1,l2,l3⟩,a8,a9⟩
 ·exact .inl h1
 ·exact .inr ⟨b,o,cap,cur,e,a1,a2,a3,a4,a5,a6,⟨l1,fun q hq=>l2 q (AA hq).1,fun q gr m sz xs hq=>l3 q gr m sz xs (pO hq).1⟩,a8,a9⟩
theorem Ng {px:List (List PC)} {sz:Nat} (hl:∀e∈px,e.length=sz):(px.flatten.map PC.val).length=px.length*sz:=by
 induction px with
 |nil=>simp
 |cons e px ih=>
  have:=ih (fun e he=>hl e (by simp[he]))
  simp only[List.flatten_cons,List.map_append,List.length_append,List.length_cons,Nat.add_mul,this,List.length_map] at*
  rw[hl e (by simp)]
  omega
theorem Nf {α:Type} {sz:Nat} (bF:0<sz):∀{px:List (List α)} (_:∀e∈px,e.length=sz) {i:Nat} {c:α},px.flatten[i]? =some c->∃k j,At px k j c/\i=k*sz+j
 |[],_,i,c,hi=>by simp at hi
 |e::px,hl,i,c,hi=>by
  have h0:=hl e (by simp)
  simp only[List.flatten_cons] at hi
  rcases Nat.lt_or_ge i e.length with bB|DP
  ·rw[List.getElem?_append_left bB] at hi
   exact⟨0,i,⟨e,rfl,hi⟩,by omega⟩
  ·rw[List.getElem?_append_right DP] at hi
   obtain⟨k,j,⟨e',he,hj⟩,hk⟩:=Nf bF (px:=px) (fun e he=>hl e (by simp[he])) hi
   exact⟨k+1,j,⟨e',by simpa using he,hj⟩,by rw[Nat.add_mul];omega⟩
theorem apf {t ty e e':TypeId} {i:TypeInfo} (ht:P.underlying t=some (.slice e)) (hi:P.info? e=some i)
  (g og xf T2:Nat) (cur:Array Value) (hg:w.heap[g]? =some (.cells cur e' (0,0)))
  (a:Addr) (m c:Nat) (fF:List Value) (hl:fF.length=m*i.size) (sT:∀j u,fF[j]? =some u->w.cell? (a.add j)=some u) (h1:∀u∈fF,u.oneCell'=true)
  (D6:xf+m<=T2) (g0:og+xf*i.size+fF.length<=cur.size):
  (Builtin.append_ #[t,t] ty #[.slice (some (ad g og)) xf T2,.slice (some a) m c]).run P w=.ok (.slice (some (ad g og)) (xf+m) T2) (eG w g (og+xf*i.size) fF cur):=by
 have hf:=run_firstCells_some (P:=P) w i.size m a m c fF hl sT
 have cq:=run_storeCells_at P g (og+xf*i.size) e' fF 0 cur w hg (by simpa using g0) h1
 simp only[Nat.add_zero] at cq
 have ha:(ad g og).add (xf*i.size)=⟨g,og+xf*i.size,none⟩:=by rw[nK];simp[ad]
 simp[Builtin.append_,run_underlying ht,sizeOf,typeInfo,hi,Builtin.lenOf,D6,hf,ha,cq,eG]
theorem ape (w:World) {t e:TypeId} {i:TypeInfo} {z:Value} {ty:TypeId} {sz by_:Nat} (ht:P.underlying t=some (.slice e)) (hi:P.info? e=some i) (hz:i.zero=some z) (bF:i.size=sz) (iY:0<sz) (nQ:i.bytes=by_) (yo:0<by_)
  {m:Mode} {px:List (List PC)} {v:Value} (fk:∀e∈px,e.length=sz) (L:xO B E w G h sz m px v) {fF:List Value} {k c:Nat} {ya:Option Addr} (aR:fF.length=k*sz)
  (hy:(ya=none/\k=0)\/∃ay,ya=some ay/\∀(j:Nat) (u:Value),fF[j]? =some u->w.cell? (ay.add j)=some u) (h1:∀u∈fF,u.oneCell'=true) (hb:(px.length+k)*by_<=dA):
  (∃a,k=0/\v=.slice a 0 0/\px=[]/\(Builtin.append_ #[t,t] ty #[v,.slice ya k c]).run P w=.ok (.slice a 0 0) w)\/
  (∃b o cap cur e',v=.slice (some (ad b o)) px.length cap/\w.heap[b]? =some (.cells cur e' (0,0))/\cur.size=o+cap*sz/\cap<=maxLen/\px.length+k<=cap/\oD w b o sz px/\oC G h b/\(B<=b\/E b)/\(∀b',aX b' px->b'≠b)/\
   (Builtin.append_ #[t,t] ty #[v,.slice ya k c]).run P w=.ok (.slice (some (ad b o)) (px.length+k) cap) (eG w b (o+px.length*sz) fF cur))\/
  (∃(cap:Nat) (arr:Array Value),px.length+k<=cap/\cap<=maxLen/\arr.size=cap*z.cells.size+(px.length+k)*sz - (px.length+k)*z.cells.size/\(∀(q:Nat) (u:Value),(px.flatten.map PC.val++fF)[q]? =some u->arr[q]? =some u)/\
   (Builtin.append_ #[t,t] ty #[v,.slice ya k c]).run P w=.ok (.slice (some (ad w.heap.size 0)) (px.length+k) cap) (w.drew.alloc (.cells arr e))):=by
 have yy:px.length+k<=dA:=Nat.le_trans (Nat.le_mul_of_pos_right _ yo) hb
 have g7:(dA:Nat)=140737488355328:=rfl
 have OO:∀f0,grownCap w (px.length+k) f0 e<=maxLen:=fun f0=>grownCap_le_maxLen w _ f0 e (by simp only[maxLen];omega)
 have ZS:=Ng fk
 have ui:∀f0,((px.flatten.map PC.val).toArray++fF.toArray++Builtin.zeroCells z.cells (grownCap w (px.length+k) f0 e - (px.length+k))).size=grownCap w (px.length+k) f0 e*z.cells.size+(px.length+k)*sz - (px.length+k)*z.cells.size:=by
  intro f0
  have DP:=grownCap_ge w (px.length+k) f0 e
  have h2:(px.length+k)*z.cells.size<=grownCap w (px.length+k) f0 e*z.cells.size:=Nat.mul_le_mul_right _ DP
  simp only[Array.size_append,List.size_toArray,size_zeroCells,ZS,aR,Nat.sub_mul,Nat.add_mul] at*
  omega
 have nc:∀f0 (q:Nat) (u:Value),(px.flatten.map PC.val++fF)[q]? =some u->((px.flatten.map PC.val).toArray++fF.toArray++Builtin.zeroCells z.cells (grownCap w (px.length+k) f0 e - (px.length+k)))[q]? =some u:=by
  intro f0 q u hq
  have Pr:=(List.getElem?_eq_some_iff.1 hq).1
  rw[Array.getElem?_append_left (by simp only[Array.size_append,List.size_toArray];simpa using Pr)]
  simpa using hq
 rcases L with⟨a,rfl,rfl⟩|⟨b,o,cap,cur,e',rfl,a2,a3,a4,a5,a6,a7,a8,a9⟩
 ·by_cases hk:k=0
  ·subst hk
   left
   have hn:fF=[]:=List.eq_nil_of_length_eq_zero (by simpa using aR)
   refine⟨a,rfl,rfl,rfl,?_⟩
   cases ya<;>cases a<;>simp[Builtin.append_,run_underlying ht,sizeOf,typeInfo,hi,Builtin.lenOf,Builtin.firstCells,loadCells,loadCellsFrom,storeCells]
  ·rcases hy with⟨_,h0⟩|⟨ay,rfl,sT⟩
   ·exact absurd h0 hk
   right;right
   cases a with
   |none=>
    have hr:=run_append_nil (P:=P) w t ty e i z ht hi hz ay k c fF (by rw[bF];exact aR) sT (by omega) (by simp only[List.length_nil,Nat.zero_add] at yy;omega) (by rw[nQ];simp only[List.length_nil,Nat.zero_add] at hb;omega)
    have h3:=ui 0
    have h4:=nc 0
    have h5:=OO 0
    simp only[List.length_nil,Nat.zero_add,List.flatten_nil,List.map_nil,List.nil_append] at h3 h4 h5⊢
    exact⟨grownCap w k 0 e,fF.toArray++Builtin.zeroCells z.cells (grownCap w k 0 e - k),grownCap_ge w k 0 e,h5,by simpa using h3,fun q u hq=>by simpa using h4 q u hq,hr⟩
   |some a=>
    have hr:=run_append_grow (P:=P) w t ty e i z ht hi hz a 0 0 [] (by simp) (fun q u hq=>by simp at hq) ay k c fF (by rw[bF];exact aR) sT (by omega) (by simp only[List.length_nil,Nat.zero_add] at yy;omega) (growslice_fits (by simp only[List.length_nil,Nat.zero_add] at yy;omega) (by rw[nQ,Nat.zero_add];rw[List.length_nil,Nat.zero_add] at hb;exact hb))
    have h3:=ui 0
    have h4:=nc 0
    have h5:=OO 0
    simp only[List.length_nil,Nat.zero_add,List.flatten_nil,List.map_nil,List.nil_append] at h3 h4 h5 hr⊢
    exact⟨_,_,grownCap_ge w k 0 e,h5,by simpa using h3,fun q u hq=>by simpa using h4 q u hq,hr⟩
 ·by_cases D6:px.length+k<=cap
  ·right;left
   refine⟨b,o,cap,cur,e',rfl,a2,a3,a4,D6,a6,a7,a8,a9,?_⟩
   rcases hy with⟨rfl,rfl⟩|⟨ay,rfl,sT⟩
   ·have hn:fF=[]:=List.eq_nil_of_length_eq_zero (by simpa using aR)
    subst hn
    have aip:eG w b (o+px.length*sz) [] cur=w:=by
     unfold eG
     simp only[List.append_nil,List.length_nil,Nat.add_zero,List.take_append_drop,Array.toArray_toList]
     exact setRow_self w b cur e' (0,0) a2
    rw[aip]
    simp[Builtin.append_,run_underlying ht,sizeOf,typeInfo,hi,Builtin.lenOf,Builtin.firstCells,a5,storeCells]
   ·have hr:=apf (P:=P) (w:=w) (ty:=ty) ht hi b o px.length cap cur a2 ay k c fF (by rw[bF];exact aR) sT h1 D6 (by
     rw[bF,aR,a3,Nat.add_assoc,<-Nat.add_mul];exact Nat.add_le_add_left (Nat.mul_le_mul_right _ D6) _)
    rw[bF] at hr
    exact hr
  ·rcases hy with⟨_,rfl⟩|⟨ay,rfl,sT⟩
   ·omega
   right;right
   have hr:=run_append_grow (P:=P) w t ty e i z ht hi hz (ad b o) px.length cap (px.flatten.map PC.val) (by rw[bF];exact ZS) (fun q u hq=>by
    rw[List.getElem?_map] at hq
    cases hf:px.flatten[q]? with
    |none=>rw[hf] at hq;cases hq
    |some pc=>
     rw[hf] at hq
     simp at hq
     subst hq
     obtain⟨k',j',mB,rfl⟩:=Nf iY fk hf
     rw[nK,<-Nat.add_assoc]
     exact a6.2.1 k' j' pc mB) ay k c fF (by rw[bF];exact aR) sT (by omega) (by omega) (growslice_fits (by omega) (by rw[nQ];exact hb))
   exact⟨_,_,grownCap_ge w _ _ _,OO _,ui _,nc _,hr⟩
def vB (w:World) (sz:Nat) (py:List (List PC)) (v:Value):Prop:=
 (∀e∈py,e.length=sz)/\(∀k j c,At py k j c->Good w c)/\
 ∃ya c,v=.slice ya py.length c/\((ya=none/\py.length=0)\/∃ay,ya=some ay/\∀(j:Nat) (u:Value),(py.flatten.map PC.val)[j]? =some u->w.cell? (ay.add j)=some u)
theorem vB.abt {sz:Nat} {ya:Option Addr} {c:Nat} {py:List (List PC)} (hg:Good w (.list sz ya c py)):vB w sz py (.slice ya py.length c):=by
 cases hg with
 |nil _ _ _ h=>
  refine⟨by simp,by rintro k j c ⟨e,he,_⟩;simp at he,ya,c,rfl,?_⟩
  cases ya with
  |none=>exact .inl ⟨rfl,rfl⟩
  |some ay=>exact .inr ⟨ay,rfl,by simp⟩
 |cons _ b o _ _ h1 h2 h3 h4 h5 h6=>
  refine⟨h4,h6,_,c,rfl,.inr ⟨_,rfl,fun j u hj=>?_⟩⟩
  rw[List.getElem?_map] at hj
  cases hf:py.flatten[j]? with
  |none=>rw[hf] at hj;cases hj
  |some pc=>
   rw[hf] at hj
   simp at hj
   subst hj
   obtain⟨k',j',mB,rfl⟩:=Nf h3 h4 hf
   rw[nK,<-Nat.add_assoc]
   exact h5 k' j' pc mB
theorem R.aep (r:R B E w0 N σ a w G) {σ2:St} (yr:σ2.env=σ.env) (lK:σ2.used=σ.used) (H:HR B E w G σ2.h σ.used []) (K:aZ w G σ.h (fun n=>σ.used n=true) w G σ2.h)
  {n:Nat} {sz by_:Nat} {m m2:Mode} {px py:List (List PC)} {v yv:Value} (hn:σ.used n=false) (iY:0<sz) (F:lf B E w G σ2.h sz m2 (px++py)) (fk:∀e∈px,e.length=sz) (L:xO B E w G σ2.h sz m px v) (Ry:vB w sz py yv)
  (Pj:∀b,aX b py->∀b' o cap,0<cap->v=.slice (some (ad b' o)) px.length cap->oC G σ2.h b'->b≠b')
  {t e:TypeId} {i:TypeInfo} {z:Value} {ty:TypeId} (ht:P.underlying t=some (.slice e)) (hi:P.info? e=some i) (hz:i.zero=some z) (bF:i.size=sz) (nQ:i.bytes=by_) (yo:0<by_) (rG:z.cells.size=sz)
  (hb:(px.length+py.length)*by_<=dA):
  ∃u w' G',(Builtin.append_ #[t,t] ty #[v,yv]).run P w=.ok u w'/\
   R B E w0 N {σ2 with h:=ax σ2.h n (some (.row true m2 sz ((px++py).map fun e=>e.map PC.er))),used:=ax σ2.used n true} a w' G'/\
   RA w' G' (ax σ2.h n (some (.row true m2 sz ((px++py).map fun e=>e.map PC.er)))) (.one (.sl n sz 0 (px.length+py.length))) u:=by
 obtain⟨r1,r2,ya,c,rfl,r3⟩:=Ry
 have aR:(py.flatten.map PC.val).length=py.length*sz:=Ng r1
 have h1:∀u∈py.flatten.map PC.val,u.oneCell'=true:=fun u hu=>by obtain⟨pc,_,rfl⟩:=List.mem_map.1 hu;exact PC.kv pc
 have hB:=r.fr.size
 have ZP:(px++py).length=px.length+py.length:=by simp
 have OV:σ2.h n=none:=by
  cases hh:σ2.h n with
  |none=>rfl
  |some b=>have:=H.iA n (by rw[hh];simp);rw[hn] at this;cases this
 have ne:∀q,σ.used q=true->q≠n:=fun q hq e=>by subst e;rw[hn] at hq;cases hq
 have aE:∀q,σ2.h q≠none->q≠n:=fun q hq e=>by subst e;exact hq OV
 rcases ape (P:=P) w (ty:=ty) ht hi hz bF iY nQ yo fk L aR r3 h1 hb with⟨a0,k0,rfl,rfl,bO⟩|⟨b,ob,cap,cur,e',rfl,b2,b3,b4,b5,b6,b7,b8,b9,bO⟩|⟨cap,arr,c1,c2,c3,c4,bO⟩
 ·
  have hpy:py=[]:=List.eq_nil_of_length_eq_zero k0
  subst hpy
  refine⟨_,w,⟨G.Im,ax G.g n ⟨true,0,0,0,[],a0⟩⟩,bO,?_,?_⟩
  ·refine r.step (σ':=_) yr (fun q hq=>by show ax σ2.used n true q=true;rw[lK];exact qT n q hq) (aZ.trans (u2:=fun n=>σ.used n=true) (fun _ h=>h) K (aZ.insert H (blk:=.row true m2 sz []) (p:=⟨true,0,0,0,[],a0⟩) hn (fun _ _=>rfl))) ?_ r.fr
   show HR B E w _ (ax σ2.h n (some (.row true m2 sz []))) (ax σ2.used n true) []
   rw[lK]
   have bS:∀b,¬aX b ([]:List (List PC)):=by rintro b ⟨k,j,c,⟨e,he,_⟩,_⟩;simp at he
   refine H.insert (p:=⟨true,0,0,0,[],a0⟩) hn (fun _ _=>rfl) (Nat.le_refl _) (fun h=>by cases h) (fun cs c m hb=>by cases hb) ⟨iY,rfl,fun _=>⟨rfl,fun _=>rfl⟩,(fun h=>by cases h),(fun h=>by cases h),?_⟩
    (fun gr m sz xs _ _ n' bj m' aL ar _ _ b hb=>absurd hb (bS b)) (fun gr sz xs _ b hb=>absurd hb (bS b)) (fun gr m sz xs _ _ i pc b hi=>by simp at hi)
   have hm:=F.mode
   simp only[List.append_nil] at hm
   exact hm
  ·refine RA.fZ rfl fun _=>.inl ?_
   simp[bE]
 ·
  have I3:(ob+px.length*sz)+(py.flatten.map PC.val).length<=cur.size:=by rw[aR,b3,Nat.add_assoc,<-Nat.add_mul];exact Nat.add_le_add_left (Nat.mul_le_mul_right _ b5) _
  let w2:=eG w b (ob+px.length*sz) (py.flatten.map PC.val) cur
  have dJ:∀x,x≠b->w2.heap[x]? =w.heap[x]? :=fun x hx=>zz x hx
  have IG:∀x,G.Im x->x≠b:=fun x hx he=>b7.1 (he▸hx)
  have uG:∀x,dD w x->dD w2 x:=fun x hx=>KQ b2 I3 x hx
  have ZR:∀x,aX x (px++py)->x≠b:=fun x hx=>(u6 hx).elim (b9 x) (fun h=>Pj x h b ob cap (by obtain⟨k,j,c,⟨e,he,_⟩,_⟩:=h;have:=(List.getElem?_eq_some_iff.1 he).1;omega) rfl b7)
  let p:PB:=⟨false,b,ob,cap,px++py,none⟩
  have K2:aZ w G σ2.h (fun n=>σ.used n=true) w2 ⟨G.Im,ax G.g n p⟩ (ax σ2.h n (some (.row true m2 sz ((px++py).map fun e=>e.map PC.er)))):=by
   refine⟨fun _ h=>h,fun x hx o=>iz (dJ x (IG x hx)) o,fun q hq h0=>?_,fun q gr aL ar hq h0=>?_⟩
   ·rw[cb _ _ _ _ (ne q hq)] at h0
    simp only[cb _ _ _ _ (ne q hq)]
    exact⟨h0,trivial,trivial,trivial,trivial,trivial⟩
   ·rw[cb _ _ _ _ (ne q hq)] at h0
    simp only[cb _ _ _ _ (ne q hq)]
    exact⟨⟨gr,ar,h0⟩,fun k j pc h1 h2=>⟨pc,h1,rfl,h2⟩⟩
  have ahL:b<w.heap.size:=(Array.getElem?_eq_some_iff.1 b2).1
  have Hn:HR B E w2 ⟨G.Im,ax G.g n p⟩ (ax σ2.h n (some (.row true m2 sz ((px++py).map fun e=>e.map PC.er)))) (ax σ.used n true) []:=by
   refine H.put (p:=p) (fun x _ hx=>dJ x (hx rfl)) (by show w.heap.size<=w2.heap.size;rw[qU];exact Nat.le_refl _) (fun x _ hx=>uG x hx) (fun q hq=>qT n q hq) (bE _ _ _)
    (fun _=>⟨b7.1,b8,by show b<w2.heap.size;rw[qU];exact ahL⟩) (fun _ q hq h0 hl=>b7.2.1 q h0 hl) (fun _ q gr aL ar hq h0 x hx he=>b7.2.2 q gr .live aL ar h0 (by have IQ:x=b:=he;rw[<-IQ];exact hx))
    (fun cs c q hb=>by cases hb) K2 ?_ ?_ ?_ (fun gr m sz xs _ _ i pc b hi=>by simp at hi) (fun _ _ x hx he=>by obtain⟨q,gr,mo,aL,ar,_,h0,hxF⟩:=hx;exact b7.2.2 q gr mo aL ar h0 (by have IQ:x=b:=he;rw[<-IQ];exact hxF))
   ·refine⟨iY,rfl,(fun h=>by cases h),fun _=>⟨uG b ⟨cur,e',b2⟩,⟨F.len,fun k j c hk=>?_,fun k j c hk=>?_⟩,by show(px++py).length<=cap;rw[ZP];exact b5⟩,fun _ _=>?_,?_⟩
    ·show w2.cell? (ad b (ob+k*sz+j))=some c.val
     rw[CA b2 I3]
     have hf:=tL F.len hk
     rw[List.flatten_append] at hf
     have jl:px.flatten.length=px.length*sz:=by have:=Ng fk;rwa[List.length_map] at this
     rcases vG hk with⟨oU,cY⟩|⟨oU,cY⟩
     ·rw[if_neg ?_]
      ·exact b6.2.1 k j c cY
      ·rintro⟨q1,_⟩
       have hj:j<sz:=by obtain⟨e1,he,hj⟩:=cY;rw[<-fk e1 (List.mem_of_getElem? he)];exact(List.getElem?_eq_some_iff.1 hj).1
       have:(k+1)*sz<=px.length*sz:=Nat.mul_le_mul_right _ oU
       rw[Nat.add_mul] at this
       omega
     ·have DP:px.length*sz<=k*sz+j:=Nat.le_trans (Nat.mul_le_mul_right _ oU) (Nat.le_add_right _ _)
      have bB:=(List.getElem?_eq_some_iff.1 hf).1
      rw[List.length_append,jl] at bB
      rw[List.getElem?_append_right (by rw[jl];exact DP),jl] at hf
      rw[if_pos ⟨by omega,by simp only[List.length_map];omega⟩]
      rw[List.getElem?_map,show ob+k*sz+j - (ob+px.length*sz)=k*sz+j - px.length*sz by omega,hf]
      rfl
    ·exact(F.dH k j c hk).congr fun x hx o=>iz (dJ x (ZR x ⟨k,j,c,hk,hx⟩)) o
    ·obtain⟨ji,q1,q2⟩:=KP (vs:=py.flatten.map PC.val) (o:=ob+px.length*sz) b2 I3
     exact⟨b4,ji,e',q1,by rw[q2,b3]⟩
    ·have hm:=F.mode
     cases m2 with
     |aO=>exact hm
     |ab=>exact⟨fun x hx=>⟨(hm.1 x hx).1,uG x (hm.1 x hx).2.1,(hm.1 x hx).2.2⟩,hm.2⟩
     |live=>exact⟨fun x hx=>⟨(hm.1 x hx).1,uG x (hm.1 x hx).2.1,(hm.1 x hx).2.2⟩,hm.2⟩
   ·intro gr m' aL ar hb g7 q bj mo jZ ic fw h0 iV x hx
    injection hb with _ hb _ _
    subst hb
    exact F.fA g7 q bj mo jZ ic h0 iV x hx
   ·intro gr aL ar hb x hx
    injection hb with _ hb _ _
    exact⟨fun _=>ZR x hx,fun q _ h0 hl=>F.live hb x hx q h0 hl⟩
  refine⟨_,w2,⟨G.Im,ax G.g n p⟩,bO,?_,?_⟩
  ·exact r.step (σ':=_) yr (fun q hq=>by show ax σ2.used n true q=true;rw[lK];exact qT n q hq) (aZ.trans (u2:=fun n=>σ.used n=true) (fun _ h=>h) K K2)
    (by show HR B E w2 _ _ (ax σ2.used n true) [];rw[lK];exact Hn) (r.fr.one b8 (fun x hx PD=>dJ x PD) (by show w.heap.size<=w2.heap.size;rw[qU];exact Nat.le_refl _) (CB b2 I3) rfl rfl rfl)
  ·refine RA.fZ rfl fun _=>.inr ⟨by simp[bE,p],some (ad b ob),?_,?_,?_⟩
   ·simp[bE,p]
   ·simp[bE,p];exact b5
   ·simp[bE,p]
 ·
  let w1:=w.drew
  have hd:∀x:Nat,x<w.heap.size->(w.drew.alloc (.cells arr e)).heap[x]? =w.heap[x]? :=fun x hx=>heap_alloc_old w.drew _ x hx
  have H1:HR B E w.drew G σ2.h σ.used []:=H.grow (w':=w.drew) (fun _ _=>rfl) (Nat.le_refl _)
  have r1:R B E w0 N σ a w.drew G:=r.step (w':=w.drew) rfl (fun _ h=>h) (aZ.world (w:=w) (w':=w.drew) (fun _ _=>rfl) _) (r.hr.grow (w':=w.drew) (fun _ _=>rfl) (Nat.le_refl _)) (r.fr.grow (w':=w.drew) (fun _ _=>rfl) (Nat.le_refl _) rfl rfl rfl)
  have K1:aZ w.drew G σ.h (fun n=>σ.used n=true) w.drew G σ2.h:=⟨K.im,fun _ _ _=>rfl,K.name,K.live⟩
  have gH:∀k j c,At (px++py) k j c->Good w.drew c:=fun k j c hk=>(F.dH k j c hk).congr fun _ _ _=>rfl
  have ui:∀k j c,At (px++py) k j c->arr[k*sz+j]? =some c.val:=fun k j c hk=>by
   have hf:=tL F.len hk
   refine c4 _ _ ?_
   rw[<-List.map_append,<-List.flatten_append,List.getElem?_map,hf]
   rfl
  have uC:arr.size=cap*sz:=by rw[c3,rG];omega
  have hB2:=r1.fr.size
  let p:PB:=⟨false,w.heap.size,0,cap,px++py,none⟩
  have hw:∀x:Nat,x<w.drew.heap.size->(w.drew.alloc (.cells arr e)).heap[x]? =w.drew.heap[x]? :=hd
  have Hn:HR B E (w.drew.alloc (.cells arr e)) ⟨G.Im,ax G.g n p⟩ (ax σ2.h n (some (.row true m2 sz ((px++py).map fun e=>e.map PC.er)))) (ax σ.used n true) []:=by
   refine H1.insert (p:=p) hn hw (by simp) (fun _=>⟨H1.Qs,.inl hB,by simp[p]⟩) (fun cs c m hb=>by cases hb) ?_ ?_ ?_ (fun gr m sz xs _ _ i pc b hi=>by simp at hi)
   ·refine⟨iY,rfl,(fun h=>by cases h),fun _=>⟨dD.alloc _ _ _,⟨F.len,fun k j c hk=>?_,fun k j c hk=>?_⟩,by show(px++py).length<=cap;rw[ZP];exact c1⟩,fun _ _=>⟨c2,arr,e,heap_alloc_new w.drew _,(Nat.zero_add _).symm▸uC⟩,?_⟩
    ·show(w.drew.alloc (.cells arr e)).cell? (ad w.drew.heap.size (0+k*sz+j))=some c.val
     simp only[Nat.zero_add]
     unfold ad
     rw[World.cell?_alloc_new]
     exact ui k j c hk
    ·exact(gH k j c hk).congr fun x hx o=>iz (hw x ((gH k j c hk).lt hx)) o
    ·have hm:=F.mode
     have hu:∀x,dD w x->dD (w.drew.alloc (.cells arr e)) x:=fun x hx=>hx.congr (hd x hx.lt)
     cases m2 with
     |aO=>exact hm
     |ab=>exact⟨fun x hx=>⟨(hm.1 x hx).1,hu x (hm.1 x hx).2.1,(hm.1 x hx).2.2⟩,hm.2⟩
     |live=>exact⟨fun x hx=>⟨(hm.1 x hx).1,hu x (hm.1 x hx).2.1,(hm.1 x hx).2.2⟩,hm.2⟩
   ·intro gr m' aL ar hb g7 q bj mo jZ ic h0 iV x hx
    injection hb with _ hb _ _
    subst hb
    exact F.fA g7 q bj mo jZ ic h0 iV x hx
   ·intro gr aL ar hb x hx
    injection hb with _ hb _ _
    refine⟨fun _=>?_,fun q h0 hl=>F.live hb x hx q h0 hl⟩
    obtain⟨k,j,c,hk,hxc⟩:=hx
    have:=(F.dH k j c hk).lt hxc
    show x≠w.heap.size
    omega
  refine⟨_,_,⟨G.Im,ax G.g n p⟩,bO,?_,?_⟩
  ·exact r1.step (σ':=_) yr (fun q hq=>by show ax σ2.used n true q=true;rw[lK];exact qT n q hq) (aZ.trans (u2:=fun n=>σ.used n=true) (fun _ h=>h) K1 (aZ.insert H1 hn hw))
    (by show HR B E _ _ _ (ax σ2.used n true) [];rw[lK];exact Hn) (r1.fr.grow hw (by simp) rfl rfl rfl)
  ·refine RA.fZ rfl fun _=>.inr ⟨by simp[bE,p],some (ad w.heap.size 0),?_,?_,?_⟩
   ·simp[bE,p]
   ·simp[bE,p];exact c1
   ·simp[bE,p]
theorem akt (r:R B E w0 N σ a w G) {sz:Nat} {x:aj} {v:Value} {xs:List (List C)} {m:Mode} {σ1:St} (hv:RA w G σ.h x v) (hx:pI σ sz x=some (xs,m,σ1)):
  ∃px:List (List PC),xs=px.map (fun e=>e.map PC.er)/\lf B E w G σ1.h sz m px/\xO B E w G σ1.h sz m px v/\HR B E w G σ1.h σ.used []/\aZ w G σ.h (fun n=>σ.used n=true) w G σ1.h/\σ1.env=σ.env/\σ1.used=σ.used/\
   (∀n b,σ1.h n=some b->σ.h n=some b):=by
 unfold pI at hx
 split at hx
 ·rename_i s
  injection hx with hx
  injection hx with h1 h2
  injection h2 with h2 h3
  subst h1 h2 h3
  have fK:v=.slice none 0 0:=(hv.fz (by simp)).1
  have bS:∀b,¬aX b ([]:List (List PC)):=by rintro b ⟨k,j,c,⟨e,he,_⟩,_⟩;simp at he
  exact⟨[],rfl,⟨by simp,by rintro k j c ⟨e,he,_⟩;simp at he,⟨fun b hb=>absurd hb (bS b),(by rintro k j c ⟨e,he,_⟩;simp at he),(by rintro k j c k' j' c' b ⟨e,he,_⟩;simp at he)⟩,fun _ _ _ _ _ _ _ _ b hb=>absurd hb (bS b),fun _ b hb=>absurd hb (bS b)⟩,
   .inl ⟨none,fK,rfl⟩,r.hr,aZ.refl _ _ _ _,rfl,rfl,fun _ _ h=>h⟩
 ·rename_i n s len
  split at hx
  ·rename_i m0 rs kz hn
   split at hx
   ·rename_i hc
    obtain⟨rfl,rfl,rfl⟩:=hc
    injection hx with hx
    injection hx with h1 h2
    injection h2 with h2 h3
    subst h1 h2 h3
    have H:=r.hr
    have bJ:σ.h n≠none:=by rw[hn];simp
    have hr:=H.row n true m0 s kz hn
    have fV:jg (G.g n) s 0 kz.length v:=(hv.fz (by simp)).1 bJ
    have qg:kz.length=(G.g n).px.length:=by rw[hr.er];simp
    refine⟨(G.g n).px,hr.er,lf.R8 H hn,?_,H.del n,aZ.del n _,rfl,rfl,fun q b hq=>(pO hq).1⟩
    rcases fV with⟨aR,fK,_,_⟩|⟨aR,a',fK,jk,ha⟩
    ·have g2:=(hr.nl aR).2 rfl
     exact .inl ⟨(G.g n).na,by rw[fK,g2],(hr.nl aR).1⟩
    ·right
     obtain⟨r2,cur,e,r3,r4⟩:=hr.room aR rfl
     obtain⟨l1,l2,l3⟩:=hr.dT aR
     obtain⟨o1,o2,o3⟩:=H.own n bJ aR
     have oQ:=ha (.inr rfl)
     refine⟨(G.g n).b,(G.g n).o,(G.g n).cap,cur,e,?_,r3,r4,r2,l3,l2,⟨o1,fun q hq hl=>?_,fun q gr m' aL ar hq hb=>?_⟩,o2,fun b hb=>H.sL bJ aR hn hb⟩
     ·rw[fK,oQ,qg];simp
     ·obtain⟨q1,q2⟩:=AA hq
      exact H.inj q n q1 bJ q2 hl aR
     ·exact H.sL bJ aR (pO hq).1 hb rfl
   ·cases hx
  ·cases hx
 ·cases hx
theorem aoZ {fl:Bool} {sz:Nat} {x:aj} {v:Value} {ys:List (List C)} {m m2:Mode} {σ1 σ2:St} {px:List (List PC)} (iY:0<sz) (H:HR B E w G σ1.h σ1.used []) (F:lf B E w G σ1.h sz m px) (hv:RA w G σ1.h x v)
  (hx:lm fl σ1 sz m x=some (ys,m2,σ2)):
  ∃py:List (List PC),ys=py.map (fun e=>e.map PC.er)/\vB w sz py v/\lf B E w G σ2.h sz m2 (px++py)/\HR B E w G σ2.h σ1.used []/\aZ w G σ1.h (fun n=>σ1.used n=true) w G σ2.h/\σ2.env=σ1.env/\σ2.used=σ1.used/\
   (∀n b,σ2.h n=some b->σ1.h n=some b)/\(∀b,aX b py->∀b',¬G.Im b'->(∀q gr mo aL ar,σ1.h q=some (.row gr mo aL ar)->¬aX b' (G.g q).px)->b≠b'):=by
 unfold lm at hx
 have aic:∀b,¬aX b ([]:List (List PC)):=by rintro b ⟨k,j,c,⟨e,he,_⟩,_⟩;simp at he
 split at hx
 ·rename_i s
  injection hx with hx
  injection hx with h1 h2
  injection h2 with h2 h3
  subst h1 h2 h3
  have fK:v=.slice none 0 0:=(hv.fz (by simp)).1
  subst fK
  exact⟨[],rfl,⟨by simp,by rintro k j c ⟨e,he,_⟩;simp at he,none,0,rfl,.inl ⟨rfl,rfl⟩⟩,by simpa using F,H,aZ.refl _ _ _ _,rfl,rfl,fun _ _ h=>h,fun b hb=>absurd hb (aic b)⟩
 ·rename_i s vk
  split at hx
  ·rename_i hs
   subst hs
   obtain⟨pc,e1,e2,e3,e4⟩:=hv.c
   have aY:∃ya c py,pc=.list s ya c py/\py.map (fun e=>e.map PC.er)=vk:=by
    cases pc with
    |int k n=>simp[PC.er] at e1
    |bool b=>simp[PC.er] at e1
    |list s' ya c py=>rw[PC.dG] at e1;injection e1 with e1 e5;subst e1;exact⟨ya,c,py,rfl,e5⟩
   obtain⟨ya,c,py,rfl,e5⟩:=aY
   have hR:vB w s py v:=by rw[<-e2];exact vB.abt e3
   have mA:∀b,aX b py->G.Im b:=fun b ⟨k,j,c,hk,hb⟩=>e4 b (.there _ _ _ _ k j c hk hb)
   have oR:∀b,aX b py->∀b',¬G.Im b'->(∀q gr mo aL ar,σ1.h q=some (.row gr mo aL ar)->¬aX b' (G.g q).px)->b≠b':=fun b hb b' aW _ he=>aW (he▸mA b hb)
   split at hx
   ·rename_i sW
    injection hx with hx
    injection hx with h1 h2
    injection h2 with h2 h3
    subst h1 h2 h3
    replace sW:=(Bool.and_eq_true _ _▸sW).2
    rw[<-e5] at sW
    exact⟨py,e5.symm,hR,F.W7 hR.1 hR.2.1 (B8 sW),H,aZ.refl _ _ _ _,rfl,rfl,fun _ _ h=>h,oR⟩
   ·split at hx
    ·cases hx
    ·rename_i sQ
     injection hx with hx
     injection hx with h1 h2
     injection h2 with h2 h3
     subst h1 h2 h3
     refine⟨py,e5.symm,hR,⟨fun e he=>(List.mem_append.1 he).elim (F.len e) (hR.1 e),fun k j c hk=>?_,fun b hb=>(u6 hb).elim (F.Ws sQ b) (mA b),fun h=>absurd rfl h,fun h=>by cases h⟩,H,aZ.refl _ _ _ _,rfl,rfl,fun _ _ h=>h,oR⟩
     rcases vG hk with⟨_,h⟩|⟨_,h⟩
     ·exact F.dH _ _ _ h
     ·exact hR.2.1 _ _ _ h
  ·cases hx
 ·rename_i n s lo len
  split at hx
  ·rename_i gr m' rs vk hn
   split at hx
   ·rename_i hc
    obtain⟨rfl,rfl,hl⟩:=hc
    have bJ:σ1.h n≠none:=by rw[hn];simp
    have hr:=H.row n gr m' s vk hn
    have fV:jg (G.g n) s lo len v:=(hv.fz (by simp)).1 bJ
    obtain⟨q1,q2,q3,q4⟩:=Fc hr fV hl
    have OX:∃ya c,ku (G.g n) s lo len v=.list s ya c (((G.g n).px.drop lo).take len):=by
     rcases fV with⟨_,rfl,_,_⟩|⟨_,a',rfl,_,_⟩<;>exact⟨_,_,rfl⟩
    obtain⟨ya,c,OX⟩:=OX
    rw[OX] at q1 q2 q3 q4
    have hR:vB w s (((G.g n).px.drop lo).take len) v:=by rw[<-q2];exact vB.abt q3
    have rF:(vk.drop lo).take len=(((G.g n).px.drop lo).take len).map (fun e=>e.map PC.er):=by rw[PC.dG] at q1;injection q1 with _ q1;exact q1.symm
    have oR:∀b,aX b (((G.g n).px.drop lo).take len)->∀b',¬G.Im b'->(∀q gr mo aL ar,σ1.h q=some (.row gr mo aL ar)->¬aX b' (G.g q).px)->b≠b':=by
     rintro b ⟨k,j,c,hk,hb⟩ b' _ aW rfl
     exact aW n gr m' s vk hn ⟨_,_,_,(oF hk).1,hb⟩
    split at hx
    ·rename_i sW
     injection hx with hx
     injection hx with h1 h2
     injection h2 with h2 h3
     subst h1 h2 h3
     have Z0:=(Bool.and_eq_true _ _▸sW).2
     rw[rF] at Z0
     exact⟨_,rF,hR,F.W7 hR.1 hR.2.1 (B8 Z0),H,aZ.refl _ _ _ _,rfl,rfl,fun _ _ h=>h,oR⟩
    ·split at hx
     ·rename_i ahX
      obtain⟨rfl,rfl⟩:=ahX
      have fB:((G.g n).px.drop 0).take vk.length=(G.g n).px:=by
       have:vk.length=(G.g n).px.length:=by rw[hr.er];simp
       rw[this];simp
      rw[fB] at hR oR
      have F2:=lf.R8 H hn
      have F1:=F.del n
      have gH:∀k j c,At (px++(G.g n).px) k j c->Good w c:=fun k j c hk=>by
       rcases vG hk with⟨_,h⟩|⟨_,h⟩
       ·exact F.dH _ _ _ h
       ·exact F2.dH _ _ _ h
      have hlen:∀e∈px++(G.g n).px,e.length=s:=fun e he=>(List.mem_append.1 he).elim (F.len e) (F2.len e)
      split at hx
      ·rename_i dg
       subst dg
       injection hx with hx
       injection hx with h1 h2
       injection h2 with h2 h3
       subst h1 h2 h3
       refine⟨(G.g n).px,hr.er,hR,⟨hlen,gH,?_,fun hm q bj mo aL ar hq iV b hb=>?_,fun hm b hb q hq hl=>?_⟩,H.del n,aZ.del n _,rfl,rfl,fun q b hq=>(pO hq).1,oR⟩
       ·have m1:=F.mode
        have m3:=F2.mode
        cases m with
        |aO=>exact fun b hb=>(u6 hb).elim (m1 b) (m3 b)
        |ab=>exact⟨fun b hb=>(u6 hb).elim (m1.1 b) (m3.1 b),J2 m1.2 m3.2 (fun b hb=>F.fA (by simp) n gr .ab s vk hn (by simp) b hb)⟩
        |live=>exact⟨fun b hb=>(u6 hb).elim (m1.1 b) (m3.1 b),J2 m1.2 m3.2 (fun b hb=>F.fA (by simp) n gr .live s vk hn (by simp) b hb)⟩
       ·exact(u6 hb).elim (F1.fA hm q bj mo aL ar hq iV b) (F2.fA hm q bj mo aL ar hq iV b)
       ·exact(u6 hb).elim (fun h=>F1.live hm b h q hq hl) (fun h=>F2.live hm b h q hq hl)
      ·split at hx
       ·cases hx
       ·rename_i aR
        injection hx with hx
        injection hx with h1 h2
        injection h2 with h2 h3
        subst h1 h2 h3
        refine⟨(G.g n).px,hr.er,hR,⟨hlen,gH,fun b hb=>(u6 hb).elim (F.Ws (fun h=>aR (.inl h)) b) (F2.Ws (fun h=>aR (.inr h)) b),fun h=>absurd rfl h,fun h=>by cases h⟩,H.del n,aZ.del n _,rfl,rfl,fun q b hq=>(pO hq).1,oR⟩
     ·cases hx
   ·cases hx
  ·cases hx
 ·cases hx
theorem afy (r:R B E w0 N σ a w G) {n:Nat} {t e:TypeId} {i:TypeInfo} {z:Value} {x y:Operand} {mx my:MO} {fl:Bool} {sz by_:Nat} {xs ys:List (List C)} {m m2:Mode} {σ1 σ2 gD:St}
  (ho:o.op=.call {callee:=.builtin .append,args:=#[x,y],argTypes:=#[t,t]}) (hd:o.dst=some n) (hN:n<N) (fR:bz x mx=true) (jO:bz y my=true)
  (ht:P.underlying t=some (.slice e)) (hi:P.info? e=some i) (hz:i.zero=some z) (bF:i.size=sz) (iY:0<sz) (nQ:i.bytes=by_) (yo:0<by_) (rG:z.cells.size=sz)
  (hl:pI σ sz (σ.ev mx)=some (xs,m,σ1)) (hr:lm fl σ1 sz m (σ.ev my)=some (ys,m2,σ2)) (hb:(xs.length+ys.length)*by_<=dA)
  (hx:σ2.ins n (.row true m2 sz (xs++ys))=some gD):
  o.wp P a w (Nx B E w0 N (gD.put o.dst (.one (.sl n sz 0 (xs.length+ys.length))))) Q:=by
 obtain⟨hn,rfl⟩:=lP hx
 obtain⟨x1,x2⟩:=r.ev fR
 obtain⟨y1,y2⟩:=r.ev jO
 obtain⟨px,e1,F1,L1,H1,K1,q1,q2,q3⟩:=akt r x1 hl
 have y1':RA w G σ1.h (σ.ev my) (a.eval y):=y1.eV K1 y2
 rw[<-q2] at H1
 obtain⟨py,e2,R2,F2,H2,K2,p1,p2,p3,oR⟩:=aoZ iY H1 F1 y1' hr
 rw[q2] at H2
 have qg:xs.length=px.length:=by rw[e1];simp
 have Bg:ys.length=py.length:=by rw[e2];simp
 have L2:xO B E w G σ2.h sz m px (a.eval x):=by
  rcases L1 with h|⟨b,o,cap,cur,e',b1,b2,b3,b4,b5,b6,⟨l1,l2,l3⟩,b8,b9⟩
  ·exact .inl h
  ·refine .inr ⟨b,o,cap,cur,e',b1,b2,b3,b4,b5,b6,⟨l1,fun q hq=>?_,fun q gr mo aL ar hq=>l3 q gr mo aL ar (p3 q _ hq)⟩,b8,b9⟩
   cases hh:σ2.h q with
   |none=>exact absurd hh hq
   |some bb=>exact l2 q (by rw[p3 q bb hh];simp)
 obtain⟨u,w',G',bO,r',hv⟩:=r.aep (P:=P) (σ2:=σ2) (n:=n) (m:=m) (m2:=m2) (px:=px) (py:=py) (ty:=o.type) (p1.trans q1) (p2.trans q2) H2 (aZ.trans (u2:=fun n=>σ1.used n=true) (fun q hq=>by rw[q2];exact hq) K1 K2)
  (by rw[<-q2,<-p2];exact hn) iY F2 F1.len L2 R2 (fun b cB b' o' cap eD uH ZQ=>by
   rcases L1 with⟨_,h,_⟩|⟨b0,o0,vJ,cur,e',b1,b2,b3,b4,b5,b6,⟨l1,l2,l3⟩,b8,b9⟩
   ·rw[h] at uH;injection uH with _ _ uH;omega
   ·rw[b1] at uH
    injection uH with uH
    injection uH with uH
    have AU:=(mX uH).1
    subst AU
    exact oR b cB b0 l1 l3) ht hi hz bF nQ yo rG (by rw[<-qg,<-Bg];exact hb)
 have Pg:(px++py).map (fun e=>e.map PC.er)=xs++ys:=by rw[List.map_append,<-e1,<-e2]
 rw[Pg] at r' hv
 rw[<-qg,<-Bg] at hv
 refine nD (v:=u) (w':=w') ?_ ⟨G',r'.put hv (fun q hq=>by have ez:q=n:=hq;subst ez;exact bE _ _ _) (fun q hq=>by rw[hd] at hq;injection hq with hq;omega)⟩
 simp[execOp,ho,resolve,invoke,builtin,bO]
end
end Go.Am
