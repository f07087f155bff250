/- Am14: append. No condition. -/
import Derived.Test.YtifmggmhdcdgbaaAm13
set_option linter.unusedVariables false
namespace Go.Am
theorem vf {α:Type} {px py:List (List α)} {k j:Nat} {c:α} (h:At (px++py) k j c):(k<px.length/\At px k j c)\/(px.length<=k/\At py (k - px.length) j c):=by
 obtain⟨e,he,hj⟩:=h
 rcases Nat.lt_or_ge k px.length with hk|hk
 ·rw[List.getElem?_append_left hk] at he;exact .inl ⟨hk,e,he,hj⟩
 ·rw[List.getElem?_append_right hk] at he;exact .inr ⟨hk,e,he,hj⟩
theorem uG {b:Nat} {px py:List (List PC)} (h:aV b (px++py)):aV b px\/aV b py:=by
 obtain⟨k,j,c,hk,hb⟩:=h
 rcases vf hk with⟨_,h1⟩|⟨_,h1⟩
 ·exact .inl ⟨_,_,_,h1,hb⟩
 ·exact .inr ⟨_,_,_,h1,hb⟩
theorem IG {px py:List (List PC)} (h1:io px) (h2:io py) (h3:∀b,aV b px->¬aV b py):io (px++py):=by
 refine⟨fun k j c hk=>?_,fun k j c k' j' c' b hk da aC hb aX=>?_⟩
 ·rcases vf hk with⟨_,h⟩|⟨_,h⟩
  ·exact h1.1 _ _ _ h
  ·exact h2.1 _ _ _ h
 ·rcases vf hk with⟨q,h⟩|⟨q,h⟩<;>rcases vf da with⟨q',h'⟩|⟨q',h'⟩
  ·exact h1.2 _ _ _ _ _ _ b h h' aC hb aX
  ·exact h3 b ⟨_,_,_,h,hb⟩ ⟨_,_,_,h',aX⟩
  ·exact h3 b ⟨_,_,_,h',aX⟩ ⟨_,_,_,h,hb⟩
  ·refine h2.2 _ _ _ _ _ _ b h h' (fun e=>aC ?_) hb aX
   injection e with e1 e2
   rw[show k=k' by omega,e2]
section
variable {B:Nat} {E:Ex} {w0 w w':World} {G G':Gh} {h h':Nat->Option aq} {used used':Nat->Bool} {tk:List PC} {N:Nat}
variable {P:Program} {o:Oper} {a:Act} {σ σ':St} {Q:Exit->Act->World->Prop}
theorem Bg {py:List (List PC)} (hs:fQ (py.map fun e=>e.map PC.er)=true) (b:Nat):¬aV b py:=by
 rintro⟨k,j,c,⟨e,he,hj⟩,hb⟩
 have h1:e.map PC.er∈py.map fun e=>e.map PC.er:=List.mem_map_of_mem (f:=fun e=>e.map PC.er) (List.mem_of_getElem? he)
 have h2:=List.all_eq_true.1 hs _ h1
 have h3:=List.all_eq_true.1 h2 c.er (List.mem_map_of_mem (List.mem_of_getElem? hj))
 exact(Sep.lc (pc:=c) h3).2 b hb
structure ly (B:Nat) (E:Ex) (w:World) (G:Gh) (h:Nat->Option aq) (sz:Nat) (m:Mode) (px:List (List PC)):Prop where
 len:∀e∈px,e.length=sz
 dV:∀k j c,At px k j c->Good w c
 mode:BQ B E w G px m
 fy:m≠ .aF->∀n gr m' aK ar,h n=some (.row gr m' aK ar)->m'≠ .aF->∀b,aV b px->¬aV b (G.g n).px
 live:m=.live->∀b,aV b px->∀n,h n≠none->(G.g n).nl=false->b≠(G.g n).b
theorem ly.TX {m:Mode} {sz:Nat} {px py:List (List PC)} (F:ly B E w G h sz m px) (hl:∀e∈py,e.length=sz) (hg:∀k j c,At py k j c->Good w c) (ct:∀b,¬aV b py):ly B E w G h sz m (px++py):=by
 have fo:∀b,aV b (px++py)->aV b px:=fun b hb=>(uG hb).resolve_right (ct b)
 refine⟨fun e he=>(List.mem_append.1 he).elim (F.len e) (hl e),fun k j c hk=>?_,?_,fun hm n gr m' aK ar hn bE b hb=>F.fy hm n gr m' aK ar hn bE b (fo b hb),fun hm b hb=>F.live hm b (fo b hb)⟩
 ·rcases vf hk with⟨_,h⟩|⟨_,h⟩
  ·exact F.dV _ _ _ h
  ·exact hg _ _ _ h
 ·have kt:io py:=⟨fun k j c hk=>Sep.DG (fun b hb=>ct b ⟨k,j,c,hk,hb⟩) (hg k j c hk),fun k j c k' j' c' b hk _ _ hb=>absurd ⟨k,j,c,hk,hb⟩ (ct b)⟩
  have hm:=F.mode
  cases m with
  |aF=>exact fun b hb=>hm b (fo b hb)
  |aa=>exact⟨fun b hb=>hm.1 b (fo b hb),IG hm.2 kt (fun b _=>ct b)⟩
  |live=>exact⟨fun b hb=>hm.1 b (fo b hb),IG hm.2 kt (fun b _=>ct b)⟩
theorem ly.PE (H:HR B E w G h used []) {n:Nat} {gr:Bool} {m:Mode} {sz:Nat} {xs:List (List C)} (hn:h n=some (.row gr m sz xs)):ly B E w G (av h n none) sz m (G.g n).px:=by
 have hr:=H.row n gr m sz xs hn
 have aO:(G.g n).px≠[]->(G.g n).nl=false:=fun aC=>by
  cases hq:(G.g n).nl with
  |false=>rfl
  |true=>exact absurd (hr.nl hq).1 aC
 refine⟨fun e he=>(hr.dE (aO (List.ne_nil_of_mem he))).2.1.1 e he,fun k j c hk=>?_,hr.mode,fun hm q bi m' aK ar hq bE b hb=>?_,fun hm b hb q hq hl=>?_⟩
 ·have aC:(G.g n).px≠[]:=by obtain⟨e,he,_⟩:=hk;exact List.ne_nil_of_mem (List.mem_of_getElem? he)
  exact(hr.dE (aO aC)).2.1.2.2 k j c hk
 ·obtain⟨q1,q2⟩:=pL hq
  exact H.fy n q gr m sz xs bi m' aK ar hn q1 hm bE (Ne.symm q2) b hb
 ·subst hm
  obtain⟨q1,q2⟩:=zz hq
  exact H.live n gr sz xs hn b hb q q1 hl
theorem ly.del {m:Mode} {sz:Nat} {px:List (List PC)} (F:ly B E w G h sz m px) (n:Nat):ly B E w G (av h n none) sz m px:=
 ⟨F.len,F.dV,F.mode,fun hm q gr m' aK ar hq bE=>F.fy hm q gr m' aK ar (pL hq).1 bE,fun hm b hb q hq=>F.live hm b hb q (zz hq).1⟩
theorem ly.Te {m:Mode} {sz:Nat} {px:List (List PC)} (F:ly B E w G h sz m px) (hm:m≠ .live):∀b,aV b px->G.Im b:=by
 intro b hb
 have:=F.mode
 cases m with
 |aF=>exact this b hb
 |aa=>exact(this.1 b hb).1
 |live=>exact absurd rfl hm
def w6 (B:Nat) (E:Ex) (w:World) (G:Gh) (h:Nat->Option aq) (sz:Nat) (m:Mode) (px:List (List PC)) (v:Value):Prop:=
 (∃a,v=.slice a 0 0/\px=[])\/
 ∃b o cap cur e,v=.slice (some (ad b o)) px.length cap/\w.heap[b]? =some (.cells cur e (0,0))/\cur.size=o+cap*sz/\cap<=maxLen/\px.length<=cap/\oL w b o sz px/\
  oJ G h b/\(B<=b\/E b)/\(∀b',aV b' px->b'≠b)
theorem w6.del {m:Mode} {sz:Nat} {px:List (List PC)} {v:Value} (L:w6 B E w G h sz m px v) (n:Nat):w6 B E w G (av h n none) sz m px v:=by
 rcases L with h1|⟨b,o,cap,cur,e,a1,a2,a3,a4,a5,a6,⟨l1,l2,l3⟩,a8,a9⟩
 ·exact .inl h1
 ·exact .inr ⟨b,o,cap,cur,e,a1,a2,a3,a4,a5,a6,⟨l1,fun q hq=>l2 q (zz hq).1,fun q gr m sz xs hq=>l3 q gr m sz xs (pL hq).1⟩,a8,a9⟩
theorem Lj {px:List (List PC)} {sz:Nat} (hl:∀e∈px,e.length=sz):(px.flatten.map PC.val).length=px.length*sz:=by
 induction px with
 |nil=>simp
 |cons e px ih=>
  have:=ih (fun e he=>hl e (by simp[he]))
  simp only[List.flatten_cons,List.map_append,List.length_append,List.length_cons,Nat.add_mul,this,List.length_map] at*
  rw[hl e (by simp)]
  omega
theorem Li {α:Type} {sz:Nat} (bG:0<sz):∀{px:List (List α)} (_:∀e∈px,e.length=sz) {i:Nat} {c:α},px.flatten[i]? =some c->∃k j,At px k j c/\i=k*sz+j
 |[],_,i,c,hi=>by simp at hi
 |e::px,hl,i,c,hi=>by
  have h0:=hl e (by simp)
  simp only[List.flatten_cons] at hi
  rcases Nat.lt_or_ge i e.length with bX|CL
  ·rw[List.getElem?_append_left bX] at hi
   exact⟨0,i,⟨e,rfl,hi⟩,by omega⟩
  ·rw[List.getElem?_append_right CL] at hi
   obtain⟨k,j,⟨e',he,hj⟩,hk⟩:=Li bG (px:=px) (fun e he=>hl e (by simp[he])) hi
   exact⟨k+1,j,⟨e',by simpa using he,hj⟩,by rw[Nat.add_mul];omega⟩
theorem aj1 {t ty e e':TypeId} {i:TypeInfo} (ht:P.underlying t=some (.slice e)) (hi:P.info? e=some i)
  (g og wB Q6:Nat) (cur:Array Value) (hg:w.heap[g]? =some (.cells cur e' (0,0)))
  (a:Addr) (m c:Nat) (fB:List Value) (hl:fB.length=m*i.size) (su:∀j u,fB[j]? =some u->w.cell? (a.add j)=some u) (h1:∀u∈fB,u.oneCell'=true)
  (CZ:wB+m<=Q6) (g8:og+wB*i.size+fB.length<=cur.size):
  (Builtin.append_ #[t,t] ty #[.slice (some (ad g og)) wB Q6,.slice (some a) m c]).run P w=.ok (.slice (some (ad g og)) (wB+m) Q6) (eE w g (og+wB*i.size) fB cur):=by
 have hf:=run_firstCells_some (P:=P) w i.size m a m c fB hl su
 have nq:=run_storeCells_at P g (og+wB*i.size) e' fB 0 cur w hg (by simpa using g8) h1
 simp only[Nat.add_zero] at nq
 have ha:(ad g og).add (wB*i.size)=⟨g,og+wB*i.size,none⟩:=by rw[nP];simp[ad]
 simp[Builtin.append_,run_underlying ht,sizeOf,typeInfo,hi,Builtin.lenOf,CZ,hf,ha,nq,eE]
theorem aj0 (w:World) {t e:TypeId} {i:TypeInfo} {z:Value} {ty:TypeId} {sz by_:Nat} (ht:P.underlying t=some (.slice e)) (hi:P.info? e=some i) (hz:i.zero=some z) (bG:i.size=sz) (jf:0<sz) (pV:i.bytes=by_) (xH:0<by_)
  {m:Mode} {px:List (List PC)} {v:Value} (gk:∀e∈px,e.length=sz) (L:w6 B E w G h sz m px v) {fB:List Value} {k c:Nat} {ya:Option Addr} (aO:fB.length=k*sz)
  (hy:(ya=none/\k=0)\/∃ay,ya=some ay/\∀(j:Nat) (u:Value),fB[j]? =some u->w.cell? (ay.add j)=some u) (h1:∀u∈fB,u.oneCell'=true) (hb:(px.length+k)*by_<=eZ):
  (∃a,k=0/\v=.slice a 0 0/\px=[]/\(Builtin.append_ #[t,t] ty #[v,.slice ya k c]).run P w=.ok (.slice a 0 0) w)\/
  (∃b o cap cur e',v=.slice (some (ad b o)) px.length cap/\w.heap[b]? =some (.cells cur e' (0,0))/\cur.size=o+cap*sz/\cap<=maxLen/\px.length+k<=cap/\oL w b o sz px/\oJ G h b/\(B<=b\/E b)/\(∀b',aV b' px->b'≠b)/\
   (Builtin.append_ #[t,t] ty #[v,.slice ya k c]).run P w=.ok (.slice (some (ad b o)) (px.length+k) cap) (eE w b (o+px.length*sz) fB cur))\/
  (∃(cap:Nat) (arr:Array Value),px.length+k<=cap/\cap<=maxLen/\arr.size=cap*z.cells.size+(px.length+k)*sz - (px.length+k)*z.cells.size/\(∀(q:Nat) (u:Value),(px.flatten.map PC.val++fB)[q]? =some u->arr[q]? =some u)/\
   (Builtin.append_ #[t,t] ty #[v,.slice ya k c]).run P w=.ok (.slice (some (ad w.heap.size 0)) (px.length+k) cap) (w.drew.alloc (.cells arr e))):=by
 have xP:px.length+k<=eZ:=Nat.le_trans (Nat.le_mul_of_pos_right _ xH) hb
 have g9:(eZ:Nat)=140737488355328:=rfl
 have Mr:∀f9,grownCap w (px.length+k) f9 e<=maxLen:=fun f9=>grownCap_le_maxLen w _ f9 e (by simp only[maxLen];omega)
 have Wc:=Lj gk
 have tK:∀f9,((px.flatten.map PC.val).toArray++fB.toArray++Builtin.zeroCells z.cells (grownCap w (px.length+k) f9 e - (px.length+k))).size=grownCap w (px.length+k) f9 e*z.cells.size+(px.length+k)*sz - (px.length+k)*z.cells.size:=by
  intro f9
  have CL:=grownCap_ge w (px.length+k) f9 e
  have h2:(px.length+k)*z.cells.size<=grownCap w (px.length+k) f9 e*z.cells.size:=Nat.mul_le_mul_right _ CL
  simp only[Array.size_append,List.size_toArray,size_zeroCells,Wc,aO,Nat.sub_mul,Nat.add_mul] at*
  omega
 have np:∀f9 (q:Nat) (u:Value),(px.flatten.map PC.val++fB)[q]? =some u->((px.flatten.map PC.val).toArray++fB.toArray++Builtin.zeroCells z.cells (grownCap w (px.length+k) f9 e - (px.length+k)))[q]? =some u:=by
  intro f9 q u hq
  have Hx:=(List.getElem?_eq_some_iff.1 hq).1
  rw[Array.getElem?_append_left (by simp only[Array.size_append,List.size_toArray];simpa using Hx)]
  simpa using hq
 rcases L with⟨a,rfl,rfl⟩|⟨b,o,cap,cur,e',rfl,a2,a3,a4,a5,a6,a7,a8,a9⟩
 ·by_cases hk:k=0
  ·subst hk
   left
   have hn:fB=[]:=List.eq_nil_of_length_eq_zero (by simpa using aO)
   refine⟨a,rfl,rfl,rfl,?_⟩
   cases ya<;>cases a<;>simp[Builtin.append_,run_underlying ht,sizeOf,typeInfo,hi,Builtin.lenOf,Builtin.firstCells,loadCells,loadCellsFrom,storeCells]
  ·rcases hy with⟨_,h0⟩|⟨ay,rfl,su⟩
   ·exact absurd h0 hk
   right;right
   cases a with
   |none=>
    have hr:=run_append_nil (P:=P) w t ty e i z ht hi hz ay k c fB (by rw[bG];exact aO) su (by omega) (by simp only[List.length_nil,Nat.zero_add] at xP;omega) (by rw[pV];simp only[List.length_nil,Nat.zero_add] at hb;omega)
    have h3:=tK 0
    have h4:=np 0
    have h5:=Mr 0
    simp only[List.length_nil,Nat.zero_add,List.flatten_nil,List.map_nil,List.nil_append] at h3 h4 h5⊢
    exact⟨grownCap w k 0 e,fB.toArray++Builtin.zeroCells z.cells (grownCap w k 0 e - k),grownCap_ge w k 0 e,h5,by simpa using h3,fun q u hq=>by simpa using h4 q u hq,hr⟩
   |some a=>
    have hr:=run_append_grow (P:=P) w t ty e i z ht hi hz a 0 0 [] (by simp) (fun q u hq=>by simp at hq) ay k c fB (by rw[bG];exact aO) su (by omega) (by simp only[List.length_nil,Nat.zero_add] at xP;omega) (growslice_fits (by simp only[List.length_nil,Nat.zero_add] at xP;omega) (by rw[pV,Nat.zero_add];rw[List.length_nil,Nat.zero_add] at hb;exact hb))
    have h3:=tK 0
    have h4:=np 0
    have h5:=Mr 0
    simp only[List.length_nil,Nat.zero_add,List.flatten_nil,List.map_nil,List.nil_append] at h3 h4 h5 hr⊢
    exact⟨_,_,grownCap_ge w k 0 e,h5,by simpa using h3,fun q u hq=>by simpa using h4 q u hq,hr⟩
 ·by_cases CZ:px.length+k<=cap
  ·right;left
   refine⟨b,o,cap,cur,e',rfl,a2,a3,a4,CZ,a6,a7,a8,a9,?_⟩
   rcases hy with⟨rfl,rfl⟩|⟨ay,rfl,su⟩
   ·have hn:fB=[]:=List.eq_nil_of_length_eq_zero (by simpa using aO)
    subst hn
    have aem:eE w b (o+px.length*sz) [] cur=w:=by
     unfold eE
     simp only[List.append_nil,List.length_nil,Nat.add_zero,List.take_append_drop,Array.toArray_toList]
     exact setRow_self w b cur e' (0,0) a2
    rw[aem]
    simp[Builtin.append_,run_underlying ht,sizeOf,typeInfo,hi,Builtin.lenOf,Builtin.firstCells,a5,storeCells]
   ·have hr:=aj1 (P:=P) (w:=w) (ty:=ty) ht hi b o px.length cap cur a2 ay k c fB (by rw[bG];exact aO) su h1 CZ (by
     rw[bG,aO,a3,Nat.add_assoc,<-Nat.add_mul];exact Nat.add_le_add_left (Nat.mul_le_mul_right _ CZ) _)
    rw[bG] at hr
    exact hr
  ·rcases hy with⟨_,rfl⟩|⟨ay,rfl,su⟩
   ·omega
   right;right
   have hr:=run_append_grow (P:=P) w t ty e i z ht hi hz (ad b o) px.length cap (px.flatten.map PC.val) (by rw[bG];exact Wc) (fun q u hq=>by
    rw[List.getElem?_map] at hq
    cases hf:px.flatten[q]? with
    |none=>rw[hf] at hq;cases hq
    |some pc=>
     rw[hf] at hq
     simp at hq
     subst hq
     obtain⟨k',j',mC,rfl⟩:=Li jf gk hf
     rw[nP,<-Nat.add_assoc]
     exact a6.2.1 k' j' pc mC) ay k c fB (by rw[bG];exact aO) su (by omega) (by omega) (growslice_fits (by omega) (by rw[pV];exact hb))
   exact⟨_,_,grownCap_ge w _ _ _,Mr _,tK _,np _,hr⟩
def vb (w:World) (sz:Nat) (py:List (List PC)) (v:Value):Prop:=
 (∀e∈py,e.length=sz)/\(∀k j c,At py k j c->Good w c)/\
 ∃ya c,v=.slice ya py.length c/\((ya=none/\py.length=0)\/∃ay,ya=some ay/\∀(j:Nat) (u:Value),(py.flatten.map PC.val)[j]? =some u->w.cell? (ay.add j)=some u)
theorem vb.Ya {sz:Nat} {ya:Option Addr} {c:Nat} {py:List (List PC)} (hg:Good w (.list sz ya c py)):vb w sz py (.slice ya py.length c):=by
 cases hg with
 |nil _ _ _ h=>
  refine⟨by simp,by rintro k j c ⟨e,he,_⟩;simp at he,ya,c,rfl,?_⟩
  cases ya with
  |none=>exact .inl ⟨rfl,rfl⟩
  |some ay=>exact .inr ⟨ay,rfl,by simp⟩
 |cons _ b o _ _ h1 h2 h3 h4 h5 h6=>
  refine⟨h4,h6,_,c,rfl,.inr ⟨_,rfl,fun j u hj=>?_⟩⟩
  rw[List.getElem?_map] at hj
  cases hf:py.flatten[j]? with
  |none=>rw[hf] at hj;cases hj
  |some pc=>
   rw[hf] at hj
   simp at hj
   subst hj
   obtain⟨k',j',mC,rfl⟩:=Li h3 h4 hf
   rw[nP,<-Nat.add_assoc]
   exact h5 k' j' pc mC
theorem R.aaC (r:R B E w0 N σ a w G) {σ2:St} (xK:σ2.env=σ.env) (lO:σ2.used=σ.used) (H:HR B E w G σ2.h σ.used []) (K:aY w G σ.h (fun n=>σ.used n=true) w G σ2.h)
  {n:Nat} {sz by_:Nat} {m m2:Mode} {px py:List (List PC)} {v yv:Value} (hn:σ.used n=false) (jf:0<sz) (F:ly B E w G σ2.h sz m2 (px++py)) (gk:∀e∈px,e.length=sz) (L:w6 B E w G σ2.h sz m px v) (Ry:vb w sz py yv)
  (MU:∀b,aV b py->∀b' o cap,0<cap->v=.slice (some (ad b' o)) px.length cap->oJ G σ2.h b'->b≠b')
  {t e:TypeId} {i:TypeInfo} {z:Value} {ty:TypeId} (ht:P.underlying t=some (.slice e)) (hi:P.info? e=some i) (hz:i.zero=some z) (bG:i.size=sz) (pV:i.bytes=by_) (xH:0<by_) (rj:z.cells.size=sz)
  (hb:(px.length+py.length)*by_<=eZ):
  ∃u w' G',(Builtin.append_ #[t,t] ty #[v,yv]).run P w=.ok u w'/\
   R B E w0 N {σ2 with h:=av σ2.h n (some (.row true m2 sz ((px++py).map fun e=>e.map PC.er))),used:=av σ2.used n true} a w' G'/\
   RA w' G' (av σ2.h n (some (.row true m2 sz ((px++py).map fun e=>e.map PC.er)))) (.one (.sl n sz 0 (px.length+py.length))) u:=by
 obtain⟨r1,r2,ya,c,rfl,r3⟩:=Ry
 have aO:(py.flatten.map PC.val).length=py.length*sz:=Lj r1
 have h1:∀u∈py.flatten.map PC.val,u.oneCell'=true:=fun u hu=>by obtain⟨pc,_,rfl⟩:=List.mem_map.1 hu;exact PC.kI pc
 have hB:=r.fr.size
 have V9:(px++py).length=px.length+py.length:=by simp
 have Mw:σ2.h n=none:=by
  cases hh:σ2.h n with
  |none=>rfl
  |some b=>have:=H.jb n (by rw[hh];simp);rw[hn] at this;cases this
 have ne:∀q,σ.used q=true->q≠n:=fun q hq e=>by subst e;rw[hn] at hq;cases hq
 have aC:∀q,σ2.h q≠none->q≠n:=fun q hq e=>by subst e;exact hq Mw
 rcases aj0 (P:=P) w (ty:=ty) ht hi hz bG jf pV xH gk L aO r3 h1 hb with⟨a0,k0,rfl,rfl,bo⟩|⟨b,ob,cap,cur,e',rfl,b2,b3,b4,b5,b6,b7,b8,b9,bo⟩|⟨cap,arr,c1,c2,c3,c4,bo⟩
 ·
  have hpy:py=[]:=List.eq_nil_of_length_eq_zero k0
  subst hpy
  refine⟨_,w,⟨G.Im,av G.g n ⟨true,0,0,0,[],a0⟩⟩,bo,?_,?_⟩
  ·refine r.step (σ':=_) xK (fun q hq=>by show av σ2.used n true q=true;rw[lO];exact qI n q hq) (aY.trans (u2:=fun n=>σ.used n=true) (fun _ h=>h) K (aY.insert H (blk:=.row true m2 sz []) (p:=⟨true,0,0,0,[],a0⟩) hn (fun _ _=>rfl))) ?_ r.fr
   show HR B E w _ (av σ2.h n (some (.row true m2 sz []))) (av σ2.used n true) []
   rw[lO]
   have ct:∀b,¬aV b ([]:List (List PC)):=by rintro b ⟨k,j,c,⟨e,he,_⟩,_⟩;simp at he
   refine H.insert (p:=⟨true,0,0,0,[],a0⟩) hn (fun _ _=>rfl) (Nat.le_refl _) (fun h=>by cases h) (fun cs c m hb=>by cases hb) ⟨jf,rfl,fun _=>⟨rfl,fun _=>rfl⟩,(fun h=>by cases h),(fun h=>by cases h),?_⟩
    (fun gr m sz xs _ _ n' bi m' aK ar _ _ b hb=>absurd hb (ct b)) (fun gr sz xs _ b hb=>absurd hb (ct b)) (fun gr m sz xs _ _ i pc b hi=>by simp at hi)
   have hm:=F.mode
   simp only[List.append_nil] at hm
   exact hm
  ·refine RA.gp rfl fun _=>.inl ?_
   simp[bD]
 ·
  have Hu:(ob+px.length*sz)+(py.flatten.map PC.val).length<=cur.size:=by rw[aO,b3,Nat.add_assoc,<-Nat.add_mul];exact Nat.add_le_add_left (Nat.mul_le_mul_right _ b5) _
  let w2:=eE w b (ob+px.length*sz) (py.flatten.map PC.val) cur
  have eP:∀x,x≠b->w2.heap[x]? =w.heap[x]? :=fun x hx=>yN x hx
  have Hc:∀x,G.Im x->x≠b:=fun x hx he=>b7.1 (he▸hx)
  have t9:∀x,dr w x->dr w2 x:=fun x hx=>Jx b2 Hu x hx
  have Wb:∀x,aV x (px++py)->x≠b:=fun x hx=>(uG hx).elim (b9 x) (fun h=>MU x h b ob cap (by obtain⟨k,j,c,⟨e,he,_⟩,_⟩:=h;have:=(List.getElem?_eq_some_iff.1 he).1;omega) rfl b7)
  let p:PB:=⟨false,b,ob,cap,px++py,none⟩
  have K2:aY w G σ2.h (fun n=>σ.used n=true) w2 ⟨G.Im,av G.g n p⟩ (av σ2.h n (some (.row true m2 sz ((px++py).map fun e=>e.map PC.er)))):=by
   refine⟨fun _ h=>h,fun x hx o=>iE (eP x (Hc x hx)) o,fun q hq h0=>?_,fun q gr aK ar hq h0=>?_⟩
   ·rw[cd _ _ _ _ (ne q hq)] at h0
    simp only[cd _ _ _ _ (ne q hq)]
    exact⟨h0,trivial,trivial,trivial,trivial,trivial⟩
   ·rw[cd _ _ _ _ (ne q hq)] at h0
    simp only[cd _ _ _ _ (ne q hq)]
    exact⟨⟨gr,ar,h0⟩,fun k j pc h1 h2=>⟨pc,h1,rfl,h2⟩⟩
  have adK:b<w.heap.size:=(Array.getElem?_eq_some_iff.1 b2).1
  have Hn:HR B E w2 ⟨G.Im,av G.g n p⟩ (av σ2.h n (some (.row true m2 sz ((px++py).map fun e=>e.map PC.er)))) (av σ.used n true) []:=by
   refine H.put (p:=p) (fun x _ hx=>eP x (hx rfl)) (by show w.heap.size<=w2.heap.size;rw[qJ];exact Nat.le_refl _) (fun x _ hx=>t9 x hx) (fun q hq=>qI n q hq) (bD _ _ _)
    (fun _=>⟨b7.1,b8,by show b<w2.heap.size;rw[qJ];exact adK⟩) (fun _ q hq h0 hl=>b7.2.1 q h0 hl) (fun _ q gr aK ar hq h0 x hx he=>b7.2.2 q gr .live aK ar h0 (by have Hk:x=b:=he;rw[<-Hk];exact hx))
    (fun cs c q hb=>by cases hb) K2 ?_ ?_ ?_ (fun gr m sz xs _ _ i pc b hi=>by simp at hi) (fun _ _ x hx he=>by obtain⟨q,gr,mo,aK,ar,_,h0,hxF⟩:=hx;exact b7.2.2 q gr mo aK ar h0 (by have Hk:x=b:=he;rw[<-Hk];exact hxF))
   ·refine⟨jf,rfl,(fun h=>by cases h),fun _=>⟨t9 b ⟨cur,e',b2⟩,⟨F.len,fun k j c hk=>?_,fun k j c hk=>?_⟩,by show(px++py).length<=cap;rw[V9];exact b5⟩,fun _ _=>?_,?_⟩
    ·show w2.cell? (ad b (ob+k*sz+j))=some c.val
     rw[BJ b2 Hu]
     have hf:=tt F.len hk
     rw[List.flatten_append] at hf
     have jA:px.flatten.length=px.length*sz:=by have:=Lj gk;rwa[List.length_map] at this
     rcases vf hk with⟨zT,da⟩|⟨zT,da⟩
     ·rw[if_neg ?_]
      ·exact b6.2.1 k j c da
      ·rintro⟨q1,_⟩
       have hj:j<sz:=by obtain⟨e1,he,hj⟩:=da;rw[<-gk e1 (List.mem_of_getElem? he)];exact(List.getElem?_eq_some_iff.1 hj).1
       have:(k+1)*sz<=px.length*sz:=Nat.mul_le_mul_right _ zT
       rw[Nat.add_mul] at this
       omega
     ·have CL:px.length*sz<=k*sz+j:=Nat.le_trans (Nat.mul_le_mul_right _ zT) (Nat.le_add_right _ _)
      have bX:=(List.getElem?_eq_some_iff.1 hf).1
      rw[List.length_append,jA] at bX
      rw[List.getElem?_append_right (by rw[jA];exact CL),jA] at hf
      rw[if_pos ⟨by omega,by simp only[List.length_map];omega⟩]
      rw[List.getElem?_map,show ob+k*sz+j - (ob+px.length*sz)=k*sz+j - px.length*sz by omega,hf]
      rfl
    ·exact(F.dV k j c hk).congr fun x hx o=>iE (eP x (Wb x ⟨k,j,c,hk,hx⟩)) o
    ·obtain⟨jw,q1,q2⟩:=Jw (vs:=py.flatten.map PC.val) (o:=ob+px.length*sz) b2 Hu
     exact⟨b4,jw,e',q1,by rw[q2,b3]⟩
    ·have hm:=F.mode
     cases m2 with
     |aF=>exact hm
     |aa=>exact⟨fun x hx=>⟨(hm.1 x hx).1,t9 x (hm.1 x hx).2.1,(hm.1 x hx).2.2⟩,hm.2⟩
     |live=>exact⟨fun x hx=>⟨(hm.1 x hx).1,t9 x (hm.1 x hx).2.1,(hm.1 x hx).2.2⟩,hm.2⟩
   ·intro gr m' aK ar hb g9 q bi mo kG il fm h0 jd x hx
    injection hb with _ hb _ _
    subst hb
    exact F.fy g9 q bi mo kG il h0 jd x hx
   ·intro gr aK ar hb x hx
    injection hb with _ hb _ _
    exact⟨fun _=>Wb x hx,fun q _ h0 hl=>F.live hb x hx q h0 hl⟩
  refine⟨_,w2,⟨G.Im,av G.g n p⟩,bo,?_,?_⟩
  ·exact r.step (σ':=_) xK (fun q hq=>by show av σ2.used n true q=true;rw[lO];exact qI n q hq) (aY.trans (u2:=fun n=>σ.used n=true) (fun _ h=>h) K K2)
    (by show HR B E w2 _ _ (av σ2.used n true) [];rw[lO];exact Hn) (r.fr.one b8 (fun x hx Ng=>eP x Ng) (by show w.heap.size<=w2.heap.size;rw[qJ];exact Nat.le_refl _) (BK b2 Hu) rfl rfl rfl)
  ·refine RA.gp rfl fun _=>.inr ⟨by simp[bD,p],some (ad b ob),?_,?_,?_⟩
   ·simp[bD,p]
   ·simp[bD,p];exact b5
   ·simp[bD,p]
 ·
  let w1:=w.drew
  have hd:∀x:Nat,x<w.heap.size->(w.drew.alloc (.cells arr e)).heap[x]? =w.heap[x]? :=fun x hx=>heap_alloc_old w.drew _ x hx
  have H1:HR B E w.drew G σ2.h σ.used []:=H.grow (w':=w.drew) (fun _ _=>rfl) (Nat.le_refl _)
  have r1:R B E w0 N σ a w.drew G:=r.step (w':=w.drew) rfl (fun _ h=>h) (aY.world (w:=w) (w':=w.drew) (fun _ _=>rfl) _) (r.hr.grow (w':=w.drew) (fun _ _=>rfl) (Nat.le_refl _)) (r.fr.grow (w':=w.drew) (fun _ _=>rfl) (Nat.le_refl _) rfl rfl rfl)
  have K1:aY w.drew G σ.h (fun n=>σ.used n=true) w.drew G σ2.h:=⟨K.im,fun _ _ _=>rfl,K.name,K.live⟩
  have gJ:∀k j c,At (px++py) k j c->Good w.drew c:=fun k j c hk=>(F.dV k j c hk).congr fun _ _ _=>rfl
  have tK:∀k j c,At (px++py) k j c->arr[k*sz+j]? =some c.val:=fun k j c hk=>by
   have hf:=tt F.len hk
   refine c4 _ _ ?_
   rw[<-List.map_append,<-List.flatten_append,List.getElem?_map,hf]
   rfl
  have tZ:arr.size=cap*sz:=by rw[c3,rj];omega
  have hB2:=r1.fr.size
  let p:PB:=⟨false,w.heap.size,0,cap,px++py,none⟩
  have hw:∀x:Nat,x<w.drew.heap.size->(w.drew.alloc (.cells arr e)).heap[x]? =w.drew.heap[x]? :=hd
  have Hn:HR B E (w.drew.alloc (.cells arr e)) ⟨G.Im,av G.g n p⟩ (av σ2.h n (some (.row true m2 sz ((px++py).map fun e=>e.map PC.er)))) (av σ.used n true) []:=by
   refine H1.insert (p:=p) hn hw (by simp) (fun _=>⟨H1.Od,.inl hB,by simp[p]⟩) (fun cs c m hb=>by cases hb) ?_ ?_ ?_ (fun gr m sz xs _ _ i pc b hi=>by simp at hi)
   ·refine⟨jf,rfl,(fun h=>by cases h),fun _=>⟨dr.alloc _ _ _,⟨F.len,fun k j c hk=>?_,fun k j c hk=>?_⟩,by show(px++py).length<=cap;rw[V9];exact c1⟩,fun _ _=>⟨c2,arr,e,heap_alloc_new w.drew _,(Nat.zero_add _).symm▸tZ⟩,?_⟩
    ·show(w.drew.alloc (.cells arr e)).cell? (ad w.drew.heap.size (0+k*sz+j))=some c.val
     simp only[Nat.zero_add]
     unfold ad
     rw[World.cell?_alloc_new]
     exact tK k j c hk
    ·exact(gJ k j c hk).congr fun x hx o=>iE (hw x ((gJ k j c hk).lt hx)) o
    ·have hm:=F.mode
     have hu:∀x,dr w x->dr (w.drew.alloc (.cells arr e)) x:=fun x hx=>hx.congr (hd x hx.lt)
     cases m2 with
     |aF=>exact hm
     |aa=>exact⟨fun x hx=>⟨(hm.1 x hx).1,hu x (hm.1 x hx).2.1,(hm.1 x hx).2.2⟩,hm.2⟩
     |live=>exact⟨fun x hx=>⟨(hm.1 x hx).1,hu x (hm.1 x hx).2.1,(hm.1 x hx).2.2⟩,hm.2⟩
   ·intro gr m' aK ar hb g9 q bi mo kG il h0 jd x hx
    injection hb with _ hb _ _
    subst hb
    exact F.fy g9 q bi mo kG il h0 jd x hx
   ·intro gr aK ar hb x hx
    injection hb with _ hb _ _
    refine⟨fun _=>?_,fun q h0 hl=>F.live hb x hx q h0 hl⟩
    obtain⟨k,j,c,hk,hxc⟩:=hx
    have:=(F.dV k j c hk).lt hxc
    show x≠w.heap.size
    omega
  refine⟨_,_,⟨G.Im,av G.g n p⟩,bo,?_,?_⟩
  ·exact r1.step (σ':=_) xK (fun q hq=>by show av σ2.used n true q=true;rw[lO];exact qI n q hq) (aY.trans (u2:=fun n=>σ.used n=true) (fun _ h=>h) K1 (aY.insert H1 hn hw))
    (by show HR B E _ _ _ (av σ2.used n true) [];rw[lO];exact Hn) (r1.fr.grow hw (by simp) rfl rfl rfl)
  ·refine RA.gp rfl fun _=>.inr ⟨by simp[bD,p],some (ad w.heap.size 0),?_,?_,?_⟩
   ·simp[bD,p]
   ·simp[bD,p];exact c1
   ·simp[bD,p]
theorem age (r:R B E w0 N σ a w G) {sz:Nat} {x:aj} {v:Value} {xs:List (List C)} {m:Mode} {σ1:St} (hv:RA w G σ.h x v) (hx:pJ σ sz x=some (xs,m,σ1)):
  ∃px:List (List PC),xs=px.map (fun e=>e.map PC.er)/\ly B E w G σ1.h sz m px/\w6 B E w G σ1.h sz m px v/\HR B E w G σ1.h σ.used []/\aY w G σ.h (fun n=>σ.used n=true) w G σ1.h/\σ1.env=σ.env/\σ1.used=σ.used/\
   (∀n b,σ1.h n=some b->σ.h n=some b):=by
 unfold pJ at hx
 split at hx
 ·rename_i s
  injection hx with hx
  injection hx with h1 h2
  injection h2 with h2 h3
  subst h1 h2 h3
  have fJ:v=.slice none 0 0:=(hv.fv (by simp)).1
  have ct:∀b,¬aV b ([]:List (List PC)):=by rintro b ⟨k,j,c,⟨e,he,_⟩,_⟩;simp at he
  exact⟨[],rfl,⟨by simp,by rintro k j c ⟨e,he,_⟩;simp at he,⟨fun b hb=>absurd hb (ct b),(by rintro k j c ⟨e,he,_⟩;simp at he),(by rintro k j c k' j' c' b ⟨e,he,_⟩;simp at he)⟩,fun _ _ _ _ _ _ _ _ b hb=>absurd hb (ct b),fun _ b hb=>absurd hb (ct b)⟩,
   .inl ⟨none,fJ,rfl⟩,r.hr,aY.refl _ _ _ _,rfl,rfl,fun _ _ h=>h⟩
 ·rename_i n s len
  split at hx
  ·rename_i m0 rs kL hn
   split at hx
   ·rename_i hc
    obtain⟨rfl,rfl,rfl⟩:=hc
    injection hx with hx
    injection hx with h1 h2
    injection h2 with h2 h3
    subst h1 h2 h3
    have H:=r.hr
    have bN:σ.h n≠none:=by rw[hn];simp
    have hr:=H.row n true m0 s kL hn
    have gL:jR (G.g n) s 0 kL.length v:=(hv.fv (by simp)).1 bN
    have qb:kL.length=(G.g n).px.length:=by rw[hr.er];simp
    refine⟨(G.g n).px,hr.er,ly.PE H hn,?_,H.del n,aY.del n _,rfl,rfl,fun q b hq=>(pL hq).1⟩
    rcases gL with⟨aO,fJ,_,_⟩|⟨aO,a',fJ,kl,ha⟩
    ·have g2:=(hr.nl aO).2 rfl
     exact .inl ⟨(G.g n).na,by rw[fJ,g2],(hr.nl aO).1⟩
    ·right
     obtain⟨r2,cur,e,r3,r4⟩:=hr.room aO rfl
     obtain⟨l1,l2,l3⟩:=hr.dE aO
     obtain⟨o1,o2,o3⟩:=H.own n bN aO
     have sj:=ha (.inr rfl)
     refine⟨(G.g n).b,(G.g n).o,(G.g n).cap,cur,e,?_,r3,r4,r2,l3,l2,⟨o1,fun q hq hl=>?_,fun q gr m' aK ar hq hb=>?_⟩,o2,fun b hb=>H.se bN aO hn hb⟩
     ·rw[fJ,sj,qb];simp
     ·obtain⟨q1,q2⟩:=zz hq
      exact H.inj q n q1 bN q2 hl aO
     ·exact H.se bN aO (pL hq).1 hb rfl
   ·cases hx
  ·cases hx
 ·cases hx
theorem ajM {fl:Bool} {sz:Nat} {x:aj} {v:Value} {ys:List (List C)} {m m2:Mode} {σ1 σ2:St} {px:List (List PC)} (jf:0<sz) (H:HR B E w G σ1.h σ1.used []) (F:ly B E w G σ1.h sz m px) (hv:RA w G σ1.h x v)
  (hx:lB fl σ1 sz m x=some (ys,m2,σ2)):
  ∃py:List (List PC),ys=py.map (fun e=>e.map PC.er)/\vb w sz py v/\ly B E w G σ2.h sz m2 (px++py)/\HR B E w G σ2.h σ1.used []/\aY w G σ1.h (fun n=>σ1.used n=true) w G σ2.h/\σ2.env=σ1.env/\σ2.used=σ1.used/\
   (∀n b,σ2.h n=some b->σ1.h n=some b)/\(∀b,aV b py->∀b',¬G.Im b'->(∀q gr mo aK ar,σ1.h q=some (.row gr mo aK ar)->¬aV b' (G.g q).px)->b≠b'):=by
 unfold lB at hx
 have ad9:∀b,¬aV b ([]:List (List PC)):=by rintro b ⟨k,j,c,⟨e,he,_⟩,_⟩;simp at he
 split at hx
 ·rename_i s
  injection hx with hx
  injection hx with h1 h2
  injection h2 with h2 h3
  subst h1 h2 h3
  have fJ:v=.slice none 0 0:=(hv.fv (by simp)).1
  subst fJ
  exact⟨[],rfl,⟨by simp,by rintro k j c ⟨e,he,_⟩;simp at he,none,0,rfl,.inl ⟨rfl,rfl⟩⟩,by simpa using F,H,aY.refl _ _ _ _,rfl,rfl,fun _ _ h=>h,fun b hb=>absurd hb (ad9 b)⟩
 ·rename_i s uT
  split at hx
  ·rename_i hs
   subst hs
   obtain⟨pc,e1,e2,e3,e4⟩:=hv.c
   have bd:∃ya c py,pc=.list s ya c py/\py.map (fun e=>e.map PC.er)=uT:=by
    cases pc with
    |int k n=>simp[PC.er] at e1
    |bool b=>simp[PC.er] at e1
    |list s' ya c py=>rw[PC.dw] at e1;injection e1 with e1 e5;subst e1;exact⟨ya,c,py,rfl,e5⟩
   obtain⟨ya,c,py,rfl,e5⟩:=bd
   have hR:vb w s py v:=by rw[<-e2];exact vb.Ya e3
   have mB:∀b,aV b py->G.Im b:=fun b ⟨k,j,c,hk,hb⟩=>e4 b (.there _ _ _ _ k j c hk hb)
   have oV:∀b,aV b py->∀b',¬G.Im b'->(∀q gr mo aK ar,σ1.h q=some (.row gr mo aK ar)->¬aV b' (G.g q).px)->b≠b':=fun b hb b' aX _ he=>aX (he▸mB b hb)
   split at hx
   ·rename_i sx
    injection hx with hx
    injection hx with h1 h2
    injection h2 with h2 h3
    subst h1 h2 h3
    replace sx:=(Bool.and_eq_true _ _▸sx).2
    rw[<-e5] at sx
    exact⟨py,e5.symm,hR,F.TX hR.1 hR.2.1 (Bg sx),H,aY.refl _ _ _ _,rfl,rfl,fun _ _ h=>h,oV⟩
   ·split at hx
    ·cases hx
    ·rename_i sq
     injection hx with hx
     injection hx with h1 h2
     injection h2 with h2 h3
     subst h1 h2 h3
     refine⟨py,e5.symm,hR,⟨fun e he=>(List.mem_append.1 he).elim (F.len e) (hR.1 e),fun k j c hk=>?_,fun b hb=>(uG hb).elim (F.Te sq b) (mB b),fun h=>absurd rfl h,fun h=>by cases h⟩,H,aY.refl _ _ _ _,rfl,rfl,fun _ _ h=>h,oV⟩
     rcases vf hk with⟨_,h⟩|⟨_,h⟩
     ·exact F.dV _ _ _ h
     ·exact hR.2.1 _ _ _ h
  ·cases hx
 ·rename_i n s lo len
  split at hx
  ·rename_i gr m' rs uT hn
   split at hx
   ·rename_i hc
    obtain⟨rfl,rfl,hl⟩:=hc
    have bN:σ1.h n≠none:=by rw[hn];simp
    have hr:=H.row n gr m' s uT hn
    have gL:jR (G.g n) s lo len v:=(hv.fv (by simp)).1 bN
    obtain⟨q1,q2,q3,q4⟩:=D5 hr gL hl
    have Mz:∃ya c,kF (G.g n) s lo len v=.list s ya c (((G.g n).px.drop lo).take len):=by
     rcases gL with⟨_,rfl,_,_⟩|⟨_,a',rfl,_,_⟩<;>exact⟨_,_,rfl⟩
    obtain⟨ya,c,Mz⟩:=Mz
    rw[Mz] at q1 q2 q3 q4
    have hR:vb w s (((G.g n).px.drop lo).take len) v:=by rw[<-q2];exact vb.Ya q3
    have rh:(uT.drop lo).take len=(((G.g n).px.drop lo).take len).map (fun e=>e.map PC.er):=by rw[PC.dw] at q1;injection q1 with _ q1;exact q1.symm
    have oV:∀b,aV b (((G.g n).px.drop lo).take len)->∀b',¬G.Im b'->(∀q gr mo aK ar,σ1.h q=some (.row gr mo aK ar)->¬aV b' (G.g q).px)->b≠b':=by
     rintro b ⟨k,j,c,hk,hb⟩ b' _ aX rfl
     exact aX n gr m' s uT hn ⟨_,_,_,(oN hk).1,hb⟩
    split at hx
    ·rename_i sx
     injection hx with hx
     injection hx with h1 h2
     injection h2 with h2 h3
     subst h1 h2 h3
     have Wm:=(Bool.and_eq_true _ _▸sx).2
     rw[rh] at Wm
     exact⟨_,rh,hR,F.TX hR.1 hR.2.1 (Bg Wm),H,aY.refl _ _ _ _,rfl,rfl,fun _ _ h=>h,oV⟩
    ·split at hx
     ·rename_i adU
      obtain⟨rfl,rfl⟩:=adU
      have fz:((G.g n).px.drop 0).take uT.length=(G.g n).px:=by
       have:uT.length=(G.g n).px.length:=by rw[hr.er];simp
       rw[this];simp
      rw[fz] at hR oV
      have F2:=ly.PE H hn
      have F1:=F.del n
      have gJ:∀k j c,At (px++(G.g n).px) k j c->Good w c:=fun k j c hk=>by
       rcases vf hk with⟨_,h⟩|⟨_,h⟩
       ·exact F.dV _ _ _ h
       ·exact F2.dV _ _ _ h
      have hlen:∀e∈px++(G.g n).px,e.length=s:=fun e he=>(List.mem_append.1 he).elim (F.len e) (F2.len e)
      split at hx
      ·rename_i cU
       subst cU
       injection hx with hx
       injection hx with h1 h2
       injection h2 with h2 h3
       subst h1 h2 h3
       refine⟨(G.g n).px,hr.er,hR,⟨hlen,gJ,?_,fun hm q bi mo aK ar hq jd b hb=>?_,fun hm b hb q hq hl=>?_⟩,H.del n,aY.del n _,rfl,rfl,fun q b hq=>(pL hq).1,oV⟩
       ·have m1:=F.mode
        have m3:=F2.mode
        cases m with
        |aF=>exact fun b hb=>(uG hb).elim (m1 b) (m3 b)
        |aa=>exact⟨fun b hb=>(uG hb).elim (m1.1 b) (m3.1 b),IG m1.2 m3.2 (fun b hb=>F.fy (by simp) n gr .aa s uT hn (by simp) b hb)⟩
        |live=>exact⟨fun b hb=>(uG hb).elim (m1.1 b) (m3.1 b),IG m1.2 m3.2 (fun b hb=>F.fy (by simp) n gr .live s uT hn (by simp) b hb)⟩
       ·exact(uG hb).elim (F1.fy hm q bi mo aK ar hq jd b) (F2.fy hm q bi mo aK ar hq jd b)
       ·exact(uG hb).elim (fun h=>F1.live hm b h q hq hl) (fun h=>F2.live hm b h q hq hl)
      ·split at hx
       ·cases hx
       ·rename_i aO
        injection hx with hx
        injection hx with h1 h2
        injection h2 with h2 h3
        subst h1 h2 h3
        refine⟨(G.g n).px,hr.er,hR,⟨hlen,gJ,fun b hb=>(uG hb).elim (F.Te (fun h=>aO (.inl h)) b) (F2.Te (fun h=>aO (.inr h)) b),fun h=>absurd rfl h,fun h=>by cases h⟩,H.del n,aY.del n _,rfl,rfl,fun q b hq=>(pL hq).1,oV⟩
     ·cases hx
   ·cases hx
  ·cases hx
 ·cases hx
theorem abF (r:R B E w0 N σ a w G) {n:Nat} {t e:TypeId} {i:TypeInfo} {z:Value} {x y:Operand} {mx my:MO} {fl:Bool} {sz by_:Nat} {xs ys:List (List C)} {m m2:Mode} {σ1 σ2 gF:St}
  (ho:o.op=.call {callee:=.builtin .append,args:=#[x,y],argTypes:=#[t,t]}) (hd:o.dst=some n) (hN:n<N) (jc:bx x mx=true) (iF:bx y my=true)
  (ht:P.underlying t=some (.slice e)) (hi:P.info? e=some i) (hz:i.zero=some z) (bG:i.size=sz) (jf:0<sz) (pV:i.bytes=by_) (xH:0<by_) (rj:z.cells.size=sz)
  (hl:pJ σ sz (σ.ev mx)=some (xs,m,σ1)) (hr:lB fl σ1 sz m (σ.ev my)=some (ys,m2,σ2)) (hb:(xs.length+ys.length)*by_<=eZ)
  (hx:σ2.ins n (.row true m2 sz (xs++ys))=some gF):
  o.wp P a w (Nx B E w0 N (gF.put o.dst (.one (.sl n sz 0 (xs.length+ys.length))))) Q:=by
 obtain⟨hn,rfl⟩:=mJ hx
 obtain⟨x1,x2⟩:=r.ev jc
 obtain⟨y1,y2⟩:=r.ev iF
 obtain⟨px,e1,F1,L1,H1,K1,q1,q2,q3⟩:=age r x1 hl
 have y1':RA w G σ1.h (σ.ev my) (a.eval y):=y1.eV K1 y2
 rw[<-q2] at H1
 obtain⟨py,e2,R2,F2,H2,K2,p1,p2,p3,oV⟩:=ajM jf H1 F1 y1' hr
 rw[q2] at H2
 have qb:xs.length=px.length:=by rw[e1];simp
 have Ab:ys.length=py.length:=by rw[e2];simp
 have L2:w6 B E w G σ2.h sz m px (a.eval x):=by
  rcases L1 with h|⟨b,o,cap,cur,e',b1,b2,b3,b4,b5,b6,⟨l1,l2,l3⟩,b8,b9⟩
  ·exact .inl h
  ·refine .inr ⟨b,o,cap,cur,e',b1,b2,b3,b4,b5,b6,⟨l1,fun q hq=>?_,fun q gr mo aK ar hq=>l3 q gr mo aK ar (p3 q _ hq)⟩,b8,b9⟩
   cases hh:σ2.h q with
   |none=>exact absurd hh hq
   |some bb=>exact l2 q (by rw[p3 q bb hh];simp)
 obtain⟨u,w',G',bo,r',hv⟩:=r.aaC (P:=P) (σ2:=σ2) (n:=n) (m:=m) (m2:=m2) (px:=px) (py:=py) (ty:=o.type) (p1.trans q1) (p2.trans q2) H2 (aY.trans (u2:=fun n=>σ1.used n=true) (fun q hq=>by rw[q2];exact hq) K1 K2)
  (by rw[<-q2,<-p2];exact hn) jf F2 F1.len L2 R2 (fun b cl b' o' cap ew ua Wa=>by
   rcases L1 with⟨_,h,_⟩|⟨b0,o0,vh,cur,e',b1,b2,b3,b4,b5,b6,⟨l1,l2,l3⟩,b8,b9⟩
   ·rw[h] at ua;injection ua with _ _ ua;omega
   ·rw[b1] at ua
    injection ua with ua
    injection ua with ua
    have zN:=(nQ ua).1
    subst zN
    exact oV b cl b0 l1 l3) ht hi hz bG pV xH rj (by rw[<-qb,<-Ab];exact hb)
 have MR:(px++py).map (fun e=>e.map PC.er)=xs++ys:=by rw[List.map_append,<-e1,<-e2]
 rw[MR] at r' hv
 rw[<-qb,<-Ab] at hv
 refine nK (v:=u) (w':=w') ?_ ⟨G',r'.put hv (fun q hq=>by have dW:q=n:=hq;subst dW;exact bD _ _ _) (fun q hq=>by rw[hd] at hq;injection hq with hq;omega)⟩
 simp[execOp,ho,resolve,invoke,builtin,bo]
end
end Go.Am
