/- Am14: append. No condition. -/
import Derived.Test.YtifmggmhdcdgbaaAm13
set_option linter.unusedVariables false
namespace Go.Am
theorem uH {α:Type} {px py:List (List α)} {k j:Nat} {c:α} (h:At (px++py) k j c):(k<px.length/\At px k j c)\/(px.length<=k/\At py (k - px.length) j c):=by
 obtain⟨e,he,hj⟩:=h
 rcases Nat.lt_or_ge k px.length with hk|hk
 ·rw[List.getElem?_append_left hk] at he;exact .inl ⟨hk,e,he,hj⟩
 ·rw[List.getElem?_append_right hk] at he;exact .inr ⟨hk,e,he,hj⟩
theorem t8 {b:Nat} {px py:List (List PC)} (h:aP b (px++py)):aP b px\/aP b py:=by
 obtain⟨k,j,c,hk,hb⟩:=h
 rcases uH hk with⟨_,h1⟩|⟨_,h1⟩
 ·exact .inl ⟨_,_,_,h1,hb⟩
 ·exact .inr ⟨_,_,_,h1,hb⟩
theorem Iq {px py:List (List PC)} (h1:gS px) (h2:gS py) (h3:∀b,aP b px->¬aP b py):gS (px++py):=by
 refine⟨fun k j c hk=>?_,fun k j c k' j' c' b hk cW aw hb aR=>?_⟩
 ·rcases uH hk with⟨_,h⟩|⟨_,h⟩
  ·exact h1.1 _ _ _ h
  ·exact h2.1 _ _ _ h
 ·rcases uH hk with⟨q,h⟩|⟨q,h⟩<;>rcases uH cW with⟨q',h'⟩|⟨q',h'⟩
  ·exact h1.2 _ _ _ _ _ _ b h h' aw hb aR
  ·exact h3 b ⟨_,_,_,h,hb⟩ ⟨_,_,_,h',aR⟩
  ·exact h3 b ⟨_,_,_,h',aR⟩ ⟨_,_,_,h,hb⟩
  ·refine h2.2 _ _ _ _ _ _ b h h' (fun e=>aw ?_) hb aR
   injection e with e1 e2
   rw[show k=k' by omega,e2]
section
variable {B:Nat} {E:Ex} {w0 w w':World} {G G':Gh} {h h':Nat->Option aq} {used used':Nat->Bool} {tk:List PC} {N:Nat}
variable {P:Program} {o:Oper} {a:Act} {σ σ':St} {Q:Exit->Act->World->Prop}
theorem Bf {py:List (List PC)} (hs:fB (py.map fun e=>e.map PC.er)=true) (b:Nat):¬aP b py:=by
 rintro⟨k,j,c,⟨e,he,hj⟩,hb⟩
 have h1:e.map PC.er∈py.map fun e=>e.map PC.er:=List.mem_map_of_mem (f:=fun e=>e.map PC.er) (List.mem_of_getElem? he)
 have h2:=List.all_eq_true.1 hs _ h1
 have h3:=List.all_eq_true.1 h2 c.er (List.mem_map_of_mem (List.mem_of_getElem? hj))
 exact(Sep.kA (pc:=c) h3).2 b hb
structure kM (B:Nat) (E:Ex) (w:World) (G:Gh) (h:Nat->Option aq) (sz:Nat) (m:Mode) (px:List (List PC)):Prop where
 len:∀e∈px,e.length=sz
 ek:∀k j c,At px k j c->Good w c
 mode:BP B E w G px m
 fi:m≠ .aA->∀n gr m' aG ar,h n=some (.row gr m' aG ar)->m'≠ .aA->∀b,aP b px->¬aP b (G.g n).px
 live:m=.live->∀b,aP b px->∀n,h n≠none->(G.g n).nl=false->b≠(G.g n).b
theorem kM.Tc {m:Mode} {sz:Nat} {px py:List (List PC)} (F:kM B E w G h sz m px) (hl:∀e∈py,e.length=sz) (hg:∀k j c,At py k j c->Good w c) (cf:∀b,¬aP b py):kM B E w G h sz m (px++py):=by
 have eO:∀b,aP b (px++py)->aP b px:=fun b hb=>(t8 hb).resolve_right (cf b)
 refine⟨fun e he=>(List.mem_append.1 he).elim (F.len e) (hl e),fun k j c hk=>?_,?_,fun hm n gr m' aG ar hn bI b hb=>F.fi hm n gr m' aG ar hn bI b (eO b hb),fun hm b hb=>F.live hm b (eO b hb)⟩
 ·rcases uH hk with⟨_,h⟩|⟨_,h⟩
  ·exact F.ek _ _ _ h
  ·exact hg _ _ _ h
 ·have jO:gS py:=⟨fun k j c hk=>Sep.DD (fun b hb=>cf b ⟨k,j,c,hk,hb⟩) (hg k j c hk),fun k j c k' j' c' b hk _ _ hb=>absurd ⟨k,j,c,hk,hb⟩ (cf b)⟩
  have hm:=F.mode
  cases m with
  |aA=>exact fun b hb=>hm b (eO b hb)
  |ae=>exact⟨fun b hb=>hm.1 b (eO b hb),Iq hm.2 jO (fun b _=>cf b)⟩
  |live=>exact⟨fun b hb=>hm.1 b (eO b hb),Iq hm.2 jO (fun b _=>cf b)⟩
theorem kM.Po (H:HR B E w G h used []) {n:Nat} {gr:Bool} {m:Mode} {sz:Nat} {xs:List (List C)} (hn:h n=some (.row gr m sz xs)):kM B E w G (au h n none) sz m (G.g n).px:=by
 have hr:=H.row n gr m sz xs hn
 have aK:(G.g n).px≠[]->(G.g n).nl=false:=fun aw=>by
  cases hq:(G.g n).nl with
  |false=>rfl
  |true=>exact absurd (hr.nl hq).1 aw
 refine⟨fun e he=>(hr.dB (aK (List.ne_nil_of_mem he))).2.1.1 e he,fun k j c hk=>?_,hr.mode,fun hm q bh m' aG ar hq bI b hb=>?_,fun hm b hb q hq hl=>?_⟩
 ·have aw:(G.g n).px≠[]:=by obtain⟨e,he,_⟩:=hk;exact List.ne_nil_of_mem (List.mem_of_getElem? he)
  exact(hr.dB (aK aw)).2.1.2.2 k j c hk
 ·obtain⟨q1,q2⟩:=oZ hq
  exact H.fi n q gr m sz xs bh m' aG ar hn q1 hm bI (Ne.symm q2) b hb
 ·subst hm
  obtain⟨q1,q2⟩:=zu hq
  exact H.live n gr sz xs hn b hb q q1 hl
theorem kM.del {m:Mode} {sz:Nat} {px:List (List PC)} (F:kM B E w G h sz m px) (n:Nat):kM B E w G (au h n none) sz m px:=
 ⟨F.len,F.ek,F.mode,fun hm q gr m' aG ar hq bI=>F.fi hm q gr m' aG ar (oZ hq).1 bI,fun hm b hb q hq=>F.live hm b hb q (zu hq).1⟩
theorem kM.Sg {m:Mode} {sz:Nat} {px:List (List PC)} (F:kM B E w G h sz m px) (hm:m≠ .live):∀b,aP b px->G.Im b:=by
 intro b hb
 have:=F.mode
 cases m with
 |aA=>exact this b hb
 |ae=>exact(this.1 b hb).1
 |live=>exact absurd rfl hm
def wL (B:Nat) (E:Ex) (w:World) (G:Gh) (h:Nat->Option aq) (sz:Nat) (m:Mode) (px:List (List PC)) (v:Value):Prop:=
 (∃a,v=.slice a 0 0/\px=[])\/
 ∃b o cap cur e,v=.slice (some (ad b o)) px.length cap/\w.heap[b]? =some (.cells cur e (0,0))/\cur.size=o+cap*sz/\cap<=maxLen/\px.length<=cap/\nT w b o sz px/\
  nS G h b/\(B<=b\/E b)/\(∀b',aP b' px->b'≠b)
theorem wL.del {m:Mode} {sz:Nat} {px:List (List PC)} {v:Value} (L:wL B E w G h sz m px v) (n:Nat):wL B E w G (au h n none) sz m px v:=by
 rcases L with h1|⟨b,o,cap,cur,e,a1,a2,a3,a4,a5,a6,⟨l1,l2,l3⟩,a8,a9⟩
 ·exact .inl h1
 ·exact .inr ⟨b,o,cap,cur,e,a1,a2,a3,a4,a5,a6,⟨l1,fun q hq=>l2 q (zu hq).1,fun q gr m sz xs hq=>l3 q gr m sz xs (oZ hq).1⟩,a8,a9⟩
theorem KK {px:List (List PC)} {sz:Nat} (hl:∀e∈px,e.length=sz):(px.flatten.map PC.val).length=px.length*sz:=by
 induction px with
 |nil=>simp
 |cons e px ih=>
  have:=ih (fun e he=>hl e (by simp[he]))
  simp only[List.flatten_cons,List.map_append,List.length_append,List.length_cons,Nat.add_mul,this,List.length_map] at*
  rw[hl e (by simp)]
  omega
theorem KJ {α:Type} {sz:Nat} (bE:0<sz):∀{px:List (List α)} (_:∀e∈px,e.length=sz) {i:Nat} {c:α},px.flatten[i]? =some c->∃k j,At px k j c/\i=k*sz+j
 |[],_,i,c,hi=>by simp at hi
 |e::px,hl,i,c,hi=>by
  have h0:=hl e (by simp)
  simp only[List.flatten_cons] at hi
  rcases Nat.lt_or_ge i e.length with bL|xB
  ·rw[List.getElem?_append_left bL] at hi
   exact⟨0,i,⟨e,rfl,hi⟩,by omega⟩
  ·rw[List.getElem?_append_right xB] at hi
   obtain⟨k,j,⟨e',he,hj⟩,hk⟩:=KJ bE (px:=px) (fun e he=>hl e (by simp[he])) hi
   exact⟨k+1,j,⟨e',by simpa using he,hj⟩,by rw[Nat.add_mul];omega⟩
theorem ajz {t ty e e':TypeId} {i:TypeInfo} (ht:P.underlying t=some (.slice e)) (hi:P.info? e=some i)
  (g og v7 Qx:Nat) (cur:Array Value) (hg:w.heap[g]? =some (.cells cur e' (0,0)))
  (a:Addr) (m c:Nat) (fq:List Value) (hl:fq.length=m*i.size) (rV:∀j u,fq[j]? =some u->w.cell? (a.add j)=some u) (h1:∀u∈fq,u.oneCell'=true)
  (CX:v7+m<=Qx) (gD:og+v7*i.size+fq.length<=cur.size):
  (Builtin.append_ #[t,t] ty #[.slice (some (ad g og)) v7 Qx,.slice (some a) m c]).run P w=.ok (.slice (some (ad g og)) (v7+m) Qx) (dU w g (og+v7*i.size) fq cur):=by
 have hf:=run_firstCells_some (P:=P) w i.size m a m c fq hl rV
 have mL:=run_storeCells_at P g (og+v7*i.size) e' fq 0 cur w hg (by simpa using gD) h1
 simp only[Nat.add_zero] at mL
 have ha:(ad g og).add (v7*i.size)=⟨g,og+v7*i.size,none⟩:=by rw[m9];simp[ad]
 simp[Builtin.append_,run_underlying ht,sizeOf,typeInfo,hi,Builtin.lenOf,CX,hf,ha,mL,dU]
theorem ajy (w:World) {t e:TypeId} {i:TypeInfo} {z:Value} {ty:TypeId} {sz by_:Nat} (ht:P.underlying t=some (.slice e)) (hi:P.info? e=some i) (hz:i.zero=some z) (bE:i.size=sz) (iE:0<sz) (pj:i.bytes=by_) (xu:0<by_)
  {m:Mode} {px:List (List PC)} {v:Value} (fM:∀e∈px,e.length=sz) (L:wL B E w G h sz m px v) {fq:List Value} {k c:Nat} {ya:Option Addr} (aK:fq.length=k*sz)
  (hy:(ya=none/\k=0)\/∃ay,ya=some ay/\∀(j:Nat) (u:Value),fq[j]? =some u->w.cell? (ay.add j)=some u) (h1:∀u∈fq,u.oneCell'=true) (hb:(px.length+k)*by_<=eK):
  (∃a,k=0/\v=.slice a 0 0/\px=[]/\(Builtin.append_ #[t,t] ty #[v,.slice ya k c]).run P w=.ok (.slice a 0 0) w)\/
  (∃b o cap cur e',v=.slice (some (ad b o)) px.length cap/\w.heap[b]? =some (.cells cur e' (0,0))/\cur.size=o+cap*sz/\cap<=maxLen/\px.length+k<=cap/\nT w b o sz px/\nS G h b/\(B<=b\/E b)/\(∀b',aP b' px->b'≠b)/\
   (Builtin.append_ #[t,t] ty #[v,.slice ya k c]).run P w=.ok (.slice (some (ad b o)) (px.length+k) cap) (dU w b (o+px.length*sz) fq cur))\/
  (∃(cap:Nat) (arr:Array Value),px.length+k<=cap/\cap<=maxLen/\arr.size=cap*z.cells.size+(px.length+k)*sz - (px.length+k)*z.cells.size/\(∀(q:Nat) (u:Value),(px.flatten.map PC.val++fq)[q]? =some u->arr[q]? =some u)/\
   (Builtin.append_ #[t,t] ty #[v,.slice ya k c]).run P w=.ok (.slice (some (ad w.heap.size 0)) (px.length+k) cap) (w.drew.alloc (.cells arr e))):=by
 have rU:px.length+k<=eK:=Nat.le_trans (Nat.le_mul_of_pos_right _ xu) hb
 have gF:(eK:Nat)=140737488355328:=rfl
 have LB:∀eR,grownCap w (px.length+k) eR e<=maxLen:=fun eR=>grownCap_le_maxLen w _ eR e (by simp only[maxLen];omega)
 have VF:=KK fM
 have ti:∀eR,((px.flatten.map PC.val).toArray++fq.toArray++Builtin.zeroCells z.cells (grownCap w (px.length+k) eR e - (px.length+k))).size=grownCap w (px.length+k) eR e*z.cells.size+(px.length+k)*sz - (px.length+k)*z.cells.size:=by
  intro eR
  have xB:=grownCap_ge w (px.length+k) eR e
  have h2:(px.length+k)*z.cells.size<=grownCap w (px.length+k) eR e*z.cells.size:=Nat.mul_le_mul_right _ xB
  simp only[Array.size_append,List.size_toArray,size_zeroCells,VF,aK,Nat.sub_mul,Nat.add_mul] at*
  omega
 have mH:∀eR (q:Nat) (u:Value),(px.flatten.map PC.val++fq)[q]? =some u->((px.flatten.map PC.val).toArray++fq.toArray++Builtin.zeroCells z.cells (grownCap w (px.length+k) eR e - (px.length+k)))[q]? =some u:=by
  intro eR q u hq
  have G6:=(List.getElem?_eq_some_iff.1 hq).1
  rw[Array.getElem?_append_left (by simp only[Array.size_append,List.size_toArray];simpa using G6)]
  simpa using hq
 rcases L with⟨a,rfl,rfl⟩|⟨b,o,cap,cur,e',rfl,a2,a3,a4,a5,a6,a7,a8,a9⟩
 ·by_cases hk:k=0
  ·subst hk
   left
   have hn:fq=[]:=List.eq_nil_of_length_eq_zero (by simpa using aK)
   refine⟨a,rfl,rfl,rfl,?_⟩
   cases ya<;>cases a<;>simp[Builtin.append_,run_underlying ht,sizeOf,typeInfo,hi,Builtin.lenOf,Builtin.firstCells,loadCells,loadCellsFrom,storeCells]
  ·rcases hy with⟨_,h0⟩|⟨ay,rfl,rV⟩
   ·exact absurd h0 hk
   right;right
   cases a with
   |none=>
    have hr:=run_append_nil (P:=P) w t ty e i z ht hi hz ay k c fq (by rw[bE];exact aK) rV (by omega) (by simp only[List.length_nil,Nat.zero_add] at rU;omega) (by rw[pj];simp only[List.length_nil,Nat.zero_add] at hb;omega)
    have h3:=ti 0
    have h4:=mH 0
    have h5:=LB 0
    simp only[List.length_nil,Nat.zero_add,List.flatten_nil,List.map_nil,List.nil_append] at h3 h4 h5⊢
    exact⟨grownCap w k 0 e,fq.toArray++Builtin.zeroCells z.cells (grownCap w k 0 e - k),grownCap_ge w k 0 e,h5,by simpa using h3,fun q u hq=>by simpa using h4 q u hq,hr⟩
   |some a=>
    have hr:=run_append_grow (P:=P) w t ty e i z ht hi hz a 0 0 [] (by simp) (fun q u hq=>by simp at hq) ay k c fq (by rw[bE];exact aK) rV (by omega) (by simp only[List.length_nil,Nat.zero_add] at rU;omega) (growslice_fits (by simp only[List.length_nil,Nat.zero_add] at rU;omega) (by rw[pj,Nat.zero_add];rw[List.length_nil,Nat.zero_add] at hb;exact hb))
    have h3:=ti 0
    have h4:=mH 0
    have h5:=LB 0
    simp only[List.length_nil,Nat.zero_add,List.flatten_nil,List.map_nil,List.nil_append] at h3 h4 h5 hr⊢
    exact⟨_,_,grownCap_ge w k 0 e,h5,by simpa using h3,fun q u hq=>by simpa using h4 q u hq,hr⟩
 ·by_cases CX:px.length+k<=cap
  ·right;left
   refine⟨b,o,cap,cur,e',rfl,a2,a3,a4,CX,a6,a7,a8,a9,?_⟩
   rcases hy with⟨rfl,rfl⟩|⟨ay,rfl,rV⟩
   ·have hn:fq=[]:=List.eq_nil_of_length_eq_zero (by simpa using aK)
    subst hn
    have adH:dU w b (o+px.length*sz) [] cur=w:=by
     unfold dU
     simp only[List.append_nil,List.length_nil,Nat.add_zero,List.take_append_drop,Array.toArray_toList]
     exact setRow_self w b cur e' (0,0) a2
    rw[adH]
    simp[Builtin.append_,run_underlying ht,sizeOf,typeInfo,hi,Builtin.lenOf,Builtin.firstCells,a5,storeCells]
   ·have hr:=ajz (P:=P) (w:=w) (ty:=ty) ht hi b o px.length cap cur a2 ay k c fq (by rw[bE];exact aK) rV h1 CX (by
     rw[bE,aK,a3,Nat.add_assoc,<-Nat.add_mul];exact Nat.add_le_add_left (Nat.mul_le_mul_right _ CX) _)
    rw[bE] at hr
    exact hr
  ·rcases hy with⟨_,rfl⟩|⟨ay,rfl,rV⟩
   ·omega
   right;right
   have hr:=run_append_grow (P:=P) w t ty e i z ht hi hz (ad b o) px.length cap (px.flatten.map PC.val) (by rw[bE];exact VF) (fun q u hq=>by
    rw[List.getElem?_map] at hq
    cases hf:px.flatten[q]? with
    |none=>rw[hf] at hq;cases hq
    |some pc=>
     rw[hf] at hq
     simp at hq
     subst hq
     obtain⟨k',j',lN,rfl⟩:=KJ iE fM hf
     rw[m9,<-Nat.add_assoc]
     exact a6.2.1 k' j' pc lN) ay k c fq (by rw[bE];exact aK) rV (by omega) (by omega) (growslice_fits (by omega) (by rw[pj];exact hb))
   exact⟨_,_,grownCap_ge w _ _ _,LB _,ti _,mH _,hr⟩
def uC (w:World) (sz:Nat) (py:List (List PC)) (v:Value):Prop:=
 (∀e∈py,e.length=sz)/\(∀k j c,At py k j c->Good w c)/\
 ∃ya c,v=.slice ya py.length c/\((ya=none/\py.length=0)\/∃ay,ya=some ay/\∀(j:Nat) (u:Value),(py.flatten.map PC.val)[j]? =some u->w.cell? (ay.add j)=some u)
theorem uC.X4 {sz:Nat} {ya:Option Addr} {c:Nat} {py:List (List PC)} (hg:Good w (.list sz ya c py)):uC w sz py (.slice ya py.length c):=by
 cases hg with
 |nil _ _ _ h=>
  refine⟨by simp,by rintro k j c ⟨e,he,_⟩;simp at he,ya,c,rfl,?_⟩
  cases ya with
  |none=>exact .inl ⟨rfl,rfl⟩
  |some ay=>exact .inr ⟨ay,rfl,by simp⟩
 |cons _ b o _ _ h1 h2 h3 h4 h5 h6=>
  refine⟨h4,h6,_,c,rfl,.inr ⟨_,rfl,fun j u hj=>?_⟩⟩
  rw[List.getElem?_map] at hj
  cases hf:py.flatten[j]? with
  |none=>rw[hf] at hj;cases hj
  |some pc=>
   rw[hf] at hj
   simp at hj
   subst hj
   obtain⟨k',j',lN,rfl⟩:=KJ h3 h4 hf
   rw[m9,<-Nat.add_assoc]
   exact h5 k' j' pc lN
theorem R.aar (r:R B E w0 N σ a w G) {σ2:St} (xy:σ2.env=σ.env) (k8:σ2.used=σ.used) (H:HR B E w G σ2.h σ.used []) (K:aT w G σ.h (fun n=>σ.used n=true) w G σ2.h)
  {n:Nat} {sz by_:Nat} {m m2:Mode} {px py:List (List PC)} {v yv:Value} (hn:σ.used n=false) (iE:0<sz) (F:kM B E w G σ2.h sz m2 (px++py)) (fM:∀e∈px,e.length=sz) (L:wL B E w G σ2.h sz m px v) (Ry:uC w sz py yv)
  (Mb:∀b,aP b py->∀b' o cap,0<cap->v=.slice (some (ad b' o)) px.length cap->nS G σ2.h b'->b≠b')
  {t e:TypeId} {i:TypeInfo} {z:Value} {ty:TypeId} (ht:P.underlying t=some (.slice e)) (hi:P.info? e=some i) (hz:i.zero=some z) (bE:i.size=sz) (pj:i.bytes=by_) (xu:0<by_) (qN:z.cells.size=sz)
  (hb:(px.length+py.length)*by_<=eK):
  ∃u w' G',(Builtin.append_ #[t,t] ty #[v,yv]).run P w=.ok u w'/\
   R B E w0 N {σ2 with h:=au σ2.h n (some (.row true m2 sz ((px++py).map fun e=>e.map PC.er))),used:=au σ2.used n true} a w' G'/\
   RA w' G' (au σ2.h n (some (.row true m2 sz ((px++py).map fun e=>e.map PC.er)))) (.one (.sl n sz 0 (px.length+py.length))) u:=by
 obtain⟨r1,r2,ya,c,rfl,r3⟩:=Ry
 have aK:(py.flatten.map PC.val).length=py.length*sz:=KK r1
 have h1:∀u∈py.flatten.map PC.val,u.oneCell'=true:=fun u hu=>by obtain⟨pc,_,rfl⟩:=List.mem_map.1 hu;exact PC.j8 pc
 have hB:=r.fr.size
 have VB:(px++py).length=px.length+py.length:=by simp
 have LH:σ2.h n=none:=by
  cases hh:σ2.h n with
  |none=>rfl
  |some b=>have:=H.iA n (by rw[hh];simp);rw[hn] at this;cases this
 have ne:∀q,σ.used q=true->q≠n:=fun q hq e=>by subst e;rw[hn] at hq;cases hq
 have aw:∀q,σ2.h q≠none->q≠n:=fun q hq e=>by subst e;exact hq LH
 rcases ajy (P:=P) w (ty:=ty) ht hi hz bE iE pj xu fM L aK r3 h1 hb with⟨a0,k0,rfl,rfl,bK⟩|⟨b,ob,cap,cur,e',rfl,b2,b3,b4,b5,b6,b7,b8,b9,bK⟩|⟨cap,arr,c1,c2,c3,c4,bK⟩
 ·
  have hpy:py=[]:=List.eq_nil_of_length_eq_zero k0
  subst hpy
  refine⟨_,w,⟨G.Im,au G.g n ⟨true,0,0,0,[],a0⟩⟩,bK,?_,?_⟩
  ·refine r.step (σ':=_) xy (fun q hq=>by show au σ2.used n true q=true;rw[k8];exact qc n q hq) (aT.trans (u2:=fun n=>σ.used n=true) (fun _ h=>h) K (aT.insert H (blk:=.row true m2 sz []) (p:=⟨true,0,0,0,[],a0⟩) hn (fun _ _=>rfl))) ?_ r.fr
   show HR B E w _ (au σ2.h n (some (.row true m2 sz []))) (au σ2.used n true) []
   rw[k8]
   have cf:∀b,¬aP b ([]:List (List PC)):=by rintro b ⟨k,j,c,⟨e,he,_⟩,_⟩;simp at he
   refine H.insert (p:=⟨true,0,0,0,[],a0⟩) hn (fun _ _=>rfl) (Nat.le_refl _) (fun h=>by cases h) (fun cs c m hb=>by cases hb) ⟨iE,rfl,fun _=>⟨rfl,fun _=>rfl⟩,(fun h=>by cases h),(fun h=>by cases h),?_⟩
    (fun gr m sz xs _ _ n' bh m' aG ar _ _ b hb=>absurd hb (cf b)) (fun gr sz xs _ b hb=>absurd hb (cf b)) (fun gr m sz xs _ _ i pc b hi=>by simp at hi)
   have hm:=F.mode
   simp only[List.append_nil] at hm
   exact hm
  ·refine RA.fR rfl fun _=>.inl ?_
   simp[bC]
 ·
  have G0:(ob+px.length*sz)+(py.flatten.map PC.val).length<=cur.size:=by rw[aK,b3,Nat.add_assoc,<-Nat.add_mul];exact Nat.add_le_add_left (Nat.mul_le_mul_right _ b5) _
  let w2:=dU w b (ob+px.length*sz) (py.flatten.map PC.val) cur
  have ez:∀x,x≠b->w2.heap[x]? =w.heap[x]? :=fun x hx=>yP x hx
  have GK:∀x,G.Im x->x≠b:=fun x hx he=>b7.1 (he▸hx)
  have tI:∀x,dk w x->dk w2 x:=fun x hx=>Jg b2 G0 x hx
  have VD:∀x,aP x (px++py)->x≠b:=fun x hx=>(t8 hx).elim (b9 x) (fun h=>Mb x h b ob cap (by obtain⟨k,j,c,⟨e,he,_⟩,_⟩:=h;have:=(List.getElem?_eq_some_iff.1 he).1;omega) rfl b7)
  let p:PB:=⟨false,b,ob,cap,px++py,none⟩
  have K2:aT w G σ2.h (fun n=>σ.used n=true) w2 ⟨G.Im,au G.g n p⟩ (au σ2.h n (some (.row true m2 sz ((px++py).map fun e=>e.map PC.er)))):=by
   refine⟨fun _ h=>h,fun x hx o=>hZ (ez x (GK x hx)) o,fun q hq h0=>?_,fun q gr aG ar hq h0=>?_⟩
   ·rw[cb _ _ _ _ (ne q hq)] at h0
    simp only[cb _ _ _ _ (ne q hq)]
    exact⟨h0,trivial,trivial,trivial,trivial,trivial⟩
   ·rw[cb _ _ _ _ (ne q hq)] at h0
    simp only[cb _ _ _ _ (ne q hq)]
    exact⟨⟨gr,ar,h0⟩,fun k j pc h1 h2=>⟨pc,h1,rfl,h2⟩⟩
  have ac1:b<w.heap.size:=(Array.getElem?_eq_some_iff.1 b2).1
  have Hn:HR B E w2 ⟨G.Im,au G.g n p⟩ (au σ2.h n (some (.row true m2 sz ((px++py).map fun e=>e.map PC.er)))) (au σ.used n true) []:=by
   refine H.put (p:=p) (fun x _ hx=>ez x (hx rfl)) (by show w.heap.size<=w2.heap.size;rw[qe];exact Nat.le_refl _) (fun x _ hx=>tI x hx) (fun q hq=>qc n q hq) (bC _ _ _)
    (fun _=>⟨b7.1,b8,by show b<w2.heap.size;rw[qe];exact ac1⟩) (fun _ q hq h0 hl=>b7.2.1 q h0 hl) (fun _ q gr aG ar hq h0 x hx he=>b7.2.2 q gr .live aG ar h0 (by have GU:x=b:=he;rw[<-GU];exact hx))
    (fun cs c q hb=>by cases hb) K2 ?_ ?_ ?_ (fun gr m sz xs _ _ i pc b hi=>by simp at hi) (fun _ _ x hx he=>by obtain⟨q,gr,mo,aG,ar,_,h0,hxF⟩:=hx;exact b7.2.2 q gr mo aG ar h0 (by have GU:x=b:=he;rw[<-GU];exact hxF))
   ·refine⟨iE,rfl,(fun h=>by cases h),fun _=>⟨tI b ⟨cur,e',b2⟩,⟨F.len,fun k j c hk=>?_,fun k j c hk=>?_⟩,by show(px++py).length<=cap;rw[VB];exact b5⟩,fun _ _=>?_,?_⟩
    ·show w2.cell? (ad b (ob+k*sz+j))=some c.val
     rw[BD b2 G0]
     have hf:=sY F.len hk
     rw[List.flatten_append] at hf
     have iP:px.flatten.length=px.length*sz:=by have:=KK fM;rwa[List.length_map] at this
     rcases uH hk with⟨xE,cW⟩|⟨xE,cW⟩
     ·rw[if_neg ?_]
      ·exact b6.2.1 k j c cW
      ·rintro⟨q1,_⟩
       have hj:j<sz:=by obtain⟨e1,he,hj⟩:=cW;rw[<-fM e1 (List.mem_of_getElem? he)];exact(List.getElem?_eq_some_iff.1 hj).1
       have:(k+1)*sz<=px.length*sz:=Nat.mul_le_mul_right _ xE
       rw[Nat.add_mul] at this
       omega
     ·have xB:px.length*sz<=k*sz+j:=Nat.le_trans (Nat.mul_le_mul_right _ xE) (Nat.le_add_right _ _)
      have bL:=(List.getElem?_eq_some_iff.1 hf).1
      rw[List.length_append,iP] at bL
      rw[List.getElem?_append_right (by rw[iP];exact xB),iP] at hf
      rw[if_pos ⟨by omega,by simp only[List.length_map];omega⟩]
      rw[List.getElem?_map,show ob+k*sz+j - (ob+px.length*sz)=k*sz+j - px.length*sz by omega,hf]
      rfl
    ·exact(F.ek k j c hk).congr fun x hx o=>hZ (ez x (VD x ⟨k,j,c,hk,hx⟩)) o
    ·obtain⟨iO,q1,q2⟩:=Jf (vs:=py.flatten.map PC.val) (o:=ob+px.length*sz) b2 G0
     exact⟨b4,iO,e',q1,by rw[q2,b3]⟩
    ·have hm:=F.mode
     cases m2 with
     |aA=>exact hm
     |ae=>exact⟨fun x hx=>⟨(hm.1 x hx).1,tI x (hm.1 x hx).2.1,(hm.1 x hx).2.2⟩,hm.2⟩
     |live=>exact⟨fun x hx=>⟨(hm.1 x hx).1,tI x (hm.1 x hx).2.1,(hm.1 x hx).2.2⟩,hm.2⟩
   ·intro gr m' aG ar hb gF q bh mo j5 gR eG h0 iC x hx
    injection hb with _ hb _ _
    subst hb
    exact F.fi gF q bh mo j5 gR h0 iC x hx
   ·intro gr aG ar hb x hx
    injection hb with _ hb _ _
    exact⟨fun _=>VD x hx,fun q _ h0 hl=>F.live hb x hx q h0 hl⟩
  refine⟨_,w2,⟨G.Im,au G.g n p⟩,bK,?_,?_⟩
  ·exact r.step (σ':=_) xy (fun q hq=>by show au σ2.used n true q=true;rw[k8];exact qc n q hq) (aT.trans (u2:=fun n=>σ.used n=true) (fun _ h=>h) K K2)
    (by show HR B E w2 _ _ (au σ2.used n true) [];rw[k8];exact Hn) (r.fr.one b8 (fun x hx Mu=>ez x Mu) (by show w.heap.size<=w2.heap.size;rw[qe];exact Nat.le_refl _) (BE b2 G0) rfl rfl rfl)
  ·refine RA.fR rfl fun _=>.inr ⟨by simp[bC,p],some (ad b ob),?_,?_,?_⟩
   ·simp[bC,p]
   ·simp[bC,p];exact b5
   ·simp[bC,p]
 ·
  let w1:=w.drew
  have hd:∀x:Nat,x<w.heap.size->(w.drew.alloc (.cells arr e)).heap[x]? =w.heap[x]? :=fun x hx=>heap_alloc_old w.drew _ x hx
  have H1:HR B E w.drew G σ2.h σ.used []:=H.grow (w':=w.drew) (fun _ _=>rfl) (Nat.le_refl _)
  have r1:R B E w0 N σ a w.drew G:=r.step (w':=w.drew) rfl (fun _ h=>h) (aT.world (w:=w) (w':=w.drew) (fun _ _=>rfl) _) (r.hr.grow (w':=w.drew) (fun _ _=>rfl) (Nat.le_refl _)) (r.fr.grow (w':=w.drew) (fun _ _=>rfl) (Nat.le_refl _) rfl rfl rfl)
  have K1:aT w.drew G σ.h (fun n=>σ.used n=true) w.drew G σ2.h:=⟨K.im,fun _ _ _=>rfl,K.name,K.live⟩
  have gp:∀k j c,At (px++py) k j c->Good w.drew c:=fun k j c hk=>(F.ek k j c hk).congr fun _ _ _=>rfl
  have ti:∀k j c,At (px++py) k j c->arr[k*sz+j]? =some c.val:=fun k j c hk=>by
   have hf:=sY F.len hk
   refine c4 _ _ ?_
   rw[<-List.map_append,<-List.flatten_append,List.getElem?_map,hf]
   rfl
  have tE:arr.size=cap*sz:=by rw[c3,qN];omega
  have hB2:=r1.fr.size
  let p:PB:=⟨false,w.heap.size,0,cap,px++py,none⟩
  have hw:∀x:Nat,x<w.drew.heap.size->(w.drew.alloc (.cells arr e)).heap[x]? =w.drew.heap[x]? :=hd
  have Hn:HR B E (w.drew.alloc (.cells arr e)) ⟨G.Im,au G.g n p⟩ (au σ2.h n (some (.row true m2 sz ((px++py).map fun e=>e.map PC.er)))) (au σ.used n true) []:=by
   refine H1.insert (p:=p) hn hw (by simp) (fun _=>⟨H1.Ok,.inl hB,by simp[p]⟩) (fun cs c m hb=>by cases hb) ?_ ?_ ?_ (fun gr m sz xs _ _ i pc b hi=>by simp at hi)
   ·refine⟨iE,rfl,(fun h=>by cases h),fun _=>⟨dk.alloc _ _ _,⟨F.len,fun k j c hk=>?_,fun k j c hk=>?_⟩,by show(px++py).length<=cap;rw[VB];exact c1⟩,fun _ _=>⟨c2,arr,e,heap_alloc_new w.drew _,(Nat.zero_add _).symm▸tE⟩,?_⟩
    ·show(w.drew.alloc (.cells arr e)).cell? (ad w.drew.heap.size (0+k*sz+j))=some c.val
     simp only[Nat.zero_add]
     unfold ad
     rw[World.cell?_alloc_new]
     exact ti k j c hk
    ·exact(gp k j c hk).congr fun x hx o=>hZ (hw x ((gp k j c hk).lt hx)) o
    ·have hm:=F.mode
     have hu:∀x,dk w x->dk (w.drew.alloc (.cells arr e)) x:=fun x hx=>hx.congr (hd x hx.lt)
     cases m2 with
     |aA=>exact hm
     |ae=>exact⟨fun x hx=>⟨(hm.1 x hx).1,hu x (hm.1 x hx).2.1,(hm.1 x hx).2.2⟩,hm.2⟩
     |live=>exact⟨fun x hx=>⟨(hm.1 x hx).1,hu x (hm.1 x hx).2.1,(hm.1 x hx).2.2⟩,hm.2⟩
   ·intro gr m' aG ar hb gF q bh mo j5 gR h0 iC x hx
    injection hb with _ hb _ _
    subst hb
    exact F.fi gF q bh mo j5 gR h0 iC x hx
   ·intro gr aG ar hb x hx
    injection hb with _ hb _ _
    refine⟨fun _=>?_,fun q h0 hl=>F.live hb x hx q h0 hl⟩
    obtain⟨k,j,c,hk,hxc⟩:=hx
    have:=(F.ek k j c hk).lt hxc
    show x≠w.heap.size
    omega
  refine⟨_,_,⟨G.Im,au G.g n p⟩,bK,?_,?_⟩
  ·exact r1.step (σ':=_) xy (fun q hq=>by show au σ2.used n true q=true;rw[k8];exact qc n q hq) (aT.trans (u2:=fun n=>σ.used n=true) (fun _ h=>h) K1 (aT.insert H1 hn hw))
    (by show HR B E _ _ _ (au σ2.used n true) [];rw[k8];exact Hn) (r1.fr.grow hw (by simp) rfl rfl rfl)
  ·refine RA.fR rfl fun _=>.inr ⟨by simp[bC,p],some (ad w.heap.size 0),?_,?_,?_⟩
   ·simp[bC,p]
   ·simp[bC,p];exact c1
   ·simp[bC,p]
theorem ags (r:R B E w0 N σ a w G) {sz:Nat} {x:ak} {v:Value} {xs:List (List C)} {m:Mode} {σ1:St} (hv:RA w G σ.h x v) (hx:oU σ sz x=some (xs,m,σ1)):
  ∃px:List (List PC),xs=px.map (fun e=>e.map PC.er)/\kM B E w G σ1.h sz m px/\wL B E w G σ1.h sz m px v/\HR B E w G σ1.h σ.used []/\aT w G σ.h (fun n=>σ.used n=true) w G σ1.h/\σ1.env=σ.env/\σ1.used=σ.used/\
   (∀n b,σ1.h n=some b->σ.h n=some b):=by
 unfold oU at hx
 split at hx
 ·rename_i s
  injection hx with hx
  injection hx with h1 h2
  injection h2 with h2 h3
  subst h1 h2 h3
  have fw:v=.slice none 0 0:=(hv.fb (by simp)).1
  have cf:∀b,¬aP b ([]:List (List PC)):=by rintro b ⟨k,j,c,⟨e,he,_⟩,_⟩;simp at he
  exact⟨[],rfl,⟨by simp,by rintro k j c ⟨e,he,_⟩;simp at he,⟨fun b hb=>absurd hb (cf b),(by rintro k j c ⟨e,he,_⟩;simp at he),(by rintro k j c k' j' c' b ⟨e,he,_⟩;simp at he)⟩,fun _ _ _ _ _ _ _ _ b hb=>absurd hb (cf b),fun _ b hb=>absurd hb (cf b)⟩,
   .inl ⟨none,fw,rfl⟩,r.hr,aT.refl _ _ _ _,rfl,rfl,fun _ _ h=>h⟩
 ·rename_i n s len
  split at hx
  ·rename_i m0 rs kb hn
   split at hx
   ·rename_i hc
    obtain⟨rfl,rfl,rfl⟩:=hc
    injection hx with hx
    injection hx with h1 h2
    injection h2 with h2 h3
    subst h1 h2 h3
    have H:=r.hr
    have bM:σ.h n≠none:=by rw[hn];simp
    have hr:=H.row n true m0 s kb hn
    have gv:jg (G.g n) s 0 kb.length v:=(hv.fb (by simp)).1 bM
    have pt:kb.length=(G.g n).px.length:=by rw[hr.er];simp
    refine⟨(G.g n).px,hr.er,kM.Po H hn,?_,H.del n,aT.del n _,rfl,rfl,fun q b hq=>(oZ hq).1⟩
    rcases gv with⟨aK,fw,_,_⟩|⟨aK,a',fw,jL,ha⟩
    ·have g2:=(hr.nl aK).2 rfl
     exact .inl ⟨(G.g n).na,by rw[fw,g2],(hr.nl aK).1⟩
    ·right
     obtain⟨r2,cur,e,r3,r4⟩:=hr.room aK rfl
     obtain⟨l1,l2,l3⟩:=hr.dB aK
     obtain⟨o1,o2,o3⟩:=H.own n bM aK
     have rO:=ha (.inr rfl)
     refine⟨(G.g n).b,(G.g n).o,(G.g n).cap,cur,e,?_,r3,r4,r2,l3,l2,⟨o1,fun q hq hl=>?_,fun q gr m' aG ar hq hb=>?_⟩,o2,fun b hb=>H.rK bM aK hn hb⟩
     ·rw[fw,rO,pt];simp
     ·obtain⟨q1,q2⟩:=zu hq
      exact H.inj q n q1 bM q2 hl aK
     ·exact H.rK bM aK (oZ hq).1 hb rfl
   ·cases hx
  ·cases hx
 ·cases hx
theorem ajk {fl:Bool} {sz:Nat} {x:ak} {v:Value} {ys:List (List C)} {m m2:Mode} {σ1 σ2:St} {px:List (List PC)} (iE:0<sz) (H:HR B E w G σ1.h σ1.used []) (F:kM B E w G σ1.h sz m px) (hv:RA w G σ1.h x v)
  (hx:kQ fl σ1 sz m x=some (ys,m2,σ2)):
  ∃py:List (List PC),ys=py.map (fun e=>e.map PC.er)/\uC w sz py v/\kM B E w G σ2.h sz m2 (px++py)/\HR B E w G σ2.h σ1.used []/\aT w G σ1.h (fun n=>σ1.used n=true) w G σ2.h/\σ2.env=σ1.env/\σ2.used=σ1.used/\
   (∀n b,σ2.h n=some b->σ1.h n=some b)/\(∀b,aP b py->∀b',¬G.Im b'->(∀q gr mo aG ar,σ1.h q=some (.row gr mo aG ar)->¬aP b' (G.g q).px)->b≠b'):=by
 unfold kQ at hx
 have adv:∀b,¬aP b ([]:List (List PC)):=by rintro b ⟨k,j,c,⟨e,he,_⟩,_⟩;simp at he
 split at hx
 ·rename_i s
  injection hx with hx
  injection hx with h1 h2
  injection h2 with h2 h3
  subst h1 h2 h3
  have fw:v=.slice none 0 0:=(hv.fb (by simp)).1
  subst fw
  exact⟨[],rfl,⟨by simp,by rintro k j c ⟨e,he,_⟩;simp at he,none,0,rfl,.inl ⟨rfl,rfl⟩⟩,by simpa using F,H,aT.refl _ _ _ _,rfl,rfl,fun _ _ h=>h,fun b hb=>absurd hb (adv b)⟩
 ·rename_i s ul
  split at hx
  ·rename_i hs
   subst hs
   obtain⟨pc,e1,e2,e3,e4⟩:=hv.c
   have aV:∃ya c py,pc=.list s ya c py/\py.map (fun e=>e.map PC.er)=ul:=by
    cases pc with
    |int k n=>simp[PC.er] at e1
    |bool b=>simp[PC.er] at e1
    |list s' ya c py=>rw[PC.dr] at e1;injection e1 with e1 e5;subst e1;exact⟨ya,c,py,rfl,e5⟩
   obtain⟨ya,c,py,rfl,e5⟩:=aV
   have hR:uC w s py v:=by rw[<-e2];exact uC.X4 e3
   have lM:∀b,aP b py->G.Im b:=fun b ⟨k,j,c,hk,hb⟩=>e4 b (.there _ _ _ _ k j c hk hb)
   have n5:∀b,aP b py->∀b',¬G.Im b'->(∀q gr mo aG ar,σ1.h q=some (.row gr mo aG ar)->¬aP b' (G.g q).px)->b≠b':=fun b hb b' aR _ he=>aR (he▸lM b hb)
   split at hx
   ·rename_i rW
    injection hx with hx
    injection hx with h1 h2
    injection h2 with h2 h3
    subst h1 h2 h3
    replace rW:=(Bool.and_eq_true _ _▸rW).2
    rw[<-e5] at rW
    exact⟨py,e5.symm,hR,F.Tc hR.1 hR.2.1 (Bf rW),H,aT.refl _ _ _ _,rfl,rfl,fun _ _ h=>h,n5⟩
   ·split at hx
    ·cases hx
    ·rename_i rS
     injection hx with hx
     injection hx with h1 h2
     injection h2 with h2 h3
     subst h1 h2 h3
     refine⟨py,e5.symm,hR,⟨fun e he=>(List.mem_append.1 he).elim (F.len e) (hR.1 e),fun k j c hk=>?_,fun b hb=>(t8 hb).elim (F.Sg rS b) (lM b),fun h=>absurd rfl h,fun h=>by cases h⟩,H,aT.refl _ _ _ _,rfl,rfl,fun _ _ h=>h,n5⟩
     rcases uH hk with⟨_,h⟩|⟨_,h⟩
     ·exact F.ek _ _ _ h
     ·exact hR.2.1 _ _ _ h
  ·cases hx
 ·rename_i n s lo len
  split at hx
  ·rename_i gr m' rs ul hn
   split at hx
   ·rename_i hc
    obtain⟨rfl,rfl,hl⟩:=hc
    have bM:σ1.h n≠none:=by rw[hn];simp
    have hr:=H.row n gr m' s ul hn
    have gv:jg (G.g n) s lo len v:=(hv.fb (by simp)).1 bM
    obtain⟨q1,q2,q3,q4⟩:=D2 hr gv hl
    have LK:∃ya c,j0 (G.g n) s lo len v=.list s ya c (((G.g n).px.drop lo).take len):=by
     rcases gv with⟨_,rfl,_,_⟩|⟨_,a',rfl,_,_⟩<;>exact⟨_,_,rfl⟩
    obtain⟨ya,c,LK⟩:=LK
    rw[LK] at q1 q2 q3 q4
    have hR:uC w s (((G.g n).px.drop lo).take len) v:=by rw[<-q2];exact uC.X4 q3
    have qM:(ul.drop lo).take len=(((G.g n).px.drop lo).take len).map (fun e=>e.map PC.er):=by rw[PC.dr] at q1;injection q1 with _ q1;exact q1.symm
    have n5:∀b,aP b (((G.g n).px.drop lo).take len)->∀b',¬G.Im b'->(∀q gr mo aG ar,σ1.h q=some (.row gr mo aG ar)->¬aP b' (G.g q).px)->b≠b':=by
     rintro b ⟨k,j,c,hk,hb⟩ b' _ aR rfl
     exact aR n gr m' s ul hn ⟨_,_,_,(nU hk).1,hb⟩
    split at hx
    ·rename_i rW
     injection hx with hx
     injection hx with h1 h2
     injection h2 with h2 h3
     subst h1 h2 h3
     have VN:=(Bool.and_eq_true _ _▸rW).2
     rw[qM] at VN
     exact⟨_,qM,hR,F.Tc hR.1 hR.2.1 (Bf VN),H,aT.refl _ _ _ _,rfl,rfl,fun _ _ h=>h,n5⟩
    ·split at hx
     ·rename_i ade
      obtain⟨rfl,rfl⟩:=ade
      have fj:((G.g n).px.drop 0).take ul.length=(G.g n).px:=by
       have:ul.length=(G.g n).px.length:=by rw[hr.er];simp
       rw[this];simp
      rw[fj] at hR n5
      have F2:=kM.Po H hn
      have F1:=F.del n
      have gp:∀k j c,At (px++(G.g n).px) k j c->Good w c:=fun k j c hk=>by
       rcases uH hk with⟨_,h⟩|⟨_,h⟩
       ·exact F.ek _ _ _ h
       ·exact F2.ek _ _ _ h
      have hlen:∀e∈px++(G.g n).px,e.length=s:=fun e he=>(List.mem_append.1 he).elim (F.len e) (F2.len e)
      split at hx
      ·rename_i cR
       subst cR
       injection hx with hx
       injection hx with h1 h2
       injection h2 with h2 h3
       subst h1 h2 h3
       refine⟨(G.g n).px,hr.er,hR,⟨hlen,gp,?_,fun hm q bh mo aG ar hq iC b hb=>?_,fun hm b hb q hq hl=>?_⟩,H.del n,aT.del n _,rfl,rfl,fun q b hq=>(oZ hq).1,n5⟩
       ·have m1:=F.mode
        have m3:=F2.mode
        cases m with
        |aA=>exact fun b hb=>(t8 hb).elim (m1 b) (m3 b)
        |ae=>exact⟨fun b hb=>(t8 hb).elim (m1.1 b) (m3.1 b),Iq m1.2 m3.2 (fun b hb=>F.fi (by simp) n gr .ae s ul hn (by simp) b hb)⟩
        |live=>exact⟨fun b hb=>(t8 hb).elim (m1.1 b) (m3.1 b),Iq m1.2 m3.2 (fun b hb=>F.fi (by simp) n gr .live s ul hn (by simp) b hb)⟩
       ·exact(t8 hb).elim (F1.fi hm q bh mo aG ar hq iC b) (F2.fi hm q bh mo aG ar hq iC b)
       ·exact(t8 hb).elim (fun h=>F1.live hm b h q hq hl) (fun h=>F2.live hm b h q hq hl)
      ·split at hx
       ·cases hx
       ·rename_i aK
        injection hx with hx
        injection hx with h1 h2
        injection h2 with h2 h3
        subst h1 h2 h3
        refine⟨(G.g n).px,hr.er,hR,⟨hlen,gp,fun b hb=>(t8 hb).elim (F.Sg (fun h=>aK (.inl h)) b) (F2.Sg (fun h=>aK (.inr h)) b),fun h=>absurd rfl h,fun h=>by cases h⟩,H.del n,aT.del n _,rfl,rfl,fun q b hq=>(oZ hq).1,n5⟩
     ·cases hx
   ·cases hx
  ·cases hx
 ·cases hx
theorem abm (r:R B E w0 N σ a w G) {n:Nat} {t e:TypeId} {i:TypeInfo} {z:Value} {x y:Operand} {mx my:MO} {fl:Bool} {sz by_:Nat} {xs ys:List (List C)} {m m2:Mode} {σ1 σ2 gj:St}
  (ho:o.op=.call {callee:=.builtin .append,args:=#[x,y],argTypes:=#[t,t]}) (hd:o.dst=some n) (hN:n<N) (iQ:bw x mx=true) (jm:bw y my=true)
  (ht:P.underlying t=some (.slice e)) (hi:P.info? e=some i) (hz:i.zero=some z) (bE:i.size=sz) (iE:0<sz) (pj:i.bytes=by_) (xu:0<by_) (qN:z.cells.size=sz)
  (hl:oU σ sz (σ.ev mx)=some (xs,m,σ1)) (hr:kQ fl σ1 sz m (σ.ev my)=some (ys,m2,σ2)) (hb:(xs.length+ys.length)*by_<=eK)
  (hx:σ2.ins n (.row true m2 sz (xs++ys))=some gj):
  o.wp P a w (Nx B E w0 N (gj.put o.dst (.one (.sl n sz 0 (xs.length+ys.length))))) Q:=by
 obtain⟨hn,rfl⟩:=lW hx
 obtain⟨x1,x2⟩:=r.ev iQ
 obtain⟨y1,y2⟩:=r.ev jm
 obtain⟨px,e1,F1,L1,H1,K1,q1,q2,q3⟩:=ags r x1 hl
 have y1':RA w G σ1.h (σ.ev my) (a.eval y):=y1.eI K1 y2
 rw[<-q2] at H1
 obtain⟨py,e2,R2,F2,H2,K2,p1,p2,p3,n5⟩:=ajk iE H1 F1 y1' hr
 rw[q2] at H2
 have pt:xs.length=px.length:=by rw[e1];simp
 have z7:ys.length=py.length:=by rw[e2];simp
 have L2:wL B E w G σ2.h sz m px (a.eval x):=by
  rcases L1 with h|⟨b,o,cap,cur,e',b1,b2,b3,b4,b5,b6,⟨l1,l2,l3⟩,b8,b9⟩
  ·exact .inl h
  ·refine .inr ⟨b,o,cap,cur,e',b1,b2,b3,b4,b5,b6,⟨l1,fun q hq=>?_,fun q gr mo aG ar hq=>l3 q gr mo aG ar (p3 q _ hq)⟩,b8,b9⟩
   cases hh:σ2.h q with
   |none=>exact absurd hh hq
   |some bb=>exact l2 q (by rw[p3 q bb hh];simp)
 obtain⟨u,w',G',bK,r',hv⟩:=r.aar (P:=P) (σ2:=σ2) (n:=n) (m:=m) (m2:=m2) (px:=px) (py:=py) (ty:=o.type) (p1.trans q1) (p2.trans q2) H2 (aT.trans (u2:=fun n=>σ1.used n=true) (fun q hq=>by rw[q2];exact hq) K1 K2)
  (by rw[<-q2,<-p2];exact hn) iE F2 F1.len L2 R2 (fun b cq b' o' cap dS tJ VC=>by
   rcases L1 with⟨_,h,_⟩|⟨b0,o0,uL,cur,e',b1,b2,b3,b4,b5,b6,⟨l1,l2,l3⟩,b8,b9⟩
   ·rw[h] at tJ;injection tJ with _ _ tJ;omega
   ·rw[b1] at tJ
    injection tJ with tJ
    injection tJ with tJ
    have zG:=(nb tJ).1
    subst zG
    exact n5 b cq b0 l1 l3) ht hi hz bE pj xu qN (by rw[<-pt,<-z7];exact hb)
 have L9:(px++py).map (fun e=>e.map PC.er)=xs++ys:=by rw[List.map_append,<-e1,<-e2]
 rw[L9] at r' hv
 rw[<-pt,<-z7] at hv
 refine mZ (v:=u) (w':=w') ?_ ⟨G',r'.put hv (fun q hq=>by have dM:q=n:=hq;subst dM;exact bC _ _ _) (fun q hq=>by rw[hd] at hq;injection hq with hq;omega)⟩
 simp[execOp,ho,resolve,invoke,builtin,bK]
end
end Go.Am
