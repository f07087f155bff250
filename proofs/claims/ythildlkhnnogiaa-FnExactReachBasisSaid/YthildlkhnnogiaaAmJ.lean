/- AmH, AmI, AmJ: parts of the proof. No condition. -/
import Derived.Test.YthildlkhnnogiaaAmG
set_option linter.unusedVariables false
section
namespace Go.Am
section
variable {B:Nat} {E:Ex} {w0 w w':World} {G G':Gh} {N:Nat} {h h':Nat->Option aj} {used used':Nat->Bool}
variable {P:Program} {o:Oper} {a:Act} {σ σ':St} {Q:Exit->Act->World->Prop}
structure ur (B:Nat) (E:Ex) (w:World) (G:Gh) (h:Nat->Option aj) (pc:PC):Prop where
 dk:Good w pc
 sep:Sep pc
 own:∀b,aK b pc->¬G.Im b/\cP w b/\(B<=b\/E b)
 name:∀b,aK b pc->∀m,h m≠none->(G.g m).nl=false->b≠(G.g m).b
 row:∀b,aK b pc->∀m gr mo sz xs,h m=some (.row gr mo sz xs)->¬aP b (G.g m).px
theorem ur.less {pc:PC} (L:ur B E w G h pc) (hl:∀n b,h' n=some b->h n=some b):ur B E w G h' pc:=
 ⟨L.dk,L.sep,L.own,fun b hb m h0=>L.name b hb m (by
  cases hh:h' m with
  |none=>exact absurd hh h0
  |some x=>rw[hl m x hh];simp),fun b hb m gr mo sz xs h0=>L.row b hb m gr mo sz xs (hl m _ h0)⟩
theorem ur.vT {pc:PC} (hg:Good w pc) (bG:∀b,¬aK b pc):ur B E w G h pc:=
 ⟨hg,Sep.vT bG hg,fun b hb=>absurd hb (bG b),fun b hb=>absurd hb (bG b),fun b hb=>absurd hb (bG b)⟩
theorem HR.uj (H:HR B E w G σ.h σ.used []) {c:ab} {x:C} {ok:Bool} {σ1:St} {v:Value} (hx:σ.uj c=some (x,ok,σ1)) (hc:RC w G σ.h c v):
  ∃pc:PC,pc.er=x/\pc.val=v/\ur B E w G σ1.h pc/\(ok=true->nR w pc)/\HR B E w G σ1.h σ1.used []/\aR w G σ.h (fun n=>σ.used n=true) w G σ1.h/\σ1.env=σ.env/\σ1.used=σ.used/\(∀n b,σ1.h n=some b->σ.h n=some b)/\
   (∀b,aK b pc->∃n,σ.h n≠none/\(G.g n).nl=false/\(G.g n).b=b):=by
 unfold St.uj at hx
 split at hx
 ·rename_i y
  split at hx
  ·rename_i hs
   injection hx with hx
   injection hx with h1 h2
   injection h2 with h2 h3
   subst h1 h2 h3
   obtain⟨pc,p1,p2,p3,_⟩:=hc
   have gX:pc.er.dL=true:=by rw[p1];exact hs
   have bG:=(Sep.fT gX).2
   exact⟨pc,p1,p2,.vT p3 bG,fun _=>nR.fT gX,H,aR.refl _ _ _ _,rfl,rfl,fun _ _ h=>h,fun b hb=>absurd hb (bG b)⟩
  ·cases hx
 ·rename_i sz
  split at hx
  ·rename_i hp
   injection hx with hx
   injection hx with h1 h2
   injection h2 with h2 h3
   subst h1 h2 h3
   have bZ:v=.slice none 0 0:=hc
   subst bZ
   have bG:∀b,¬aK b (.list sz none 0 []):=fun b hb=>by
    rw[aK.jw] at hb
    rcases hb with⟨hb,_⟩|⟨k,j,c,⟨e,he,_⟩,_⟩
    ·exact absurd rfl hb
    ·simp at he
   exact⟨.list sz none 0 [],by simp[PC.cN],rfl,.vT (.nil _ _ _ hp) bG,fun _=>.inl rfl,H,aR.refl _ _ _ _,rfl,rfl,fun _ _ h=>h,fun b hb=>absurd hb (bG b)⟩
  ·cases hx
 ·rename_i n sz len
  split at hx
  ·rename_i gr m rs xs hn
   split at hx
   ·rename_i bR
    obtain⟨rfl,hm,gO,hl⟩:=bR
    injection hx with hx
    injection hx with h1 h2
    injection h2 with h2 h3
    subst h1 h2 h3
    have bi:σ.h n≠none:=by rw[hn];simp
    have hr:=H.row n gr m rs xs hn
    have hs:eU (G.g n) rs 0 len v:=hc bi
    obtain⟨a1,a2,a3,a4⟩:=C0 hr hs (by omega)
    have OR:dd ((G.g n).px.map fun e=>e.map PC.er)=true:=by rw[<-hr.er];exact gO
    have af1:∀b,¬aP b (G.g n).px:=uf OR
    have dw:∀b,aK b (ix (G.g n) rs 0 len v)->(G.g n).nl=false/\b=(G.g n).b:=fun b hb=>(a4 b hb).resolve_right (af1 b)
    have Eo:∃x0 c0,ix (G.g n) rs 0 len v=.list rs x0 c0 (((G.g n).px.drop 0).take len):=by
     rcases hs with⟨_,rfl,_,_⟩|⟨_,a',rfl,_,_⟩<;>exact⟨_,_,rfl⟩
    have dJ:dd ((((G.g n).px.drop 0).take len).map fun e=>e.map PC.er)=true:=by
     simp only[dd,List.all_eq_true,List.mem_map] at OR⊢
     rintro e ⟨e0,jG,rfl⟩
     exact OR _ ⟨e0,List.mem_of_mem_drop (List.mem_of_mem_take jG),rfl⟩
    refine⟨ix (G.g n) rs 0 len v,by simpa using a1,a2,⟨a3,?_,fun b hb=>?_,fun b hb q hq rW=>?_,fun b hb q aW mo ax ak hq=>?_⟩,fun eG=>?_,H.del n,aR.del n _,rfl,rfl,fun q b hq=>(kY hq).1,fun b hb=>⟨n,bi,(dw b hb).1,(dw b hb).2.symm⟩⟩
    ·obtain⟨x0,c0,hf⟩:=Eo
     rw[hf]
     exact Sep.flat dJ
    ·obtain⟨fa,rfl⟩:=dw b hb
     exact⟨(H.own n bi fa).1,(hr.cZ fa).1,(H.own n bi fa).2.1⟩
    ·obtain⟨fa,rfl⟩:=dw b hb
     obtain⟨q1,q2⟩:=tc hq
     exact H.inj n q bi q1 (Ne.symm q2) fa rW
    ·obtain⟨fa,rfl⟩:=dw b hb
     intro hF
     exact H.nc bi fa (kY hq).1 hF rfl
    ·simp only[Bool.and_eq_true,decide_eq_true_eq] at eG
     obtain⟨rfl,dQ⟩:=eG
     have dz:(G.g n).px.length=xs.length:=by rw[hr.er];simp
     rcases hs with⟨aD,rfl,_,rfl⟩|⟨aD,a',rfl,gh,ha⟩
     ·omega
     ·obtain⟨r2,cur,e,r3,r4⟩:=hr.room aD rfl
      have lm:=ha (.inr rfl)
      refine .inr ⟨?_,?_,(G.g n).b,(G.g n).o,cur,e,by rw[lm];simp,r3,by simpa using r4⟩
      ·intro h0
       have:=congrArg List.length h0
       simp at this
       rcases this with h|h
       ·omega
       ·have:(G.g n).px.length=0:=by rw[h];rfl
        omega
      ·simpa using r2
   ·cases hx
  ·cases hx
 ·cases hx
theorem HR.rr:∀{cs:List ab} {σ σ1:St} {xs:List C} {ok:Bool} {vs:List Value},HR B E w G σ.h σ.used []->σ.rr cs=some (xs,ok,σ1)->cb w G σ.h cs vs->(∀c∈cs,∀m,c.ref m->σ.used m=true)->
  ∃bg:List PC,bg.map PC.er=xs/\bg.map PC.val=vs/\(∀pc∈bg,ur B E w G σ1.h pc)/\(∀(i j:Nat) (pc cm:PC) (b:Nat),i≠j->bg[i]? =some pc->bg[j]? =some cm->aK b pc->¬aK b cm)/\
   (ok=true->∀pc,bg[cs.length - 1]? =some pc->nR w pc)/\HR B E w G σ1.h σ1.used []/\aR w G σ.h (fun n=>σ.used n=true) w G σ1.h/\σ1.env=σ.env/\σ1.used=σ.used/\(∀n b,σ1.h n=some b->σ.h n=some b)/\
   (∀pc∈bg,∀b,aK b pc->∃n,σ.h n≠none/\(G.g n).nl=false/\(G.g n).b=b)
 |[],σ,σ1,xs,ok,vs,H,hx,hc,hr=>by
  simp only[St.rr] at hx
  injection hx with hx
  injection hx with h1 h2
  injection h2 with h2 h3
  subst h1 h2 h3
  have:vs=[]:=List.eq_nil_of_length_eq_zero (by simpa using hc.1)
  subst this
  exact⟨[],rfl,rfl,by simp,by simp,by simp,H,aR.refl _ _ _ _,rfl,rfl,fun _ _ h=>h,by simp⟩
 |c::cs,σ,σ2,xs,ok,vs,H,hx,hc,hr=>by
  simp only[St.rr] at hx
  split at hx
  ·rename_i x o1 σ1 e1
   split at hx
   ·rename_i ak o2 fE e2
    injection hx with hx
    injection hx with h1 h2
    injection h2 with h2 h3
    subst h1 h2 h3
    obtain⟨hlen,bO⟩:=hc
    match vs,hlen with
    |v::vs,hlen=>
     obtain⟨pc,a1,a2,a3,a4,a5,a6,a7,a8,a9,a10⟩:=H.uj e1 (bO 0 c v rfl rfl).2
     have lr:cb w G σ1.h cs vs:=cb.eJ a6 (fun c' bZ m hm=>hr c' (by simp[bZ]) m hm) ⟨by simpa using hlen,fun j c u h1 h2=>bO (j+1) c u h1 h2⟩
     obtain⟨bg,b1,b2,b3,b4,b5,b6,b7,b8,b9,oY,A6⟩:=HR.rr a5 e2 lr (fun c' bZ m hm=>by rw[a8];exact hr c' (by simp[bZ]) m hm)
     have mh:∀cm∈bg,∀b,aK b pc->¬aK b cm:=by
      intro cm af4 b hb aE
      obtain⟨n,n1,n2,n3⟩:=A6 cm af4 b aE
      exact a3.name b hb n n1 n2 n3.symm
     refine⟨pc::bg,by simp[a1,b1],by simp[a2,b2],fun q hq=>?_,fun i j p p' b gL hi hj hb=>?_,fun eG q hq=>?_,b6,aR.trans (fun n hn=>by rw[a8];exact hn) a6 b7,b8.trans a7,b9.trans a8,fun n b hb=>a9 n b (oY n b hb),fun q hq b hb=>?_⟩
     ·rcases List.mem_cons.1 hq with rfl|hq
      ·exact a3.less oY
      ·exact b3 q hq
     ·cases i with
      |zero=>
       simp at hi;subst hi
       cases j with
       |zero=>exact absurd rfl gL
       |succ j=>exact mh p' (List.mem_of_getElem? (by simpa using hj)) b hb
      |succ i=>
       cases j with
       |zero=>
        simp at hj;subst hj
        exact fun aE=>mh p (List.mem_of_getElem? (by simpa using hi)) b aE hb
       |succ j=>exact b4 i j p p' b (by omega) (by simpa using hi) (by simpa using hj) hb
     ·cases cs with
      |nil=>
       have EE:bg=[]:=by
        have:=congrArg List.length b1
        simp only[St.rr] at e2
        injection e2 with e2
        injection e2 with e2 _
        rw[<-e2] at this
        simpa using this
       subst EE
       simp at hq
       subst hq
       exact a4 eG
      |cons c2 Bo=>
       refine b5 eG q ?_
       simpa using hq
     ·rcases List.mem_cons.1 hq with rfl|hq
      ·exact a10 b hb
      ·obtain⟨n,n1,n2,n3⟩:=A6 q hq b hb
       refine⟨n,?_,n2,n3⟩
       cases hh:σ1.h n with
       |none=>exact absurd hh n1
       |some bb=>rw[a9 n bb hh];simp
   ·cases hx
  ·cases hx
theorem aaf {t e:TypeId} {x:Operand} {i:TypeInfo} {z:Value} {sz:Nat} (ho:o.op=.buildSlice t 1 #[(0,x)]) (ht:P.underlying t=some (.slice e)) (hi:P.info? e=some i) (hz:i.zero=some z) (bn:i.size=sz) (eC:0<sz)
  (BO:sz<=16777216) (hv:(a.eval x).cells.size=sz):
  (execOp a.eval o).run P w=.ok (.value (.slice (some (ad w.heap.size 0)) 1 1)) (w.alloc (.cells (a.eval x).cells e)):=by
 have IZ:∀cs:Array Value,cs.size=1*sz->Instr.fill (fun i=>some (i*sz,sz)) cs [(0,a.eval x)]=some (a.eval x).cells:=by
  intro cs dm
  have h1:=M5 sz [a.eval x] 0 cs (by intro v eH;simp at eH;rw[eH];exact hv) (by simp;omega)
  simp only[List.zipIdx_cons,List.zipIdx_nil,List.map_cons,List.map_nil] at h1
  rw[h1]
  congr 1
  apply Array.ext'
  simp only[ci,Nat.zero_mul,List.take_zero,List.nil_append,Nat.zero_add,List.flatMap_cons,List.flatMap_nil,List.append_nil]
  rw[List.drop_eq_nil_of_le (by rw[Array.length_toList,Array.length_toList,dm,hv];omega)]
  simp
 have hf:=IZ ((Array.range (1*sz)).map (z.cells[·%z.cells.size]!)) (by simp)
 have h0:¬(1*sz=0):=by omega
 have hb:¬(16777216<1*sz):=by omega
 simp only[Nat.one_mul] at hf h0 hb
 have aE:¬(16777216<sz):=by omega
 have hs0:¬(sz=0):=by omega
 simp[execOp,ho,Instr.buildSlice,run_underlying ht,sizeOf,typeInfo,hi,bn,hs0,aE,zeroValue,hz,hf,newRow,ad]
end
end Go.Am
end
section
namespace Go.Am
section
variable {B:Nat} {E:Ex} {w0 w w':World} {G G':Gh} {N:Nat} {h h':Nat->Option aj} {used used':Nat->Bool}
variable {P:Program} {o:Oper} {a:Act} {σ σ':St} {Q:Exit->Act->World->Prop}
theorem ad5 (r:R B E w0 N σ a w G) {n n0:Nat} {t e:TypeId} {i:TypeInfo} {x y:Operand} {mx my:MO} {sz:Nat} {l:Int} {m:Mode} {xs:List (List C)} {σ1:St} (ho:o.op=.slice t x (some y) none none) (hd:o.dst=some n) (hN:n<N)
  (eR:bd x mx=true) (fo:bd y my=true) (ht:P.underlying t=some (.slice e)) (hi:P.info? e=some i) (bn:i.size=sz) (eC:0<sz)
  (hx:σ.ev mx=.one (.sl n0 sz 0 xs.length)) (hl:(σ.ev my).cJ=some l) (h0:0<=l) (h1:l<=(xs.length:Int)) (hn:σ.h n0=some (.row true m sz xs)) (tp:(σ.del n0).ins n (.row true m sz (xs.drop l.toNat))=some σ1):
  o.wp P a w (fun a' w'=>w'=w/\(∃v,a'=a.put o.dst v)/\∃p:PB,R B E w0 N (σ1.put o.dst (.one (.sl n sz 0 (xs.length - l.toNat)))) a' w ⟨G.Im,ao G.g n p⟩/\p.px=(G.g n0).px.drop l.toNat/\(p.nl=false->p.b=(G.g n0).b/\(G.g n0).nl=false)) Q:=by
 obtain⟨rY,rfl⟩:=iI tp
 obtain⟨x1,x2⟩:=r.ev eR
 rw[hx] at x1 x2
 obtain⟨kk,ey⟩:=(r.ev fo).1.int hl
 have bi:σ.h n0≠none:=by rw[hn];simp
 have fC:eU (G.g n0) sz 0 xs.length (a.eval x):=(x1.dB (by simp)).1 bi
 have H:=r.hr
 have hr:=H.row n0 true m sz xs hn
 have nq:xs.length=(G.g n0).px.length:=by rw[hr.er];simp
 have F:=jV.Fz H hn (fun _=>rfl)
 have hln:l.toNat<=xs.length:=by omega
 obtain⟨p,v,dC,aS,vm,dz,EL⟩:∃(p:PB) (v:Value),p.px=(G.g n0).px.drop l.toNat/\(execOp a.eval o).run P w=.ok (.value v) w/\(p.nl=true->p.px=[]/\p.cap=0)/\
   (p.nl=false->(G.g n0).nl=false/\p.b=(G.g n0).b/\p.o=(G.g n0).o+l.toNat*sz/\p.cap=(G.g n0).cap - l.toNat/\l.toNat<=(G.g n0).cap)/\eU p sz 0 (xs.length - l.toNat) v:=by
  rcases fC with⟨aD,hv,_,fa⟩|⟨aD,a',hv,gh,ha⟩
  ·have aS:=z8 (P:=P) (w:=w) (ya:=(G.g n0).na) (len:=0) (cap:=(G.g n0).cap) (lo:=some (.int kk l)) (hi':=none) (l:=l) (hh:=0) ht hi bn (.inr ⟨kk,rfl⟩) (.inl ⟨rfl,rfl⟩) h0 (by omega) (by omega) (Nat.zero_le _)
   obtain⟨vW,o7⟩:=hr.nl aD
   have o7:=o7 rfl
   have Oy:l.toNat=0:=by omega
   refine⟨⟨true,0,0,0,[],(G.g n0).na⟩,.slice (G.g n0).na 0 0,by rw[vW];simp,?_,fun _=>⟨rfl,rfl⟩,(fun h=>by cases h),.inl ⟨rfl,rfl,rfl,by omega⟩⟩
   simp only[execOp,ho,hv,Option.map_none,Option.map_some,ey]
   rw[o7,Oy] at aS
   simp only[if_true] at aS
   simp[aS,o7]
   omega
  ·have aS:=z8 (P:=P) (w:=w) (ya:=a') (len:=xs.length) (cap:=(G.g n0).cap - 0) (lo:=some (.int kk l)) (hi':=none) (l:=l) (hh:=xs.length) ht hi bn (.inr ⟨kk,rfl⟩) (.inl ⟨rfl,rfl⟩) h0 h1 (by omega) (by omega)
   have lm:=ha (.inr rfl)
   have e2:((xs.length:Int) - l).toNat=xs.length - l.toNat:=by omega
   rw[e2,Nat.sub_zero] at aS
   by_cases hc:(G.g n0).cap=l.toNat
   ·have e3:xs.length - l.toNat=0:=by omega
    rw[if_pos hc,e3] at aS
    refine⟨⟨true,0,0,0,[],a'⟩,.slice a' 0 0,?_,?_,fun _=>⟨rfl,rfl⟩,(fun h=>by cases h),.inl ⟨rfl,rfl,rfl,e3⟩⟩
    ·rw[List.drop_eq_nil_of_le (by omega)]
    ·simp only[execOp,ho,hv,Option.map_none,Option.map_some,ey,Nat.sub_zero]
     rw[hc,Nat.sub_self] at aS
     simp[aS,hc]
   ·rw[if_neg hc,lm] at aS
    simp only[Option.map_some,mY,Nat.zero_mul,Nat.add_zero] at aS
    refine⟨⟨false,(G.g n0).b,(G.g n0).o+l.toNat*sz,(G.g n0).cap - l.toNat,(G.g n0).px.drop l.toNat,none⟩,.slice (some (ad (G.g n0).b ((G.g n0).o+l.toNat*sz))) (xs.length - l.toNat) ((G.g n0).cap - l.toNat),rfl,?_,(fun h=>by cases h),fun _=>⟨aD,rfl,rfl,rfl,by omega⟩,.inr ⟨rfl,some (ad (G.g n0).b ((G.g n0).o+l.toNat*sz)),by simp,by simp;omega,fun _=>by simp⟩⟩
    simp only[execOp,ho,hv,Option.map_none,Option.map_some,ey,Nat.sub_zero,lm,Nat.zero_mul,Nat.add_zero]
    simp[aS]
 have dJ:∀b,aP b p.px->aP b (G.g n0).px:=fun b hb=>Z9 (by rw[<-dC];exact hb)
 have H1:HR B E w G (ao σ.h n0 none) σ.used []:=H.del n0
 have K1:aR w G σ.h (fun q=>σ.used q=true) w G (ao σ.h n0 none):=aR.del n0 _
 have Hn:HR B E w ⟨G.Im,ao G.g n p⟩ (ao (ao σ.h n0 none) n (some (.row true m sz (xs.drop l.toNat)))) (ao σ.used n true) []:=by
  refine H1.insert (w':=w) (p:=p) rY (fun _ _=>rfl) (Nat.le_refl _) (fun hf=>?_) (fun cs c q hb=>by cases hb) ?_ ?_ ?_ (fun gr m sz xs _ _ i pc b hi=>by simp at hi)
  ·obtain⟨q1,q2,q3,q4,q5⟩:=dz hf
   obtain⟨o1,o2,o3⟩:=H.own n0 bi q1
   rw[q2]
   refine⟨⟨o1,fun q hq rW=>?_,fun q gr m' ax ak hq hb=>?_⟩,o2,o3⟩
   ·obtain⟨d1,d2⟩:=tc hq
    exact H.inj q n0 d1 bi d2 rW q1
   ·exact H.nc bi q1 (kY hq).1 hb rfl
  ·refine⟨hr.pos,by rw[dC,hr.er,List.map_drop],fun h=>⟨(vm h).1,fun _=>(vm h).2⟩,fun hf=>?_,fun hf _=>?_,?_,fun _ hm k c hk=>hr.nr rfl hm _ _ (rD (by rw[<-dC];exact hk))⟩
   ·obtain⟨q1,q2,q3,q4,q5⟩:=dz hf
    obtain⟨l1,⟨l2,l3,l4⟩,l5⟩:=hr.cZ q1
    rw[q2,q3,q4,dC]
    refine⟨l1,⟨fun e he=>l2 e (List.mem_of_mem_drop he),fun k j c hk=>?_,fun k j c hk=>l4 _ _ _ (rD hk)⟩,by simp;omega⟩
    have:=l3 _ _ _ (rD hk)
    rw[<-this]
    congr 2
    rw[Nat.add_mul]
    omega
   ·obtain⟨q1,q2,q3,q4,q5⟩:=dz hf
    obtain⟨r2,cur,ee,r3,r4⟩:=hr.room q1 rfl
    unfold AY
    rw[q2,q3,q4]
    refine⟨by omega,cur,ee,r3,?_⟩
    rw[r4,Nat.add_assoc,<-Nat.add_mul]
    congr 2
    omega
   ·have hm:=hr.mode
    show yJ B E w _ p.px m
    cases m with
    |aG=>exact fun b hb=>hm b (dJ b hb)
    |af=>exact⟨fun b hb=>hm.1 b (dJ b hb),by rw[dC];exact hm.2.drop _⟩
    |live=>exact⟨fun b hb=>hm.1 b (dJ b hb),by rw[dC];exact hm.2.drop _⟩
  ·intro gr m' ax ak hb gi q aW mo gm eT h0 fY b bL
   injection hb with _ hb _ _
   subst hb
   exact F.eV gi q aW mo gm eT h0 fY b (dJ b bL)
  ·intro gr ax ak hb b bL
   injection hb with _ hb _ _
   exact⟨fun hf=>by rw[(dz hf).2.1];exact H.nc bi (dz hf).1 hn (dJ b bL),fun q h0 rW=>F.live hb b (dJ b bL) q h0 rW⟩
 have r':R B E w0 N {(σ.del n0) with h:=ao (σ.del n0).h n (some (.row true m sz (xs.drop l.toNat))),used:=ao (σ.del n0).used n true} a w ⟨G.Im,ao G.g n p⟩:=
  r.step rfl (fun q hq=>lQ n q hq) (aR.trans (u2:=fun q=>σ.used q=true) (fun _ h=>h) K1 (aR.insert H1 rY (fun _ _=>rfl))) Hn r.fr
 have lz:v.oneCell'=true:=by rcases EL with⟨_,h,_⟩|⟨_,_,h,_⟩<;>rw[h]<;>rfl
 have dc:RC w ⟨G.Im,ao G.g n p⟩ (ao (ao σ.h n0 none) n (some (.row true m sz (xs.drop l.toNat)))) (.sl n sz 0 (xs.length - l.toNat)) v:=fun _=>by simpa[bo] using EL
 exact jk (v:=v) (w':=w) aS ⟨rfl,⟨v,rfl⟩,p,r'.put (RA.dS lz dc) (fun q hq=>by have db:q=n:=hq;subst db;exact bo _ _ _) (fun q hq=>by rw[hd] at hq;injection hq with hq;omega),dC,fun h=>⟨(dz h).2.1,(dz h).1⟩⟩
theorem R.rl (r:R B E w0 N σ a w G) {s:Nat} {x:ah} (hv:RA w G σ.h x (a.tmps.getD s undef)) (hr:∀m,x.ref m->σ.used m=true):R B E w0 N {σ with env:=ao σ.env s x} a w G:=by
 refine⟨r.defers,r.size,fun q=>?_,fun q m hm=>?_,r.hr,r.fr,r.nF,r.t8⟩
 ·show RA w G σ.h (ao σ.env s x q) _
  by_cases hq:q=s
  ·subst hq;rw[bo];exact hv
  ·rw[bP _ _ _ _ hq];exact r.env q
 ·have bm:(ao σ.env s x q).ref m:=hm
  by_cases hq:q=s
  ·subst hq;rw[bo] at bm;exact hr m bm
  ·rw[bP _ _ _ _ hq] at bm;exact r.nO q m bm
theorem eU.eq0 {p:PB} {sz len:Nat} {v v':Value} (h1:eU p sz 0 len v) (h2:eU p sz 0 len v'):v=v':=by
 rcases h1 with⟨a1,a2,_,_⟩|⟨a1,b,a2,_,a3⟩
 ·rcases h2 with⟨_,b2,_,_⟩|⟨b1,_⟩
  ·rw[a2,b2]
  ·rw[a1] at b1;cases b1
 ·rcases h2 with⟨b1,_⟩|⟨b1,b',b2,_,b3⟩
  ·rw[a1] at b1;cases b1
  ·rw[a2,b2,a3 (.inr rfl),b3 (.inr rfl)]
theorem R.agD (r:R B E w0 N σ a w G) {q sz cap:Nat} {x0:Option Addr} {kf:List (List PC)} (hq:σ.used q=false) (L:ur B E w G σ.h (.list sz x0 cap kf)) (gO:dd (kf.map fun e=>e.map PC.er)=true) (eC:0<sz):
  ∃G',R B E w0 N {σ with h:=ao σ.h q (some (.row false .af sz (kf.map fun e=>e.map PC.er))),used:=ao σ.used q true} a w G'/\
   RC w G' (ao σ.h q (some (.row false .af sz (kf.map fun e=>e.map PC.er)))) (.sl q sz 0 kf.length) (PC.val (.list sz x0 cap kf)):=by
 have H:=r.hr
 have bG:=uf gO
 have iG:gF kf:=by cases L.sep with|list _ _ _ _ h1 h2 h3=>exact⟨h1,h3⟩
 have eY:∀G2:Gh,yJ B E w G2 kf .af:=fun G2=>⟨fun b hb=>absurd hb (bG b),iG⟩
 by_cases h0:kf=[]
 ·subst h0
  refine⟨⟨G.Im,ao G.g q ⟨true,0,0,cap,[],x0⟩⟩,r.step rfl (fun m hm=>lQ q m hm) (aR.insert H hq (fun _ _=>rfl)) ?_ r.fr,fun _=>.inl ?_⟩
  ·exact H.insert (w':=w) (p:=⟨true,0,0,cap,[],x0⟩) hq (fun _ _=>rfl) (Nat.le_refl _) (fun h=>by cases h) (fun cs c m hb=>by cases hb) ⟨eC,rfl,fun _=>⟨rfl,fun h=>by cases h⟩,(fun h=>by cases h),(fun h=>by cases h),eY _,fun h=>by cases h⟩
    (fun gr m sz xs _ _ n' aW m' ax ak _ _ b hb=>absurd hb (bG b)) (fun gr sz xs _ b hb=>absurd hb (bG b)) (fun gr m sz xs _ _ i pc b hi=>by simp at hi)
  ·simp[bo,PC.val]
 ·obtain⟨b,ob,rfl⟩:∃b ob,x0=some (ad b ob):=by
   cases L.dk with
   |nil _ _ _ _=>exact absurd rfl h0
   |cons _ b ob _ _ _ _ _ _ _ _=>exact⟨b,ob,rfl⟩
  have dw:aK b (.list sz (some (ad b ob)) cap kf):=.here _ _ _ _ h0
  obtain⟨o1,o2,o3⟩:=L.own b dw
  have dR:lR w b ob sz kf/\kf.length<=cap:=by
   have hg:=L.dk
   generalize e9:PC.list sz (some (ad b ob)) cap kf=p at hg
   cases hg with
   |int k n=>cases e9
   |bool b=>cases e9
   |nil _ _ _ _=>injection e9 with _ _ _ e4;exact absurd e4 h0
   |cons _ b' Q4 _ _ q1 q2 q3 q4 q5 q6=>
    injection e9 with f1 f2 f3 f4
    injection f2 with f2
    obtain⟨rfl,rfl⟩:=jF f2
    subst f1 f3 f4
    exact⟨⟨q4,q5,q6⟩,q2⟩
  refine⟨⟨G.Im,ao G.g q ⟨false,b,ob,cap,kf,none⟩⟩,r.step rfl (fun m hm=>lQ q m hm) (aR.insert H hq (fun _ _=>rfl)) ?_ r.fr,fun _=>.inr ?_⟩
  ·exact H.insert (w':=w) (p:=⟨false,b,ob,cap,kf,none⟩) hq (fun _ _=>rfl) (Nat.le_refl _) (fun _=>⟨⟨o1,fun m hm hl he=>L.name b dw m hm hl he.symm,fun m gr mo ax ak hm=>L.row b dw m gr mo ax ak hm⟩,o3,o2.lt⟩) (fun cs c m hb=>by cases hb)
    ⟨eC,rfl,(fun h=>by cases h),fun _=>⟨o2,dR.1,dR.2⟩,(fun _ h=>by cases h),eY _,fun h=>by cases h⟩
    (fun gr m sz xs _ _ n' aW m' ax ak _ _ b hb=>absurd hb (bG b)) (fun gr sz xs _ b hb=>absurd hb (bG b)) (fun gr m sz xs _ _ i pc b hi=>by simp at hi)
  ·refine⟨by simp[bo],some (ad b ob),by simp[bo,PC.val],by simpa[bo] using dR.2,fun _=>by simp[bo]⟩
theorem ado (r:R B E w0 N σ a w G) {n:Nat} {t e:TypeId} {x:Operand} {mx:MO} {i:TypeInfo} {z:Value} {sz:Nat} {ag:Bool} {cs:List ab} {es:List C} {σ1 σ2:St}
  (ho:o.op=.buildSlice t 1 #[(0,x)]) (hd:o.dst=some n) (hN:n<N) (ht:P.underlying t=some (.slice e)) (hi:P.info? e=some i) (hz:i.zero=some z) (bn:i.size=sz) (eC:0<sz) (BO:sz<=16777216)
  (hm:bd x mx=true) (dm:(σ.ev mx).cells?=some (ag,cs)) (hl:cs.length=sz) (kz:σ.rr cs=some (es,true,σ1)) (hx:σ1.ins n (.row true .live sz [es])=some σ2):
  o.wp P a w (Nx B E w0 N (σ2.put o.dst (.one (.sl n sz 0 1)))) Q:=by
 obtain⟨hn,rfl⟩:=iI hx
 obtain⟨x1,x2⟩:=r.ev hm
 have bA:=x1.cells dm
 obtain⟨bg,a1,a2,a3,a4,a5,H1,K1,a7,a8,a9,_⟩:=HR.rr r.hr kz bA (fun c hc m hm=>x2 m (ah.wO dm hc hm))
 have dz:bg.length=sz:=by
  have:=congrArg List.length a2
  simp only[List.length_map] at this
  rw[this,bA.1,hl]
 have gP:(a.eval x).cells.size=sz:=by rw[<-Array.length_toList,bA.1,hl]
 have aS:=aaf (P:=P) (w:=w) ho ht hi hz bn eC BO gP
 have hB:=r.fr.size
 have hw:=HV w (.cells (a.eval x).cells e)
 have bO:∀k j c,At [bg] k j c->k=0/\bg[j]? =some c:=by
  rintro k j c ⟨e1,he,hj⟩
  cases k with
  |zero=>simp at he;subst he;exact⟨rfl,hj⟩
  |succ k=>simp at he
 have hF:∀b,aP b [bg]->∃pc∈bg,aK b pc:=by
  rintro b ⟨k,j,c,hk,hb⟩
  exact⟨c,List.mem_of_getElem? (bO k j c hk).2,hb⟩
 have X0:σ1.used n=false:=hn
 have Hn:HR B E (w.alloc (.cells (a.eval x).cells e)) ⟨G.Im,ao G.g n ⟨false,w.heap.size,0,1,[bg],none⟩⟩ (ao σ1.h n (some (.row true .live sz [es]))) (ao σ1.used n true) []:=by
  refine H1.insert (p:=⟨false,w.heap.size,0,1,[bg],none⟩) X0 hw (by simp) (fun _=>⟨H1.JC,.inl hB,by simp⟩) (fun cs c m hb=>by cases hb) ?_ ?_ ?_ (fun gr m sz xs _ _ i pc b hi=>by simp at hi)
  ·refine⟨eC,by simp[a1],(fun hl=>by cases hl),fun _=>⟨cP.alloc _ _ _,⟨fun e he=>by simp at he;rw[he];exact dz,fun k j c hk=>?_,fun k j c hk=>?_⟩,by simp⟩,fun _ _=>⟨by simp only[maxLen];omega,(a.eval x).cells,e,heap_alloc_new w _,by simp[gP]⟩,⟨fun b hb=>?_,fun k j c hk=>?_,fun k j c k' j' c' b hk bx av hb=>?_⟩,fun _ _ k c hk=>?_⟩
   ·obtain⟨rfl,hj⟩:=bO k j c hk
    simp only[Nat.zero_mul,Nat.zero_add]
    unfold ad
    rw[World.cell?_alloc_new]
    have:(a.eval x).cells.toList[j]? =some c.val:=by rw[<-a2,List.getElem?_map,hj];rfl
    simpa using this
   ·have hg:=(a3 c (List.mem_of_getElem? (bO k j c hk).2)).dk
    exact hg.congr fun b hb o=>fO (hw b (hg.lt hb)) o
   ·obtain⟨pc,aT,aE⟩:=hF b hb
    obtain⟨q1,q2,q3⟩:=(a3 pc aT).own b aE
    exact⟨q1,q2.congr (hw b q2.lt),q3⟩
   ·exact(a3 c (List.mem_of_getElem? (bO k j c hk).2)).sep
   ·obtain⟨rfl,hj⟩:=bO k j c hk
    obtain⟨rfl,iD⟩:=bO k' j' c' bx
    exact a4 j j' c c' b (fun e=>av (by rw[e])) hj iD hb
   ·obtain⟨rfl,hj⟩:=bO k _ c hk
    have zx:=a5 rfl c (by rw[hl];exact hj)
    exact zx.cz fun b hb arr e' he=>⟨arr,(hw b ((a3 c (List.mem_of_getElem? hj)).own b hb).2.1.lt).trans he,rfl⟩
  ·intro gr m' ax ak hb gi n' aW iv gm eT h0 fY b bL
   obtain⟨pc,aT,aE⟩:=hF b bL
   exact(a3 pc aT).row b aE n' aW iv gm eT h0
  ·intro gr ax ak hb b bL
   obtain⟨pc,aT,aE⟩:=hF b bL
   refine⟨fun _=>?_,fun n' h0 hl=>(a3 pc aT).name b aE n' h0 hl⟩
   have:=((a3 pc aT).own b aE).2.1.lt
   show b≠w.heap.size
   omega
 have r':R B E w0 N {σ1 with h:=ao σ1.h n (some (.row true .live sz [es])),used:=ao σ1.used n true} a (w.alloc (.cells (a.eval x).cells e)) ⟨G.Im,ao G.g n ⟨false,w.heap.size,0,1,[bg],none⟩⟩:=
  r.step a7 (fun q hq=>lQ n q (by rw[a8];exact hq)) (aR.trans (u2:=fun q=>σ1.used q=true) (fun q hq=>by rw[a8];exact hq) K1 (aR.insert H1 X0 hw)) Hn (r.fr.grow hw (by simp) rfl rfl rfl)
 have dc:RC (w.alloc (.cells (a.eval x).cells e)) ⟨G.Im,ao G.g n ⟨false,w.heap.size,0,1,[bg],none⟩⟩ (ao σ1.h n (some (.row true .live sz [es]))) (.sl n sz 0 1) (.slice (some (ad w.heap.size 0)) 1 1):=
  fun _=>Or.inr ⟨by simp[bo],some (ad w.heap.size 0),by simp[bo],by simp[bo],by simp[bo]⟩
 exact jk aS ⟨_,r'.put (RA.dS rfl dc) (fun q hq=>by have db:q=n:=hq;subst db;exact bo _ _ _) (fun q hq=>by rw[hd] at hq;injection hq with hq;omega)⟩
theorem adp (r:R B E w0 N σ a w G) {n s q sz len:Nat} {t e:TypeId} {x:Operand} {mx:MO} {i:TypeInfo} {z:Value} {y:C} {σ1 σ2:St}
  (ho:o.op=.buildSlice t 1 #[(0,x)]) (hd:o.dst=some n) (hN:n<N) (ht:P.underlying t=some (.slice e)) (hi:P.info? e=some i) (hz:i.zero=some z) (bn:i.size=1)
  (hm:bd x mx=true) (hx:σ.ev mx=.one (.sl q sz 0 len)) (hs:σ.env s=.one (.sl q sz 0 len)) (OQ:s≠n) (kz:σ.eM (.sl q sz 0 len)=some (y,true,σ1)) (rT:σ1.ins n (.row true .af 1 [[y]])=some σ2):
  o.wp P a w (Nx B E w0 N {(σ2.put o.dst (.one (.sl n 1 0 1))) with env:=ao (σ2.put o.dst (.one (.sl n 1 0 1))).env s (.one (.c y))}) Q:=by
 obtain⟨hn,rfl⟩:=iI rT
 obtain⟨x1,x2⟩:=r.ev hm
 rw[hx] at x1
 have x1:=x1.dB (by simp)
 have s1:=r.env s
 rw[hs] at s1
 have s1:=(s1.dB (by simp)).1
 obtain⟨Im',pc,a1,a2,a3,a4,a5,K1,a7,a8,a9⟩:=r.hr.eM kz x1.1
 simp only[if_true,List.nil_append] at a5
 have jM:σ.h q≠none:=by
  intro hh
  simp only[St.eM,hh] at kz
  cases kz
 have zE:a.tmps.getD s undef=a.eval x:=eU.eq0 (s1 jM) (x1.1 jM)
 have lz:=x1.2
 have nf:(a.eval x).cells=#[pc.val]:=by
  rw[a2]
  revert lz
  cases a.eval x<;>intro lz<;>first|rfl|(simp[Value.oneCell'] at lz)
 have aS:=aaf (P:=P) (w:=w) ho ht hi hz bn (by omega) (by omega) (by rw[nf];rfl)
 have H0:HR B E w ⟨Im',G.g⟩ σ1.h σ.used []:=by
  have sY:HR B E w ⟨Im',G.g⟩ σ1.h σ.used ([]++[pc]):=by simpa using a5
  exact sY.wm
 have bO:∀k j c,At [[pc]] k j c->k=0/\j=0/\c=pc:=by
  rintro k j c ⟨e1,he,hj⟩
  cases k with
  |zero=>
   simp at he;subst he
   cases j with
   |zero=>simp at hj;exact⟨rfl,rfl,hj.symm⟩
   |succ j=>simp at hj
  |succ k=>simp at he
 obtain⟨G',r',hv,K3⟩:=r.newRow (m:=.af) (sz:=1) (cap:=1) (pes:=[[pc]]) (arr:=(a.eval x).cells) (e:=e) H0 K1 a7 a8 (by rw[<-a8];exact hn) (by omega) (fun e he=>by simp at he;rw[he];rfl)
  (fun k j c hk=>by obtain⟨_,_,rfl⟩:=bO k j c hk;exact⟨a3,a4⟩) (fun k j c hk=>by obtain⟨rfl,rfl,rfl⟩:=bO k j c hk;rw[nf];rfl) (by simp) (by simp only[maxLen];omega) (by rw[nf];rfl)
  (.inr (HR.ZB (sz:=1) (by omega) (fun e he=>by simp at he;rw[he];rfl) (by simpa using a5))) (fun h=>by cases h)
 simp only[List.map_cons,List.map_nil,a1,List.length_cons,List.length_nil] at r' hv K3
 have r2:=r'.put hv (d:=o.dst) (fun k hk=>by have bx:k=n:=hk;subst bx;exact bo _ _ _) (fun k hk=>by rw[hd] at hk;injection hk with hk;omega)
 have hRC:RA w ⟨Im',G.g⟩ σ1.h (.one (.c y)) (a.eval x):=RA.dS lz ⟨pc,a1,a2,a3,a4⟩
 have zj:=hRC.eJ K3 (fun k hk=>absurd hk oH)
 refine jk aS ⟨G',r2.rl (s:=s) ?_ (fun k hk=>absurd hk oH)⟩
 rw[hd,J6 (by intro h;injection h with h;exact OQ h.symm),zE]
 exact zj
theorem adY (r:R B E w0 N σ a w G) {n n0 s q sz s0 l0:Nat} {t e:TypeId} {i:TypeInfo} {x y:Operand} {mx my:MO} {xs ys:List (List C)} {σ1 σ2:St} (ho:o.op=.slice t x (some y) none none) (hd:o.dst=some n) (hN:n<N)
  (eR:bd x mx=true) (fo:bd y my=true) (ht:P.underlying t=some (.slice e)) (hi:P.info? e=some i) (bn:i.size=1)
  (hx:σ.ev mx=.one (.sl n0 1 0 xs.length)) (hl:(σ.ev my).cJ=some 1) (hn:σ.h n0=some (.row true .live 1 xs)) (hs:σ.env s=.one (.bf n0 0 1 0 s0 l0)) (OQ:s≠n)
  (zF:xs[0]? =some [.list sz ys]) (gO:dd ys=true) (tp:(σ.del n0).ins n (.row true .live 1 (xs.drop 1))=some σ1) (rT:σ1.ins q (.row false .af sz ys)=some σ2):
  o.wp P a w (Nx B E w0 N {(σ2.put o.dst (.one (.sl n 1 0 (xs.length - 1)))) with env:=ao (σ2.put o.dst (.one (.sl n 1 0 (xs.length - 1)))).env s (.one (.sl q sz 0 ys.length))}) Q:=by
 have H:=r.hr
 have bi:σ.h n0≠none:=by rw[hn];simp
 have hr:=H.row n0 true .live 1 xs hn
 have s1:=r.env s
 rw[hs] at s1
 obtain⟨pc,p1,p2,p3⟩:=(s1.dB (by simp)).1 true xs hn
 obtain⟨aD,eQ,fz⟩:=H.Fs hn p1
 rw[zF] at fz
 have fz:some (C.list sz ys)=some pc.er:=fz
 injection fz with fz
 have gw:=H.Zu hn (by omega) p1
 have Ov:0<xs.length:=(List.getElem?_eq_some_iff.1 zF).1
 refine Oper.wp_mono (fun a' w' ⟨e1,⟨v,e2⟩,p,r1,dC,nk⟩=>?_) (ad5 (P:=P) (Q:=Q) r ho hd hN eR fo ht hi bn (by omega) hx hl (by omega) (by omega) hn tp)
 subst e1
 obtain⟨rY,rfl⟩:=iI tp
 obtain⟨hqu,rfl⟩:=iI rT
 cases pc with
 |int kk nn=>simp[PC.er] at fz
 |bool bb=>simp[PC.er] at fz
 |list ax x0 cap kf=>
 rw[PC.cN] at fz
 injection fz with g1 g2
 subst g1
 have eC:0<sz:=by cases eQ with|nil _ _ _ h=>exact h|cons _ _ _ _ _ _ _ h _ _ _=>exact h
 have BR:∀m,ao (σ.del n0).h n (some (.row true .live 1 (xs.drop 1))) m≠none->m=n\/(m≠n/\m≠n0/\σ.h m≠none):=by
  intro m hm
  by_cases bj:m=n
  ·exact .inl bj
  ·rw[bP _ _ _ _ bj] at hm
   obtain⟨d1,d2⟩:=tc (h:=σ.h) hm
   exact .inr ⟨bj,d2,d1⟩
 have L:ur B E w' ⟨G.Im,ao G.g n p⟩ (ao (σ.del n0).h n (some (.row true .live 1 (xs.drop 1)))) (.list sz x0 cap kf):=by
  refine⟨eQ,gw.sep,gw.own,fun b hb m hm dg=>?_,fun b hb m gr mo gm eT hm hF=>?_⟩
  ·rcases BR m hm with rfl|⟨d1,d2,d3⟩
   ·simp only[bo] at dg⊢
    obtain⟨e3,e4⟩:=nk dg
    rw[e3]
    exact gw.name b hb n0 bi e4
   ·simp only[bP _ _ _ _ d1] at dg⊢
    exact gw.name b hb m d3 dg
  ·have hm0:ao (σ.del n0).h n (some (.row true .live 1 (xs.drop 1))) m≠none:=by rw[hm];simp
   rcases BR m hm0 with rfl|⟨d1,d2,d3⟩
   ·simp only[bo] at hF
    rw[dC] at hF
    obtain⟨k,j,c,hk,hc⟩:=hF
    have bx:=rD hk
    refine gw.rest b hb _ _ c bx (fun e=>?_) hc
    have:(1:Int).toNat+k=0:=congrArg Prod.fst e
    have h1:(1:Int).toNat=1:=rfl
    omega
   ·simp only[bP _ _ _ _ d1] at hF
    rw[bP _ _ _ _ d1] at hm
    exact gw.row b hb m gr mo gm eT d2 (kY (h:=σ.h) hm).1 hF
 have zB:dd (kf.map fun e=>e.map PC.er)=true:=by rw[<-g2];exact gO
 have h1:(1:Int).toNat=1:=rfl
 rw[h1] at r1
 rw[hd] at r1 e2⊢
 obtain⟨G',r3,dc⟩:=r1.agD (q:=q) hqu L zB eC
 rw[<-g2] at r3 dc
 have tD:ys.length=kf.length:=by rw[g2];simp
 refine⟨G',?_⟩
 have r4:=r3.rl (s:=s) (x:=.one (.sl q sz 0 ys.length)) (by
  rw[e2,J6 (by intro h;injection h with h;exact OQ h.symm),<-p2]
  rw[tD]
  exact RA.dS rfl dc) (fun k hk=>by have bx:k=q:=hk;subst bx;exact bo _ _ _)
 exact r4
end
end Go.Am
end
section
namespace Go.Am
section
variable {B:Nat} {E:Ex} {w0 w w':World} {G G':Gh} {N:Nat} {h h':Nat->Option aj} {used used':Nat->Bool}
variable {P:Program} {T:aF} {o:Oper} {a:Act} {σ σ':St} {Q:Exit->Act->World->Prop} {ops:Array Oper}
theorem HR.agz (H:HR B E w G h used []) {n sz cap:Nat} {x:Option Addr} {xs:List (List PC)} (hg:Good w (.list sz x cap xs)) (hs:Sep (.list sz x cap xs)) (ht:A3 w (.list sz x cap xs)) (zx:qg w sz xs)
  (hl:∀b,iy b (.list sz x cap xs)->mV G h b/\cP w b/\B<=b) (hn:used n=false):
  ∃G',HR B E w G' (ao h n (some (.row true .live sz (xs.map fun e=>e.map PC.er)))) (ao used n true) []/\
   aR w G h (fun n=>used n=true) w G' (ao h n (some (.row true .live sz (xs.map fun e=>e.map PC.er))))/\
   RC w G' (ao h n (some (.row true .live sz (xs.map fun e=>e.map PC.er)))) (.sl n sz 0 xs.length) (PC.val (.list sz x cap xs)):=by
 obtain⟨dQ,gh,xk⟩:=ht
 have hF:∀b,aP b xs->aK b (.list sz x cap xs):=fun b ⟨k,j,c,h1,h2⟩=>.there _ _ _ _ k j c h1 h2
 have iG:gF xs:=by cases hs with|list _ _ _ _ h1 h2 h3=>exact⟨h1,h3⟩
 obtain⟨p,Jc,dC,nk,zz,OK⟩:∃p:PB,(p.nl=true->xs=[]/\(true=true->p.cap=0))/\p.px=xs/\
   (p.nl=false->mV G h p.b/\cP w p.b/\B<=p.b/\∀b,aP b xs->b≠p.b)/\
   (p.nl=false->lR w p.b p.o sz xs/\xs.length<=p.cap/\AY w p sz)/\eU p sz 0 xs.length (PC.val (.list sz x cap xs)):=by
  by_cases u5:cap=0
  ·subst u5
   have hx:xs=[]:=List.eq_nil_of_length_eq_zero (by omega)
   subst hx
   exact⟨⟨true,0,0,0,[],x⟩,fun _=>⟨rfl,fun _=>rfl⟩,rfl,(fun hf=>by cases hf),(fun hf=>by cases hf),.inl ⟨rfl,rfl,rfl,rfl⟩⟩
  ·obtain⟨b,o,cur,e,rfl,hh,bn,vi,bG⟩:=xk.resolve_left u5
   have hT:iy b (.list sz (some (ad b o)) cap xs):=.inr ⟨_,_,_,_,rfl,u5⟩
   obtain⟨l1,l2,l3⟩:=hl b hT
   have av:∀b',aP b' xs->b'≠b:=fun b' ⟨k,j,c,h1,h2⟩ he=>bG k j c h1 (he▸h2)
   refine⟨⟨false,b,o,cap,xs,none⟩,(fun hf=>by cases hf),rfl,fun _=>⟨l1,l2,l3,av⟩,fun _=>⟨?_,gh,vi,cur,e,hh,bn⟩,.inr ⟨rfl,some (ad b o),by simp[PC.val],by simpa using gh,fun _=>by simp⟩⟩
   cases hg with
   |nil _ _ _ _=>exact⟨by simp,by rintro k j c ⟨e,he,_⟩;simp at he,by rintro k j c ⟨e,he,_⟩;simp at he⟩
   |cons _ _ _ _ _ h1 h2 h3 h4 h5 h6=>exact⟨h4,h5,h6⟩
 subst dC
 have dR:sW B E w G true .live sz (p.px.map fun e=>e.map PC.er) p:=by
  refine⟨dQ,rfl,Jc,fun hf=>⟨(nk hf).2.1,(zz hf).1,(zz hf).2.1⟩,fun hf _=>(zz hf).2.2,?_,fun _ _=>zx⟩
  exact⟨fun b hb=>⟨(hl b (.inl (hF b hb))).1.1,(hl b (.inl (hF b hb))).2.1,.inl (hl b (.inl (hF b hb))).2.2⟩,iG⟩
 have Hn:=H.insert (w':=w) (n:=n) (blk:=.row true .live sz (p.px.map fun e=>e.map PC.er)) (p:=p) hn (fun _ _=>rfl) (Nat.le_refl _)
  (fun hf=>⟨(nk hf).1,.inl (nk hf).2.2.1,(nk hf).2.1.lt⟩) (fun cs c q hb=>by cases hb) (by exact dR)
  (fun gr m' ax ak hb hm n' aW iv gm eT h0 fY b bL=>(hl b (.inl (hF b bL))).1.2.2 n' aW iv gm eT h0)
  (fun gr ax ak hb b bL=>⟨fun hf=>(nk hf).2.2.2 b bL,fun n' h0 fa he=>(hl b (.inl (hF b bL))).1.2.1 n' h0 fa he.symm⟩)
  (fun gr m' ax ak hb hm i pc b hi=>by simp at hi)
 exact⟨_,Hn,aR.insert H hn (fun _ _=>rfl),fun _=>by simpa[bo] using OK⟩
theorem adG (r:R B E w0 N σ a w G) (hT:GU P T) {d:Nat} {f:FuncId} {as:List ah} {vals:List Value} {σ1:St} (hd:o.dst=some d) (hN:d<N)
  (aS:(execOp a.eval o).run P w=.ok (.enter f vals.toArray) w) (hl:vals.length=as.length)
  (kx:∀(j:Nat) (x:ah) (v:Value),as[j]? =some x->vals[j]? =some v->RA w G σ.h x v)
  (hx:DT T d f as σ=some σ1):o.wp P a w (Nx B E w0 N σ1) Q:=by
 unfold DT at hx
 split at hx
 ·rename_i ds M iC hM
  split at hx
  ·rename_i sz xs lA
   split at hx
   ·rename_i σ2 I3
    injection hx with hx
    subst hx
    generalize iw (some d)=nm at I3⊢
    obtain⟨rY,rfl⟩:=iI I3
    have pn:=r.hr.ji iC hl kx
    unfold Oper.wp
    rw[aS]
    refine(hT f M hM ds _ lA w vals pn).mono fun e w' ⟨ax,cap,x0,px,p1,p2,p4,p5,p6⟩=>?_
    subst p2
    rw[PC.cN] at p1
    injection p1 with p1 _
    injection p1 with _ p1
    injection p1 with p1 _
    injection p1 with q1 q2
    subst q1
    have fP:∀b,b<w.heap.size->w'.heap[b]? =w.heap[b]? :=fun b hb=>p5.block b hb id
    have H':=r.hr.grow fP p5.size
    obtain⟨g1,g2,g3⟩:=p4.dk _ (List.mem_singleton.2 rfl)
    obtain⟨G',b1,b2,b3⟩:=H'.agz (n:=nm) g1 g2 g3 p6 (fun b hb=>by
     obtain⟨n1,n2⟩:=p4.new _ (List.mem_singleton.2 rfl) b hb
     refine⟨⟨fun hi=>?_,fun q hq iF he=>?_,fun q gr mo sz xs hq bL=>?_⟩,n2,Nat.le_trans r.fr.size n1⟩
     ·have:=r.hr.e7 b hi;omega
     ·have:=(r.hr.own q hq iF).2.2;omega
     ·have:=r.hr.mO hq bL;omega) rY
    rw[<-q2] at b1 b2 b3
    have nq:xs.length=px.length:=by rw[q2];simp
    have K:aR w G σ.h (fun n=>σ.used n=true) w' G' (ao σ.h (nm) (some (.row true .live sz xs))):=aR.trans (fun _ h=>h) (aR.world (fun b hb=>fP b (r.hr.e7 b hb)) _) b2
    have r2:R B E w0 N {σ with h:=ao σ.h (nm) (some (.row true .live sz xs)),used:=ao σ.used (nm) true} a w' G':=r.step rfl (fun q hq=>lQ _ q hq) K b1 (r.fr.call p5)
    refine⟨G',?_⟩
    rw[hd]
    exact r2.put (RA.dS rfl (by rw[nq];exact b3)) (fun q hq=>by have db:q=nm:=hq;subst db;exact bo _ _ _) (fun q hq=>by injection hq with hq;omega)
   ·cases hx
  ·cases hx
 ·cases hx
def H9 (P:Program) (t:TypeId) (len:Nat) (parts:Array (Nat×Operand)) (sz:Nat) (p:MO):Bool:=
 (len==1)&&decide (sz<=16777216)&&o8 P t sz (fun _ _=>true)&&(match parts.toList with
  |[(0,x)]=>bd x p
  |_=>false)
def Mg (P:Program) (N:Nat) (o:Oper) (d:Nat) (c:Dr):Bool:=
 decide (o.dst=some d)&&decide (d<N)&&(match o.guard with|none=>true|some _=>false)&&
 (match c,o.op with
  |.s6 sz p,.buildSlice t len parts=>H9 P t len parts sz p
  |.uE p _,.buildSlice t len parts=>H9 P t len parts 1 p
  |.pop x lo _,.slice t x' (some y) none none=>bd x' x&&bd y lo&&o8 P t 1 (fun _ _=>true)
  |.wM f ms,.call c=>match c.callee with
   |.value (.func g)=>(f==g)&&bJ P f&&fx c.args.toList ms
   |_=>false
  |_,_=>false)
def wQ (P:Program) (N:Nat) (ops:Array Oper):List Oper->List Dq->Bool
 |[],[]=>true
 |o::os,.op m::l=>m5 P N ops o m&&wQ P N ops os l
 |o::os,.m7 d c::l=>Mg P N o d c&&wQ P N ops os l
 |_,_=>false
theorem VE {t:TypeId} {len:Nat} {parts:Array (Nat×Operand)} {sz:Nat} {p:MO} (h:H9 P t len parts sz p=true):
  ∃x,len=1/\parts=#[(0,x)]/\bd x p=true/\sz<=16777216/\∃e i z,P.underlying t=some (.slice e)/\P.info? e=some i/\i.zero=some z/\i.size=sz/\0<sz:=by
 simp only[H9,Bool.and_eq_true,beq_iff_eq,decide_eq_true_eq] at h
 obtain⟨⟨⟨h1,h2⟩,h3⟩,h4⟩:=h
 split at h4
 ·rename_i x hp
  obtain⟨e,i,z,g1,g2,g3,g4,g5,_⟩:=qn h3
  exact⟨x,h1,by apply Array.ext';simpa using hp,h4,h2,e,i,z,g1,g2,g3,g4,g5⟩
 ·cases h4
theorem adB (r:R B E w0 N σ a w G) (BH:GU P T) {d:Nat} {c:Dr} (hc:Mg P N o d c=true) (hx:rJ T d c σ=some σ'):o.guard=none/\o.wp P a w (Nx B E w0 N σ') Q:=by
 simp only[Mg,Bool.and_eq_true,decide_eq_true_eq] at hc
 obtain⟨⟨⟨c1,c2⟩,c3⟩,c4⟩:=hc
 have hg:o.guard=none:=by cases hg:o.guard with|none=>rfl|some g=>rw[hg] at c3;cases c3
 refine⟨hg,?_⟩
 have Jb:∀v,Nx B E w0 N (σ'.put none v)=Nx B E w0 N σ':=fun _=>rfl
 obtain⟨dst,op,ty,pos,after,guard⟩:=o
 simp only at c1 hg
 subst c1 hg
 cases c with
 |s6 sz p=>
  cases op<;>simp only at c4<;>first|cases c4|skip
  rename_i t len parts
  obtain⟨x,rfl,rfl,k3,k4,e,i,z,g1,g2,g3,g4,g5⟩:=VE c4
  simp only[rJ] at hx
  split at hx
  ·rename_i ag cs dm
   split at hx
   ·rename_i hl
    split at hx
    ·rename_i es σ1 kz
     split at hx
     ·rename_i σ2 hi
      injection hx with hx
      subst hx
      exact ado r rfl rfl c2 g1 g2 g3 g4 g5 k4 k3 dm hl kz hi
     ·cases hx
    ·cases hx
   ·cases hx
  ·cases hx
 |uE p s=>
  cases op<;>simp only at c4<;>first|cases c4|skip
  rename_i t len parts
  obtain⟨x,rfl,rfl,k3,k4,e,i,z,g1,g2,g3,g4,g5⟩:=VE c4
  simp only[rJ] at hx
  split at hx
  ·rename_i q sz lo len q' ax xH tR e1 e2
   split at hx
   ·rename_i bR
    obtain⟨rfl,rfl,rfl,hs,rfl,rfl⟩:=bR
    split at hx
    ·rename_i y σ1 kz
     split at hx
     ·rename_i σ2 hi
      injection hx with hx
      subst hx
      exact adp r rfl rfl c2 g1 g2 g3 g4 k3 e1 e2 hs kz hi
     ·cases hx
    ·cases hx
   ·cases hx
  ·cases hx
 |pop x lo s=>
  cases op<;>simp only at c4<;>first|cases c4|skip
  rename_i t x' xH hi' nY
  cases xH with
  |none=>cases c4
  |some y=>
  cases hi' with
  |some _=>cases c4
  |none=>
  cases nY with
  |some _=>cases c4
  |none=>
  simp only[Bool.and_eq_true] at c4
  obtain⟨⟨k1,k2⟩,k3⟩:=c4
  obtain⟨e,i,z,g1,g2,g3,g4,g5,_⟩:=qn k3
  simp only[rJ] at hx
  split at hx
  ·rename_i n s1 l1 len l n' k rs off s0 l0 e1 e2 e3
   split at hx
   ·rename_i bR
    obtain⟨rfl,rfl,rfl,rfl,rfl,rfl,rfl,hs⟩:=bR
    split at hx
    ·rename_i FE xs hn
     split at hx
     ·rename_i lr
      obtain⟨rfl,rfl⟩:=lr
      split at hx
      ·rename_i sz ys zF
       split at hx
       ·rename_i gO
        split at hx
        ·rename_i σ1 tp
         split at hx
         ·rename_i σ2 rT
          injection hx with hx
          subst hx
          exact adY r rfl rfl c2 k1 k2 g1 g2 g4 e1 e2 hn e3 hs zF gO tp rT
         ·cases hx
        ·cases hx
       ·cases hx
      ·cases hx
     ·cases hx
    ·cases hx
   ·cases hx
  ·cases hx
 |wM f ms=>
  cases op<;>simp only at c4<;>first|cases c4|skip
  rename_i c
  split at c4
  ·rename_i g hg
   simp only[Bool.and_eq_true,beq_iff_eq] at c4
   obtain⟨⟨rfl,k2⟩,k3⟩:=c4
   simp only[rJ] at hx
   obtain⟨m1,m2⟩:=Ie k3
   refine adG (vals:=c.args.toList.map a.eval) r BH rfl c2 ?_ ?_ ?_ hx
   ·obtain⟨callee,args,argTypes⟩:=c
    simp only at hg
    subst hg
    simp[execOp,resolve,Deferred.ofValue,invoke,Act.eval,ue k2]
    apply Array.ext'
    simp
   ·simp only[List.length_map,m1]
   ·intro j x v hj hv
    rw[List.getElem?_map] at hj hv
    cases hm:ms[j]? with
    |none=>rw[hm] at hj;cases hj
    |some mm=>
     cases ha:c.args.toList[j]? with
     |none=>rw[ha] at hv;cases hv
     |some xx=>
      rw[hm] at hj;rw[ha] at hv
      simp at hj hv
      subst hj;subst hv
      exact(r.ev (m2 j xx mm ha hm)).1
  ·cases c4
theorem Lb (hT:jn P T) (BH:GU P T):∀{l:List Oper} {its:List Dq} {σ σ':St} {a:Act} {w:World} {G:Gh},wQ P N ops l its=true->s9 T its σ=some σ'->R B E w0 N σ a w G->
  (∀a w G,R B E w0 N σ' a w G->Q .normal a w)->wpList P ops Q l a w
 |[],[],σ,σ',a,w,G,hc,hx,r,hQ=>by
  simp only[s9] at hx
  injection hx with hx
  subst hx
  exact hQ _ _ _ r
 |o::l,.op m::its,σ,σ',a,w,G,hc,hx,r,hQ=>by
  simp only[wQ,Bool.and_eq_true] at hc
  simp only[s9] at hx
  split at hx
  ·rename_i σ1 e1
   unfold wpList
   rcases y9 (Q:=Q) r hT hc.1 e1 with⟨hw,h⟩|⟨hw,G',h⟩
   ·rw[if_pos hw]
    exact .inl (Oper.wp_mono (fun a' w' ⟨G',r'⟩=>Lb hT BH hc.2 hx r' hQ) h)
   ·rw[if_neg (by simp[hw])]
    exact Lb hT BH hc.2 hx h hQ
  ·cases hx
 |o::l,.m7 d c::its,σ,σ',a,w,G,hc,hx,r,hQ=>by
  simp only[wQ,Bool.and_eq_true] at hc
  simp only[s9] at hx
  split at hx
  ·rename_i σ1 e1
   obtain⟨g1,g2⟩:=adB (Q:=Q) r BH hc.1 e1
   unfold wpList
   rw[if_pos (by simp[Region.wanted,g1])]
   exact .inl (Oper.wp_mono (fun a' w' ⟨G',r'⟩=>Lb hT BH hc.2 hx r' hQ) g2)
  ·cases hx
 |[],_::_,_,_,_,_,_,hc,_,_,_=>by simp[wQ] at hc
 |_::_,[],_,_,_,_,_,hc,_,_,_=>by simp[wQ] at hc
end
end Go.Am
end
