/- Am11: slice literals, loads. No condition. -/
import Derived.Test.YtfkfmbhknekkdaaAm10
set_option linter.unusedVariables false
set_option linter.unusedSimpArgs false
namespace Go.Am
theorem Jt {α:Type} (P:Nat->α->Prop):∀n:Nat,(∀j,j<n->∃v,P j v)->∃l:List α,l.length=n/\∀(j:Nat) (u:α),l[j]? =some u->P j u
 |0,_=>⟨[],rfl,by simp⟩
 |n+1,h=>by
  obtain⟨l,h1,h2⟩:=Jt P n (fun j hj=>h j (by omega))
  obtain⟨v,hv⟩:=h n (by omega)
  refine⟨l++[v],by simp[h1],fun j u hj=>?_⟩
  rcases Nat.lt_trichotomy j n with bB|dM|wi
  ·rw[List.getElem?_append_left (by omega)] at hj;exact h2 j u hj
  ·subst dM
   rw[List.getElem?_append_right (by omega)] at hj
   simp[h1] at hj
   subst hj;exact hv
  ·rw[List.getElem?_eq_none (by simp;omega)] at hj;cases hj
theorem Ad {α:Type} {l l':List α} {off sz:Nat} (h:sub l off sz=some l'):off+sz<=l.length/\l'=(l.drop off).take sz/\l'.length=sz:=by
 unfold sub at h
 split at h
 ·rename_i hl
  injection h with h
  subst h
  exact⟨hl,rfl,by simp;omega⟩
 ·cases h
theorem vd {α:Type} {l:List α} {off sz j:Nat} (hj:j<sz):((l.drop off).take sz)[j]? =l[off+j]? :=by
 rw[List.getElem?_take_of_lt hj,List.getElem?_drop]
theorem WQ (n k rs:Nat):∀(l:List C) (off:Nat),(fT n k rs off l).length=l.length
 |[],_=>rfl
 |c::l,off=>by cases c<;>simp[fT,WQ n k rs l]
theorem Mu (n k rs:Nat):∀(l:List C) (off j:Nat) (x:ae),(fT n k rs off l)[j]? =some x->
  (∃c,l[j]? =some c/\c.dX=true/\x=.c c)\/(∃sz ys,l[j]? =some (.list sz ys)/\x=.bj n k rs (off+j) sz ys.length)
 |[],off,j,x,h=>by simp[fT] at h
 |c::l,off,j,x,h=>by
  cases j with
  |zero=>
   cases c<;>simp[fT] at h<;>subst h
   ·exact .inl ⟨_,rfl,rfl,rfl⟩
   ·exact .inl ⟨_,rfl,rfl,rfl⟩
   ·exact .inr ⟨_,_,rfl,rfl⟩
  |succ j=>
   have h':(fT n k rs (off+1) l)[j]? =some x:=by cases c<;>simpa[fT] using h
   rcases Mu n k rs l (off+1) j x h' with⟨c',h1,h2,h3⟩|⟨sz,ys,h1,h2⟩
   ·exact .inl ⟨c',by simpa using h1,h2,h3⟩
   ·exact .inr ⟨sz,ys,by simpa using h1,by rw[h2,show off+1+j=off+(j+1) by omega]⟩
section
variable {B:Nat} {E:Ex} {w0 w w':World} {G G':Gh} {h h':Nat->Option ak} {used used':Nat->Bool} {tk:List PC} {N:Nat}
variable {P:Program} {o:Oper} {a:Act} {σ σ':St} {Q:Exit->Act->World->Prop}
theorem abl (r:R B E w0 N σ a w G) {n:Nat} {t e:TypeId} {len:Nat} {parts:Array (Nat×Operand)} {zB:List MO} {i:TypeInfo} {z:Value} {sz:Nat} {es:List (List C)} {ow:Bool} {σ1 σ2:St}
  (ho:o.op=.buildSlice t len parts) (hd:o.dst=some n) (hN:n<N) (ht:P.underlying t=some (.slice e)) (hi:P.info? e=some i) (hz:i.zero=some z) (bo:i.size=sz) (ic:0<sz)
  (hlen:zB.length=len) (eH:parts.toList.map (·.1)=List.range len) (Ku:len*sz<=16777216)
  (dh:∀(j:Nat) (p:Nat×Operand) (m:MO),parts.toList[j]? =some p->zB[j]? =some m->bi p.2 m=true)
  (Ld:σ.jK sz (zB.map σ.ev)=some (es,ow,σ1)) (hx:σ1.ins n (.row true (if ow=true then .aj else .aF) sz es)=some σ2):
  o.wp P a w (Nx B E w0 N (σ2.put o.dst (.one (.sl n sz 0 es.length)))) Q:=by
 obtain⟨hn,rfl⟩:=j8 hx
 have eK:parts.toList.length=len:=by have:=congrArg List.length eH;simpa using this
 have adx:(parts.toList.map fun p=>a.eval p.2).length=(zB.map σ.ev).length:=by simp only[List.length_map];omega
 have T0:∀(j:Nat) (x:ai) (v:Value),(zB.map σ.ev)[j]? =some x->(parts.toList.map fun p=>a.eval p.2)[j]? =some v->RA w G σ.h x v/\∀m,x.ref m->σ.used m=true:=by
  intro j x v y4 ue
  rw[List.getElem?_map] at y4 ue
  cases hp:parts.toList[j]? with
  |none=>rw[hp] at ue;cases ue
  |some p=>
   cases hm:zB[j]? with
   |none=>rw[hm] at y4;cases y4
   |some m=>
    rw[hm] at y4;rw[hp] at ue
    simp at y4 ue
    subst y4;subst ue
    exact r.ev (dh j p m hp hm)
 obtain⟨Im',pes,a1,a2,a3,a4,a5,a6,a7,a8,a9⟩:=HR.jK (sz:=sz) r.hr Ld adx (fun j x v h1 h2=>(T0 j x v h1 h2).1) (fun x hx m hm=>by
  obtain⟨j,hj,hjx⟩:=List.getElem_of_mem hx
  have ue:(parts.toList.map fun p=>a.eval p.2)[j]? =some ((parts.toList.map fun p=>a.eval p.2)[j]'(by omega)):=List.getElem?_eq_getElem _
  exact(T0 j x _ (by rw[List.getElem?_eq_getElem hj,hjx]) ue).2 m hm)
 simp only[List.nil_append] at a5
 have adi:pes.length=len:=by
  have:=congrArg List.length a2
  simp only[List.length_map] at this
  omega
 have Lg:∀v∈(parts.toList.map fun p=>a.eval p.2),v.cells.size=sz:=by
  intro v hv
  obtain⟨j,hj,tU⟩:=List.getElem_of_mem hv
  have h1:((parts.toList.map fun p=>a.eval p.2).map fun v=>v.cells.toList)[j]? =some v.cells.toList:=by rw[List.getElem?_map,List.getElem?_eq_getElem hj,tU];rfl
  rw[<-a2,List.getElem?_map] at h1
  cases hq:pes[j]? with
  |none=>rw[hq] at h1;cases h1
  |some pe=>
   rw[hq] at h1
   simp at h1
   have:=a3 pe (List.mem_of_getElem? hq)
   rw[<-Array.length_toList,<-h1]
   simpa using this
 have hpz:(parts.map fun p=>(p.1,a.eval p.2)).toList=((parts.toList.map fun p=>a.eval p.2).zipIdx 0).map fun p=>(p.2,p.1):=by
  apply List.ext_getElem?
  intro j
  simp only[Array.toList_map,List.getElem?_map,List.getElem?_zipIdx]
  cases hp:parts.toList[j]? with
  |none=>simp
  |some p=>
   have pF:=(List.getElem?_eq_some_iff.1 hp).1
   have h1:(parts.toList.map (·.1))[j]? =some p.1:=by rw[List.getElem?_map,hp];rfl
   rw[eH,List.getElem?_range (by omega)] at h1
   injection h1 with h1
   simp[h1]
 have bH:(execOp a.eval o).run P w=.ok (.value (.slice (some (ad w.heap.size 0)) len len)) (w.alloc (.cells ((parts.toList.map fun p=>a.eval p.2).flatMap fun v=>v.cells.toList).toArray e)):=by
  have acX:((parts.toList.map fun p=>a.eval p.2).flatMap fun v=>v.cells.toList).length=len*sz:=by
   rw[List.length_flatMap]
   have:∀(l:List Value),(∀v∈l,v.cells.size=sz)->(l.map fun v=>v.cells.toList.length).sum=l.length*sz:=by
    intro l
    induction l with
    |nil=>simp
    |cons v l ih=>
     intro hv
     simp only[List.map_cons,List.sum_cons,List.length_cons]
     rw[ih (fun v' eO=>hv v' (by simp[eO])),Array.length_toList,hv v (by simp),Nat.add_mul]
     omega
   rw[this _ Lg]
   simp[eK]
  have T1:∀cs:Array Value,cs.size=len*sz->Instr.fill (fun i=>some (i*sz,sz)) cs (parts.map fun p=>(p.1,a.eval p.2)).toList=some ((parts.toList.map fun p=>a.eval p.2).flatMap fun v=>v.cells.toList).toArray:=by
   intro cs eF
   rw[hpz,S4 sz _ 0 cs Lg (by simp only[List.length_map,eK,Nat.zero_add];omega)]
   congr 2
   simp only[bY,Nat.zero_mul,List.take_zero,List.nil_append,Nat.zero_add]
   rw[List.drop_eq_nil_of_le (by rw[acX,Array.length_toList,eF];exact Nat.le_refl _)]
   simp
  by_cases h0:len*sz=0
  ·have hf:=T1 ((Array.range 0).map fun _=>default) (by simp[h0])
   rw[Array.toList_map] at hf
   simp[execOp,ho,Instr.buildSlice,run_underlying ht,sizeOf,typeInfo,hi,bo,h0,Nat.not_lt.2 Ku,hf,newRow,ad]
  ·have hf:=T1 ((Array.range (len*sz)).map (z.cells[·%z.cells.size]!)) (by simp)
   rw[Array.toList_map] at hf
   simp[execOp,ho,Instr.buildSlice,run_underlying ht,sizeOf,typeInfo,hi,bo,h0,Nat.not_lt.2 Ku,zeroValue,hz,hf,newRow,ad]
 have gO:∀k j c,At pes k j c->Good w c/\∀b,aM b c->Im' b:=fun k j c hk=>by
  obtain⟨e1,he,hj⟩:=hk
  exact a4 e1 (List.mem_of_getElem? he) c (List.mem_of_getElem? hj)
 have H0:HR B E w ⟨Im',G.g⟩ σ1.h σ.used []:=by
  cases ow
  ·simpa using a5
  ·have tz:HR B E w ⟨Im',G.g⟩ σ1.h σ.used ([]++pes.flatten):=by simpa using a5
   exact tz.vg
 obtain⟨G',r',hv⟩:=r.newRow (m:=if ow=true then .aj else .aF) (sz:=sz) (cap:=len) (pes:=pes) (arr:=((parts.toList.map fun p=>a.eval p.2).flatMap fun v=>v.cells.toList).toArray) (e:=e) H0 a6 a7 a8 (by rw[<-a8];exact hn) ic a3 gO
  (fun k j c hk=>by
   have cC:At (pes.map fun e=>e.map PC.val) k j c.val:=by
    obtain⟨e1,he,hj⟩:=hk
    exact⟨e1.map PC.val,by rw[List.getElem?_map,he];rfl,by rw[List.getElem?_map,hj];rfl⟩
   have hf:=rV (sz:=sz) (px:=pes.map fun e=>e.map PC.val) (fun e he=>by
    obtain⟨e1,tQ,rfl⟩:=List.mem_map.1 he
    simpa using a3 e1 tQ) cC
   rw[a2] at hf
   simpa[List.flatMap] using hf) (by omega) (by
   have h2:sz*len<=16777216:=by rw[Nat.mul_comm];exact Ku
   have h3:len<=len*sz:=Nat.le_mul_of_pos_right _ ic
   simp only[maxLen];omega) (by
   have KD:((parts.toList.map fun p=>a.eval p.2).flatMap fun v=>v.cells.toList).length=len*sz:=by
    rw[List.length_flatMap]
    have:∀(l:List Value),(∀v∈l,v.cells.size=sz)->(l.map fun v=>v.cells.toList.length).sum=l.length*sz:=by
     intro l
     induction l with
     |nil=>simp
     |cons v l ih=>
      intro hv
      simp only[List.map_cons,List.sum_cons,List.length_cons]
      rw[ih (fun v' eO=>hv v' (by simp[eO])),Array.length_toList,hv v (by simp),Nat.add_mul]
      omega
    rw[this _ Lg]
    simp[eK]
   simpa using KD) (by
   cases ow
   ·exact .inl rfl
   ·right
    simp only[if_true]
    have tz:HR B E w ⟨Im',G.g⟩ σ1.h σ.used pes.flatten:=by simpa using a5
    exact tz.air ic a3)
 have acV:es.length=pes.length:=by rw[<-a1];simp
 rw[a1] at r' hv
 rw[acV]
 rw[adi] at hv⊢
 refine lR bH ⟨G',?_⟩
 exact r'.put hv (fun q hq=>by have dB:q=n:=hq;subst dB;exact bu _ _ _) (fun q hq=>by rw[hd] at hq;injection hq with hq;omega)
theorem HR.loadAt (H:HR B E w G h used tk) {p:ae} {sz:Nat} {cs:List ae} {v:Value} (hx:loadAt h p sz=some cs) (hc:RC w G h p v) (gE:∀m,p.ref m->used m=true):
  ∃(b o:Nat) (vs:List Value),v=.pointer (some (ad b o))/\vs.length=sz/\(∀(j:Nat) (u:Value),vs[j]? =some u->w.cell? (ad b (o+j))=some u)/\cL w G h cs vs/\
   ∀c∈cs,∀m,c.ref m->used m=true:=by
 cases p with
 |ptr n k au off=>
  simp only[Am.loadAt] at hx
  split at hx
  ·rename_i gb hn
   split at hx
   ·rename_i hk
    subst hk
    obtain⟨s1,s2,s3⟩:=Ad hx
    obtain⟨q1,q2⟩:=hc (by rw[hn];simp)
    obtain⟨b1,b2,b3⟩:=H.box n gb hn
    have bU:∀j,j<sz->∃v,w.cell? (ad (G.g n).b ((G.g n).o+off+j))=some v/\∀c,cs[j]? =some c->v.oneCell'=true/\RC w G h c v:=by
     intro j hj
     have dL:gb[off+j]? =some (gb[off+j]'(by omega)):=List.getElem?_eq_getElem _
     obtain⟨v,v1,v2,v3⟩:=b3 _ _ dL
     refine⟨v,by rw[Nat.add_assoc];exact v1,fun c eE=>?_⟩
     rw[s2,vd hj,dL] at eE
     injection eE with eE
     subst eE
     exact⟨v2,v3⟩
    obtain⟨vs,l1,l2⟩:=Jt _ sz bU
    refine⟨(G.g n).b,(G.g n).o+off,vs,by rw[q2];simp,l1,fun j u hj=>(l2 j u hj).1,⟨by omega,fun j c u eE hu=>(l2 j u hu).2 c eE⟩,fun c iI m hm=>?_⟩
    refine H.fW n gb c m hn ?_ hm
    rw[s2] at iI
    exact List.mem_of_mem_drop (List.mem_of_mem_take iI)
   ·cases hx
  ·rename_i gr mo rs xs hn
   split at hx
   ·rename_i pM
    subst pM
    split at hx
    ·rename_i e he
     split at hx
     ·rename_i l eA
      injection hx with hx
      obtain⟨s1,s2,s3⟩:=Ad eA
      have hr:=H.row n gr mo au xs hn
      obtain⟨q1,q2⟩:=hc (by rw[hn];simp)
      obtain⟨r1,r2,r3⟩:=hr.dv q1
      have sD:∃pe,(G.g n).px[k]? =some pe/\pe.map PC.er=e:=by
       rw[hr.er,List.getElem?_map] at he
       cases hp:(G.g n).px[k]? with
       |none=>rw[hp] at he;cases he
       |some pe=>rw[hp] at he;simp at he;exact⟨pe,rfl,he⟩
      obtain⟨pe,t7,t8⟩:=sD
      have eH:off+sz<=pe.length:=by rw[<-t8] at s1;simpa using s1
      have fI:∀j,j<sz->∃pc,At (G.g n).px k (off+j) pc/\l[j]? =some pc.er/\((pe.drop off).take sz)[j]? =some pc:=by
       intro j hj
       have hp:pe[off+j]? =some (pe[off+j]'(by omega)):=List.getElem?_eq_getElem _
       refine⟨pe[off+j]'(by omega),⟨pe,t7,hp⟩,?_,by rw[vd hj];exact hp⟩
       have e0:l[j]? =((e.drop off).take sz)[j]? :=congrArg (fun q:List C=>q[j]?) s2
       rw[e0,vd hj,<-t8,List.getElem?_map,hp]
       rfl
      have mh:(((pe.drop off).take sz).map PC.val).length=sz:=by simp;omega
      refine⟨(G.g n).b,(G.g n).o+k*au+off,((pe.drop off).take sz).map PC.val,q2,mh,fun j u hj=>?_,?_,?_⟩
      ·have jC:j<sz:=by have:=(List.getElem?_eq_some_iff.1 hj).1;omega
       obtain⟨pc,p1,p2,p3⟩:=fI j jC
       rw[List.getElem?_map,p3] at hj
       simp at hj
       subst hj
       rw[show(G.g n).o+k*au+off+j=(G.g n).o+k*au+(off+j) by omega]
       exact r2.2.1 _ _ _ p1
      ·subst hx
       refine⟨by rw[mh];split<;>simp[WQ,s3],fun j c u eE hu=>?_⟩
       have jC:j<sz:=by have:=(List.getElem?_eq_some_iff.1 hu).1;omega
       obtain⟨pc,p1,p2,p3⟩:=fI j jC
       rw[List.getElem?_map,p3] at hu
       simp at hu
       subst hu
       refine⟨PC.jN pc,?_⟩
       have hg:=r2.2.2 _ _ _ p1
       split at eE
       ·rename_i qQ
        subst qQ
        rcases Mu n k au l off j c eE with⟨c',h1,h2,rfl⟩|⟨s,ys,h1,rfl⟩
        ·rw[p2] at h1
         injection h1 with h1
         exact⟨pc,h1,rfl,hg,fun b hb=>absurd hb ((Sep.jI (pc:=pc) (by rw[h1];exact h2)).2 b)⟩
        ·rw[p2] at h1
         injection h1 with h1
         intro aU ao _
         refine⟨pc,p1,rfl,?_⟩
         cases pc<;>simp[PC.er] at h1<;>rfl
       ·rename_i qQ
        rw[List.getElem?_map,p2] at eE
        simp at eE
        subst eE
        refine⟨pc,rfl,rfl,hg,fun b hb=>?_⟩
        have hm:=hr.mode
        have cz:aN b (G.g n).px:=⟨k,off+j,pc,p1,hb⟩
        cases mo with
        |aF=>exact hm b cz
        |aj=>exact(hm.1 b cz).1
        |live=>exact absurd rfl qQ
      ·intro c iI m hm
       subst hx
       split at iI
       ·obtain⟨j,hj,sB⟩:=List.getElem_of_mem iI
        rcases Mu n k au l off j c (by rw[List.getElem?_eq_getElem hj,sB]) with⟨c',h1,h2,rfl⟩|⟨s,ys,h1,rfl⟩
        ·exact absurd hm (by simp[ae.ref,ae.gu])
        ·have:m=n:=hm
         subst this
         exact gE m rfl
       ·obtain⟨c',_,rfl⟩:=List.mem_map.1 iI
        exact absurd hm (by simp[ae.ref,ae.gu])
     ·cases hx
    ·cases hx
   ·cases hx
  ·cases hx
 |bV xs off=>
  simp only[Am.loadAt] at hx
  cases eA:sub xs off sz with
  |none=>rw[eA] at hx;cases hx
  |some l=>
   rw[eA] at hx
   simp at hx
   subst hx
   obtain⟨s1,s2,s3⟩:=Ad eA
   obtain⟨b,o,pe,p1,p2,p3,p4⟩:=hc
   have eH:off+sz<=pe.length:=by rw[<-p2] at s1;simpa using s1
   have mh:(((pe.drop off).take sz).map PC.val).length=sz:=by simp;omega
   have fI:∀j,j<sz->∃pc,pe[off+j]? =some pc/\l[j]? =some pc.er/\((pe.drop off).take sz)[j]? =some pc:=by
    intro j hj
    have hp:pe[off+j]? =some (pe[off+j]'(by omega)):=List.getElem?_eq_getElem _
    refine⟨pe[off+j]'(by omega),hp,?_,by rw[vd hj];exact hp⟩
    have e0:l[j]? =((xs.drop off).take sz)[j]? :=congrArg (fun q:List C=>q[j]?) s2
    rw[e0,vd hj,<-p2,List.getElem?_map,hp]
    rfl
   refine⟨b,o+off,_,p1,mh,fun j u hj=>?_,⟨by rw[mh];simp[s3],fun j c u eE hu=>?_⟩,fun c iI m hm=>?_⟩
   ·have jC:j<sz:=by have:=(List.getElem?_eq_some_iff.1 hj).1;omega
    obtain⟨pc,q1,q2,q3⟩:=fI j jC
    rw[List.getElem?_map,q3] at hj
    simp at hj
    subst hj
    rw[Nat.add_assoc]
    exact(p4 _ _ q1).1
   ·have jC:j<sz:=by have:=(List.getElem?_eq_some_iff.1 hu).1;omega
    obtain⟨pc,q1,q2,q3⟩:=fI j jC
    rw[List.getElem?_map,q3] at hu
    rw[List.getElem?_map,q2] at eE
    simp at hu eE
    subst hu;subst eE
    exact⟨PC.jN pc,pc,rfl,rfl,(p4 _ _ q1).2.1,(p4 _ _ q1).2.2⟩
   ·obtain⟨c',_,rfl⟩:=List.mem_map.1 iI
    exact absurd hm (by simp[ae.ref,ae.gu])
 |bD xs off j n s len=>
  simp only[Am.loadAt] at hx
  obtain⟨b,o,pe,p1,p2,p3,p4,u,u1,u2,u3⟩:=hc
  split at hx
  ·rename_i cm
   obtain⟨rfl,rfl⟩:=cm
   injection hx with hx
   subst hx
   refine⟨b,o+off,[u],p1,rfl,fun i u' hi=>?_,⟨rfl,fun i c u' qO hu=>?_⟩,fun c iI m hm=>?_⟩
   ·cases i with
    |zero=>simp at hi;subst hi;exact u1
    |succ i=>simp at hi
   ·cases i with
    |zero=>simp at qO hu;subst qO;subst hu;exact⟨u2,u3⟩
    |succ i=>simp at hu
   ·simp at iI
    subst iI
    have:m=n:=hm
    subst this
    exact gE m rfl
  ·split at hx
   ·rename_i bB
    cases eA:sub xs off sz with
    |none=>rw[eA] at hx;cases hx
    |some l=>
     rw[eA] at hx
     simp at hx
     subst hx
     obtain⟨s1,s2,s3⟩:=Ad eA
     have eH:off+sz<=pe.length:=by rw[<-p2] at s1;simpa using s1
     have mh:(((pe.drop off).take sz).map PC.val).length=sz:=by simp;omega
     have fI:∀j,j<sz->∃pc,pe[off+j]? =some pc/\l[j]? =some pc.er/\((pe.drop off).take sz)[j]? =some pc:=by
      intro j hj
      have hp:pe[off+j]? =some (pe[off+j]'(by omega)):=List.getElem?_eq_getElem _
      refine⟨pe[off+j]'(by omega),hp,?_,by rw[vd hj];exact hp⟩
      have e0:l[j]? =((xs.drop off).take sz)[j]? :=congrArg (fun q:List C=>q[j]?) s2
      rw[e0,vd hj,<-p2,List.getElem?_map,hp]
      rfl
     refine⟨b,o+off,_,p1,mh,fun i u hi=>?_,⟨by rw[mh];simp[s3],fun i c u qO hu=>?_⟩,fun c iI m hm=>?_⟩
     ·have BK:i<sz:=by have:=(List.getElem?_eq_some_iff.1 hi).1;omega
      obtain⟨pc,q1,q2,q3⟩:=fI i BK
      rw[List.getElem?_map,q3] at hi
      simp at hi
      subst hi
      rw[Nat.add_assoc]
      exact(p4 _ _ (by omega) q1).1
     ·have BK:i<sz:=by have:=(List.getElem?_eq_some_iff.1 hu).1;omega
      obtain⟨pc,q1,q2,q3⟩:=fI i BK
      rw[List.getElem?_map,q3] at hu
      rw[List.getElem?_map,q2] at qO
      simp at hu qO
      subst hu;subst qO
      exact⟨PC.jN pc,pc,rfl,rfl,(p4 _ _ (by omega) q1).2.1,(p4 _ _ (by omega) q1).2.2⟩
     ·obtain⟨c',_,rfl⟩:=List.mem_map.1 iI
      exact absurd hm (by simp[ae.ref,ae.gu])
   ·cases hx
 |c x=>simp[Am.loadAt] at hx
 |nil sz=>simp[Am.loadAt] at hx
 |sl n sz lo len=>simp[Am.loadAt] at hx
 |bj n k au off sz len=>simp[Am.loadAt] at hx
 |cH n k au off sz i=>simp[Am.loadAt] at hx
 |fn f bM=>simp[Am.loadAt] at hx
 |bg=>simp[Am.loadAt] at hx
def nP (P:Program) (t:TypeId) (ag:Bool) (sz:Nat):Bool:=
 match P.underlying t,P.info? t with
 |some (.struct _),some i=>ag&&i.size==sz
 |some (.array _ _),_=>false
 |some _,some i=> !ag&&sz==1
 |_,_=>false
theorem RA.eB {c:ae} {v:Value} (hc:c≠ .bg) (hv:RA w G h (.one c) v):RC w G h c v/\v.oneCell'=true:=by
 rcases hv with rfl|hv
 ·exact absurd rfl hc
 ·have eO:cL w G h [c] [v]:=hv
  exact⟨(eO.2 0 c v rfl rfl).2,(eO.2 0 c v rfl rfl).1⟩
theorem SM (r:R B E w0 N σ a w G) {t:TypeId} {x:Operand} {m:MO} {ag:Bool} {sz:Nat} {p:ae} {cs:List ae} (ho:o.op=.load t x) (hN:∀n,o.dst=some n->n<N)
  (hm:bi x m=true) (dh:nP P t ag sz=true) (hp:σ.ev m=.one p) (hx:Am.loadAt σ.h p sz=some cs):
  o.wp P a w (Nx B E w0 N (σ.put o.dst (jL ag cs))) Q:=by
 obtain⟨hv,gE⟩:=r.ev hm
 rw[hp] at hv gE
 have pK:p≠ .bg:=by rintro rfl;simp[Am.loadAt] at hx
 obtain⟨b,of,vs,h1,h2,h3,h4,h5⟩:=r.hr.loadAt hx (hv.eB pK).1 gE
 have kM:∀v,RA w G σ.h (jL ag cs) v->(execOp a.eval o).run P w=.ok (.value v) w->o.wp P a w (Nx B E w0 N (σ.put o.dst (jL ag cs))) Q:=fun v hv bH=>
  lR bH ⟨G,r.put hv (fun q hq=>by
   unfold jL at hq
   split at hq
   ·obtain⟨c,hc,hq⟩:=hq;exact h5 c hc q hq
   ·exact h5 _ (by simp) q hq
   ·exact absurd hq (by simp[ai.ref,ae.ref,ae.gu])) hN⟩
 have BM:∀n:Nat,n=vs.length->(loadCells (ad b of) n).run P w=.ok vs.toArray w:=fun n hn=>by
  subst hn
  exact run_loadCells_list w (ad b of) vs (fun j u hj=>by rw[lV];exact h3 j u hj)
 unfold nP at dh
 cases hu:P.underlying t with
 |none=>rw[hu] at dh;simp at dh
 |some d=>
  cases hi:P.info? t with
  |none=>rw[hu,hi] at dh;cases d<;>simp at dh
  |some i=>
   rw[hu,hi] at dh
   have aW:(ag=true/\i.size=sz/\(isAgg t).run P w=.ok true w)\/(ag=false/\sz=1/\(isAgg t).run P w=.ok false w):=by
    cases d<;>simp at dh<;>simp[isAgg,run_underlying hu,dh]
   rcases aW with⟨rfl,e1,e2⟩|⟨rfl,e1,e2⟩
   ·refine kM (.agg vs.toArray) ⟨vs,rfl,h4⟩ ?_
    simp[execOp,ho,h1,Instr.loadAt,Instr.sureAddr,loadVar,e2,sizeOf,typeInfo,hi,BM i.size (by omega)]
   ·subst e1
    match vs,h2 with
    |[u],_=>
     have eF:∃c,cs=[c]:=by
      have:=h4.1
      match cs,this with
      |[c],_=>exact⟨c,rfl⟩
     obtain⟨c,rfl⟩:=eF
     refine kM u (.inr h4) ?_
     have fI:=h3 0 u rfl
     simp only[Nat.add_zero] at fI
     simp[execOp,ho,h1,Instr.loadAt,Instr.sureAddr,loadVar,e2,fI]
end
end Go.Am
