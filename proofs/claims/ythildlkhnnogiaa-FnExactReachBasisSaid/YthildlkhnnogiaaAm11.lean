/- Am11: slice literals, loads. No condition. -/
import Derived.Test.YthildlkhnnogiaaAm10
set_option linter.unusedVariables false
set_option linter.unusedSimpArgs false
namespace Go.Am
theorem MZ {α:Type} (P:Nat->α->Prop):∀n:Nat,(∀j,j<n->∃v,P j v)->∃l:List α,l.length=n/\∀(j:Nat) (u:α),l[j]? =some u->P j u
 |0,_=>⟨[],rfl,by simp⟩
 |n+1,h=>by
  obtain⟨l,h1,h2⟩:=MZ P n (fun j hj=>h j (by omega))
  obtain⟨v,hv⟩:=h n (by omega)
  refine⟨l++[v],by simp[h1],fun j u hj=>?_⟩
  rcases Nat.lt_trichotomy j n with bS|dP|zt
  ·rw[List.getElem?_append_left (by omega)] at hj;exact h2 j u hj
  ·subst dP
   rw[List.getElem?_append_right (by omega)] at hj
   simp[h1] at hj
   subst hj;exact hv
  ·rw[List.getElem?_eq_none (by simp;omega)] at hj;cases hj
theorem C9 {α:Type} {l l':List α} {off sz:Nat} (h:sub l off sz=some l'):off+sz<=l.length/\l'=(l.drop off).take sz/\l'.length=sz:=by
 unfold sub at h
 split at h
 ·rename_i hl
  injection h with h
  subst h
  exact⟨hl,rfl,by simp;omega⟩
 ·cases h
theorem ym {α:Type} {l:List α} {off sz j:Nat} (hj:j<sz):((l.drop off).take sz)[j]? =l[off+j]? :=by
 rw[List.getElem?_take_of_lt hj,List.getElem?_drop]
theorem YX (n k rs:Nat):∀(l:List C) (off:Nat),(gB n k rs off l).length=l.length
 |[],_=>rfl
 |c::l,off=>by cases c<;>simp[gB,YX n k rs l]
theorem PP (n k rs:Nat):∀(l:List C) (off j:Nat) (x:ab),(gB n k rs off l)[j]? =some x->
  (∃c,l[j]? =some c/\c.dL=true/\x=.c c)\/(∃sz ys,l[j]? =some (.list sz ys)/\x=.bf n k rs (off+j) sz ys.length)
 |[],off,j,x,h=>by simp[gB] at h
 |c::l,off,j,x,h=>by
  cases j with
  |zero=>
   cases c<;>simp[gB] at h<;>subst h
   ·exact .inl ⟨_,rfl,rfl,rfl⟩
   ·exact .inl ⟨_,rfl,rfl,rfl⟩
   ·exact .inr ⟨_,_,rfl,rfl⟩
  |succ j=>
   have h':(gB n k rs (off+1) l)[j]? =some x:=by cases c<;>simpa[gB] using h
   rcases PP n k rs l (off+1) j x h' with⟨c',h1,h2,h3⟩|⟨sz,ys,h1,h2⟩
   ·exact .inl ⟨c',by simpa using h1,h2,h3⟩
   ·exact .inr ⟨sz,ys,by simpa using h1,by rw[h2,show off+1+j=off+(j+1) by omega]⟩
section
variable {B:Nat} {E:Ex} {w0 w w':World} {G G':Gh} {h h':Nat->Option aj} {used used':Nat->Bool} {tk:List PC} {N:Nat}
variable {P:Program} {o:Oper} {a:Act} {σ σ':St} {Q:Exit->Act->World->Prop}
theorem adn (r:R B E w0 N σ a w G) {n:Nat} {t e:TypeId} {len:Nat} {parts:Array (Nat×Operand)} {Cs:List MO} {i:TypeInfo} {z:Value} {sz:Nat} {es:List (List C)} {ow:Bool} {σ1 σ2:St}
  (ho:o.op=.buildSlice t len parts) (hd:o.dst=some n) (hN:n<N) (ht:P.underlying t=some (.slice e)) (hi:P.info? e=some i) (hz:i.zero=some z) (bn:i.size=sz) (eC:0<sz)
  (hlen:Cs.length=len) (dz:parts.toList.map (·.1)=List.range len) (BO:len*sz<=16777216)
  (dO:∀(j:Nat) (p:Nat×Operand) (m:MO),parts.toList[j]? =some p->Cs[j]? =some m->bd p.2 m=true)
  (OT:σ.kL sz (Cs.map σ.ev)=some (es,ow,σ1)) (hx:σ1.ins n (.row true (if ow=true then .af else .aG) sz es)=some σ2):
  o.wp P a w (Nx B E w0 N (σ2.put o.dst (.one (.sl n sz 0 es.length)))) Q:=by
 obtain⟨hn,rfl⟩:=iI hx
 have fc:parts.toList.length=len:=by have:=congrArg List.length dz;simpa using this
 have agk:(parts.toList.map fun p=>a.eval p.2).length=(Cs.map σ.ev).length:=by simp only[List.length_map];omega
 have w7:∀(j:Nat) (x:ah) (v:Value),(Cs.map σ.ev)[j]? =some x->(parts.toList.map fun p=>a.eval p.2)[j]? =some v->RA w G σ.h x v/\∀m,x.ref m->σ.used m=true:=by
  intro j x v B8 xn
  rw[List.getElem?_map] at B8 xn
  cases hp:parts.toList[j]? with
  |none=>rw[hp] at xn;cases xn
  |some p=>
   cases hm:Cs[j]? with
   |none=>rw[hm] at B8;cases B8
   |some m=>
    rw[hm] at B8;rw[hp] at xn
    simp at B8 xn
    subst B8;subst xn
    exact r.ev (dO j p m hp hm)
 obtain⟨Im',pes,a1,a2,a3,a4,a5,a6,a7,a8,a9⟩:=HR.kL (sz:=sz) r.hr OT agk (fun j x v h1 h2=>(w7 j x v h1 h2).1) (fun x hx m hm=>by
  obtain⟨j,hj,hjx⟩:=List.getElem_of_mem hx
  have xn:(parts.toList.map fun p=>a.eval p.2)[j]? =some ((parts.toList.map fun p=>a.eval p.2)[j]'(by omega)):=List.getElem?_eq_getElem _
  exact(w7 j x _ (by rw[List.getElem?_eq_getElem hj,hjx]) xn).2 m hm)
 simp only[List.nil_append] at a5
 have af6:pes.length=len:=by
  have:=congrArg List.length a2
  simp only[List.length_map] at this
  omega
 have OX:∀v∈(parts.toList.map fun p=>a.eval p.2),v.cells.size=sz:=by
  intro v hv
  obtain⟨j,hj,xb⟩:=List.getElem_of_mem hv
  have h1:((parts.toList.map fun p=>a.eval p.2).map fun v=>v.cells.toList)[j]? =some v.cells.toList:=by rw[List.getElem?_map,List.getElem?_eq_getElem hj,xb];rfl
  rw[<-a2,List.getElem?_map] at h1
  cases hq:pes[j]? with
  |none=>rw[hq] at h1;cases h1
  |some pe=>
   rw[hq] at h1
   simp at h1
   have:=a3 pe (List.mem_of_getElem? hq)
   rw[<-Array.length_toList,<-h1]
   simpa using this
 have hpz:(parts.map fun p=>(p.1,a.eval p.2)).toList=((parts.toList.map fun p=>a.eval p.2).zipIdx 0).map fun p=>(p.2,p.1):=by
  apply List.ext_getElem?
  intro j
  simp only[Array.toList_map,List.getElem?_map,List.getElem?_zipIdx]
  cases hp:parts.toList[j]? with
  |none=>simp
  |some p=>
   have rU:=(List.getElem?_eq_some_iff.1 hp).1
   have h1:(parts.toList.map (·.1))[j]? =some p.1:=by rw[List.getElem?_map,hp];rfl
   rw[dz,List.getElem?_range (by omega)] at h1
   injection h1 with h1
   simp[h1]
 have aS:(execOp a.eval o).run P w=.ok (.value (.slice (some (ad w.heap.size 0)) len len)) (w.alloc (.cells ((parts.toList.map fun p=>a.eval p.2).flatMap fun v=>v.cells.toList).toArray e)):=by
  have afG:((parts.toList.map fun p=>a.eval p.2).flatMap fun v=>v.cells.toList).length=len*sz:=by
   rw[List.length_flatMap]
   have:∀(l:List Value),(∀v∈l,v.cells.size=sz)->(l.map fun v=>v.cells.toList.length).sum=l.length*sz:=by
    intro l
    induction l with
    |nil=>simp
    |cons v l ih=>
     intro hv
     simp only[List.map_cons,List.sum_cons,List.length_cons]
     rw[ih (fun v' eH=>hv v' (by simp[eH])),Array.length_toList,hv v (by simp),Nat.add_mul]
     omega
   rw[this _ OX]
   simp[fc]
  have IZ:∀cs:Array Value,cs.size=len*sz->Instr.fill (fun i=>some (i*sz,sz)) cs (parts.map fun p=>(p.1,a.eval p.2)).toList=some ((parts.toList.map fun p=>a.eval p.2).flatMap fun v=>v.cells.toList).toArray:=by
   intro cs dm
   rw[hpz,M5 sz _ 0 cs OX (by simp only[List.length_map,fc,Nat.zero_add];omega)]
   congr 2
   simp only[ci,Nat.zero_mul,List.take_zero,List.nil_append,Nat.zero_add]
   rw[List.drop_eq_nil_of_le (by rw[afG,Array.length_toList,dm];exact Nat.le_refl _)]
   simp
  by_cases h0:len*sz=0
  ·have hf:=IZ ((Array.range 0).map fun _=>default) (by simp[h0])
   rw[Array.toList_map] at hf
   simp[execOp,ho,Instr.buildSlice,run_underlying ht,sizeOf,typeInfo,hi,bn,h0,Nat.not_lt.2 BO,hf,newRow,ad]
  ·have hf:=IZ ((Array.range (len*sz)).map (z.cells[·%z.cells.size]!)) (by simp)
   rw[Array.toList_map] at hf
   simp[execOp,ho,Instr.buildSlice,run_underlying ht,sizeOf,typeInfo,hi,bn,h0,Nat.not_lt.2 BO,zeroValue,hz,hf,newRow,ad]
 have eQ:∀k j c,At pes k j c->Good w c/\∀b,aK b c->Im' b:=fun k j c hk=>by
  obtain⟨e1,he,hj⟩:=hk
  exact a4 e1 (List.mem_of_getElem? he) c (List.mem_of_getElem? hj)
 have H0:HR B E w ⟨Im',G.g⟩ σ1.h σ.used []:=by
  cases ow
  ·simpa using a5
  ·have sY:HR B E w ⟨Im',G.g⟩ σ1.h σ.used ([]++pes.flatten):=by simpa using a5
   exact sY.wm
 obtain⟨G',r',hv,_⟩:=r.newRow (m:=if ow=true then .af else .aG) (sz:=sz) (cap:=len) (pes:=pes) (arr:=((parts.toList.map fun p=>a.eval p.2).flatMap fun v=>v.cells.toList).toArray) (e:=e) H0 a6 a7 a8 (by rw[<-a8];exact hn) eC a3 eQ
  (fun k j c hk=>by
   have bx:At (pes.map fun e=>e.map PC.val) k j c.val:=by
    obtain⟨e1,he,hj⟩:=hk
    exact⟨e1.map PC.val,by rw[List.getElem?_map,he];rfl,by rw[List.getElem?_map,hj];rfl⟩
   have hf:=rE (sz:=sz) (px:=pes.map fun e=>e.map PC.val) (fun e he=>by
    obtain⟨e1,w6,rfl⟩:=List.mem_map.1 he
    simpa using a3 e1 w6) bx
   rw[a2] at hf
   simpa[List.flatMap] using hf) (by omega) (by
   have h2:sz*len<=16777216:=by rw[Nat.mul_comm];exact BO
   have h3:len<=len*sz:=Nat.le_mul_of_pos_right _ eC
   simp only[maxLen];omega) (by
   have Oh:((parts.toList.map fun p=>a.eval p.2).flatMap fun v=>v.cells.toList).length=len*sz:=by
    rw[List.length_flatMap]
    have:∀(l:List Value),(∀v∈l,v.cells.size=sz)->(l.map fun v=>v.cells.toList.length).sum=l.length*sz:=by
     intro l
     induction l with
     |nil=>simp
     |cons v l ih=>
      intro hv
      simp only[List.map_cons,List.sum_cons,List.length_cons]
      rw[ih (fun v' eH=>hv v' (by simp[eH])),Array.length_toList,hv v (by simp),Nat.add_mul]
      omega
    rw[this _ OX]
    simp[fc]
   simpa using Oh) (by
   cases ow
   ·exact .inl rfl
   ·right
    simp only[if_true]
    have sY:HR B E w ⟨Im',G.g⟩ σ1.h σ.used pes.flatten:=by simpa using a5
    exact sY.ZB eC a3) (fun hl=>by cases ow<;>cases hl)
 have afD:es.length=pes.length:=by rw[<-a1];simp
 rw[a1] at r' hv
 rw[afD]
 rw[af6] at hv⊢
 refine jk aS ⟨G',?_⟩
 exact r'.put hv (fun q hq=>by have db:q=n:=hq;subst db;exact bo _ _ _) (fun q hq=>by rw[hd] at hq;injection hq with hq;omega)
theorem HR.loadAt (H:HR B E w G h used tk) {p:ab} {sz:Nat} {cs:List ab} {v:Value} (hx:loadAt h p sz=some cs) (hc:RC w G h p v) (io:∀m,p.ref m->used m=true):
  ∃(b o:Nat) (vs:List Value),v=.pointer (some (ad b o))/\vs.length=sz/\(∀(j:Nat) (u:Value),vs[j]? =some u->w.cell? (ad b (o+j))=some u)/\cb w G h cs vs/\
   ∀c∈cs,∀m,c.ref m->used m=true:=by
 cases p with
 |ptr n k au off=>
  simp only[Am.loadAt] at hx
  split at hx
  ·rename_i eO hn
   split at hx
   ·rename_i hk
    subst hk
    obtain⟨s1,s2,s3⟩:=C9 hx
    obtain⟨q1,q2⟩:=hc (by rw[hn];simp)
    obtain⟨b1,b2,b3⟩:=H.box n eO hn
    have bW:∀j,j<sz->∃v,w.cell? (ad (G.g n).b ((G.g n).o+off+j))=some v/\∀c,cs[j]? =some c->v.oneCell'=true/\RC w G h c v:=by
     intro j hj
     have cA:eO[off+j]? =some (eO[off+j]'(by omega)):=List.getElem?_eq_getElem _
     obtain⟨v,v1,v2,v3⟩:=b3 _ _ cA
     refine⟨v,by rw[Nat.add_assoc];exact v1,fun c eg=>?_⟩
     rw[s2,ym hj,cA] at eg
     injection eg with eg
     subst eg
     exact⟨v2,v3⟩
    obtain⟨vs,l1,l2⟩:=MZ _ sz bW
    refine⟨(G.g n).b,(G.g n).o+off,vs,by rw[q2];simp,l1,fun j u hj=>(l2 j u hj).1,⟨by omega,fun j c u eg hu=>(l2 j u hu).2 c eg⟩,fun c ij m hm=>?_⟩
    refine H.gd n eO c m hn ?_ hm
    rw[s2] at ij
    exact List.mem_of_mem_drop (List.mem_of_mem_take ij)
   ·cases hx
  ·rename_i gr mo rs xs hn
   split at hx
   ·rename_i lA
    subst lA
    split at hx
    ·rename_i e he
     split at hx
     ·rename_i l dJ
      injection hx with hx
      obtain⟨s1,s2,s3⟩:=C9 dJ
      have hr:=H.row n gr mo au xs hn
      obtain⟨q1,q2⟩:=hc (by rw[hn];simp)
      obtain⟨r1,r2,r3⟩:=hr.cZ q1
      have gN:∃pe,(G.g n).px[k]? =some pe/\pe.map PC.er=e:=by
       rw[hr.er,List.getElem?_map] at he
       cases hp:(G.g n).px[k]? with
       |none=>rw[hp] at he;cases he
       |some pe=>rw[hp] at he;simp at he;exact⟨pe,rfl,he⟩
      obtain⟨pe,qM,tw⟩:=gN
      have dz:off+sz<=pe.length:=by rw[<-tw] at s1;simpa using s1
      have fQ:∀j,j<sz->∃pc,At (G.g n).px k (off+j) pc/\l[j]? =some pc.er/\((pe.drop off).take sz)[j]? =some pc:=by
       intro j hj
       have hp:pe[off+j]? =some (pe[off+j]'(by omega)):=List.getElem?_eq_getElem _
       refine⟨pe[off+j]'(by omega),⟨pe,qM,hp⟩,?_,by rw[ym hj];exact hp⟩
       have e0:l[j]? =((e.drop off).take sz)[j]? :=congrArg (fun q:List C=>q[j]?) s2
       rw[e0,ym hj,<-tw,List.getElem?_map,hp]
       rfl
      have oq:(((pe.drop off).take sz).map PC.val).length=sz:=by simp;omega
      refine⟨(G.g n).b,(G.g n).o+k*au+off,((pe.drop off).take sz).map PC.val,q2,oq,fun j u hj=>?_,?_,?_⟩
      ·have iE:j<sz:=by have:=(List.getElem?_eq_some_iff.1 hj).1;omega
       obtain⟨pc,p1,p2,p3⟩:=fQ j iE
       rw[List.getElem?_map,p3] at hj
       simp at hj
       subst hj
       rw[show(G.g n).o+k*au+off+j=(G.g n).o+k*au+(off+j) by omega]
       exact r2.2.1 _ _ _ p1
      ·subst hx
       refine⟨by rw[oq];split<;>simp[YX,s3],fun j c u eg hu=>?_⟩
       have iE:j<sz:=by have:=(List.getElem?_eq_some_iff.1 hu).1;omega
       obtain⟨pc,p1,p2,p3⟩:=fQ j iE
       rw[List.getElem?_map,p3] at hu
       simp at hu
       subst hu
       refine⟨PC.hY pc,?_⟩
       have hg:=r2.2.2 _ _ _ p1
       split at eg
       ·rename_i qI
        subst qI
        rcases PP n k au l off j c eg with⟨c',h1,h2,rfl⟩|⟨s,ys,h1,rfl⟩
        ·rw[p2] at h1
         injection h1 with h1
         exact⟨pc,h1,rfl,hg,fun b hb=>absurd hb ((Sep.fT (pc:=pc) (by rw[h1];exact h2)).2 b)⟩
        ·rw[p2] at h1
         injection h1 with h1
         intro aW ak _
         refine⟨pc,p1,rfl,?_⟩
         cases pc<;>simp[PC.er] at h1<;>rfl
       ·rename_i qI
        rw[List.getElem?_map,p2] at eg
        simp at eg
        subst eg
        refine⟨pc,rfl,rfl,hg,fun b hb=>?_⟩
        have hm:=hr.mode
        have bL:aP b (G.g n).px:=⟨k,off+j,pc,p1,hb⟩
        cases mo with
        |aG=>exact hm b bL
        |af=>exact(hm.1 b bL).1
        |live=>exact absurd rfl qI
      ·intro c ij m hm
       subst hx
       split at ij
       ·obtain⟨j,hj,vf⟩:=List.getElem_of_mem ij
        rcases PP n k au l off j c (by rw[List.getElem?_eq_getElem hj,vf]) with⟨c',h1,h2,rfl⟩|⟨s,ys,h1,rfl⟩
        ·exact absurd hm (by simp[ab.ref,ab.fL])
        ·have:m=n:=hm
         subst this
         exact io m rfl
       ·obtain⟨c',_,rfl⟩:=List.mem_map.1 ij
        exact absurd hm (by simp[ab.ref,ab.fL])
     ·cases hx
    ·cases hx
   ·cases hx
  ·cases hx
 |cd xs off=>
  simp only[Am.loadAt] at hx
  cases dJ:sub xs off sz with
  |none=>rw[dJ] at hx;cases hx
  |some l=>
   rw[dJ] at hx
   simp at hx
   subst hx
   obtain⟨s1,s2,s3⟩:=C9 dJ
   obtain⟨b,o,pe,p1,p2,p3,p4⟩:=hc
   have dz:off+sz<=pe.length:=by rw[<-p2] at s1;simpa using s1
   have oq:(((pe.drop off).take sz).map PC.val).length=sz:=by simp;omega
   have fQ:∀j,j<sz->∃pc,pe[off+j]? =some pc/\l[j]? =some pc.er/\((pe.drop off).take sz)[j]? =some pc:=by
    intro j hj
    have hp:pe[off+j]? =some (pe[off+j]'(by omega)):=List.getElem?_eq_getElem _
    refine⟨pe[off+j]'(by omega),hp,?_,by rw[ym hj];exact hp⟩
    have e0:l[j]? =((xs.drop off).take sz)[j]? :=congrArg (fun q:List C=>q[j]?) s2
    rw[e0,ym hj,<-p2,List.getElem?_map,hp]
    rfl
   refine⟨b,o+off,_,p1,oq,fun j u hj=>?_,⟨by rw[oq];simp[s3],fun j c u eg hu=>?_⟩,fun c ij m hm=>?_⟩
   ·have iE:j<sz:=by have:=(List.getElem?_eq_some_iff.1 hj).1;omega
    obtain⟨pc,q1,q2,q3⟩:=fQ j iE
    rw[List.getElem?_map,q3] at hj
    simp at hj
    subst hj
    rw[Nat.add_assoc]
    exact(p4 _ _ q1).1
   ·have iE:j<sz:=by have:=(List.getElem?_eq_some_iff.1 hu).1;omega
    obtain⟨pc,q1,q2,q3⟩:=fQ j iE
    rw[List.getElem?_map,q3] at hu
    rw[List.getElem?_map,q2] at eg
    simp at hu eg
    subst hu;subst eg
    exact⟨PC.hY pc,pc,rfl,rfl,(p4 _ _ q1).2.1,(p4 _ _ q1).2.2⟩
   ·obtain⟨c',_,rfl⟩:=List.mem_map.1 ij
    exact absurd hm (by simp[ab.ref,ab.fL])
 |bK xs off j n s len=>
  simp only[Am.loadAt] at hx
  obtain⟨b,o,pe,p1,p2,p3,p4,u,u1,u2,u3⟩:=hc
  split at hx
  ·rename_i bR
   obtain⟨rfl,rfl⟩:=bR
   injection hx with hx
   subst hx
   refine⟨b,o+off,[u],p1,rfl,fun i u' hi=>?_,⟨rfl,fun i c u' gU hu=>?_⟩,fun c ij m hm=>?_⟩
   ·cases i with
    |zero=>simp at hi;subst hi;exact u1
    |succ i=>simp at hi
   ·cases i with
    |zero=>simp at gU hu;subst gU;subst hu;exact⟨u2,u3⟩
    |succ i=>simp at hu
   ·simp at ij
    subst ij
    have:m=n:=hm
    subst this
    exact io m rfl
  ·split at hx
   ·rename_i bS
    cases dJ:sub xs off sz with
    |none=>rw[dJ] at hx;cases hx
    |some l=>
     rw[dJ] at hx
     simp at hx
     subst hx
     obtain⟨s1,s2,s3⟩:=C9 dJ
     have dz:off+sz<=pe.length:=by rw[<-p2] at s1;simpa using s1
     have oq:(((pe.drop off).take sz).map PC.val).length=sz:=by simp;omega
     have fQ:∀j,j<sz->∃pc,pe[off+j]? =some pc/\l[j]? =some pc.er/\((pe.drop off).take sz)[j]? =some pc:=by
      intro j hj
      have hp:pe[off+j]? =some (pe[off+j]'(by omega)):=List.getElem?_eq_getElem _
      refine⟨pe[off+j]'(by omega),hp,?_,by rw[ym hj];exact hp⟩
      have e0:l[j]? =((xs.drop off).take sz)[j]? :=congrArg (fun q:List C=>q[j]?) s2
      rw[e0,ym hj,<-p2,List.getElem?_map,hp]
      rfl
     refine⟨b,o+off,_,p1,oq,fun i u hi=>?_,⟨by rw[oq];simp[s3],fun i c u gU hu=>?_⟩,fun c ij m hm=>?_⟩
     ·have BW:i<sz:=by have:=(List.getElem?_eq_some_iff.1 hi).1;omega
      obtain⟨pc,q1,q2,q3⟩:=fQ i BW
      rw[List.getElem?_map,q3] at hi
      simp at hi
      subst hi
      rw[Nat.add_assoc]
      exact(p4 _ _ (by omega) q1).1
     ·have BW:i<sz:=by have:=(List.getElem?_eq_some_iff.1 hu).1;omega
      obtain⟨pc,q1,q2,q3⟩:=fQ i BW
      rw[List.getElem?_map,q3] at hu
      rw[List.getElem?_map,q2] at gU
      simp at hu gU
      subst hu;subst gU
      exact⟨PC.hY pc,pc,rfl,rfl,(p4 _ _ (by omega) q1).2.1,(p4 _ _ (by omega) q1).2.2⟩
     ·obtain⟨c',_,rfl⟩:=List.mem_map.1 ij
      exact absurd hm (by simp[ab.ref,ab.fL])
   ·cases hx
 |c x=>simp[Am.loadAt] at hx
 |nil sz=>simp[Am.loadAt] at hx
 |sl n sz lo len=>simp[Am.loadAt] at hx
 |bf n k au off sz len=>simp[Am.loadAt] at hx
 |bX n k au off s i=>
  simp only[Am.loadAt] at hx
  split at hx
  ·rename_i gr rs xs hn
   split at hx
   ·rename_i lA
    subst lA
    split at hx
    ·rename_i s' ys po
     split at hx
     ·rename_i bR
      obtain⟨lp,lr⟩:=bR
      split at hx
      ·rename_i e he
       split at hx
       ·rename_i gO
        injection hx with hx
        subst hx
        obtain⟨pc,b,o,len,cap,p1,p2,p3,p4⟩:=hc gr xs hn
        have hr:=H.row n gr .live rs xs hn
        have aD:(G.g n).nl=false:=by
         cases hq:(G.g n).nl with
         |false=>rfl
         |true=>obtain⟨e,he,_⟩:=p1;rw[(hr.nl hq).1] at he;simp at he
        have hg:Good w pc:=(hr.cZ aD).2.1.2.2 _ _ _ p1
        have fz:pc.er=.list s' ys:=by
         obtain⟨e',BS,iD⟩:=p1
         rw[hr.er] at po
         simp[BS,iD] at po
         exact po
        cases pc with
        |int k n=>simp[PC.er] at fz
        |bool b=>simp[PC.er] at fz
        |list ax a nY py=>
         rw[PC.cN] at fz
         injection fz with e1 e2
         have e3:ax=s:=e1.trans lp
         have e4:sz=ax:=lr.trans e3.symm
         rw[<-e3] at p4
         clear lp lr e1 e3
         subst e2 e4
         simp only[PC.val] at p2
         injection p2 with f1 f2 f3
         subst f1 f3
         rw[List.getElem?_map] at he
         cases hp:py[i]? with
         |none=>rw[hp] at he;cases he
         |some pe=>
          rw[hp] at he
          simp at he
          subst he
          generalize e9:PC.list sz (some (ad b o)) nY py=q at hg
          cases hg with
          |int k n=>cases e9
          |bool b=>cases e9
          |nil _ _ _ _=>injection e9 with _ _ _ e4;subst e4;simp at hp
          |cons _ b' Q4 _ _ q1 q2 q3 q4 q5 q6=>
           injection e9 with f1 f2 f3 f4
           injection f2 with f2
           obtain⟨rfl,rfl⟩:=jF f2
           subst f1 f3 f4
           have vl:pe.length=sz:=q4 pe (List.mem_of_getElem? hp)
           refine⟨b,o+i*sz,pe.map PC.val,p4,by simpa using vl,fun j u hj=>?_,⟨by simp,fun j c u eg hu=>?_⟩,fun c ij m hm=>?_⟩
           ·rw[List.getElem?_map] at hj
            cases gW:pe[j]? with
            |none=>rw[gW] at hj;cases hj
            |some c=>rw[gW] at hj;simp at hj;subst hj;exact q5 i j c ⟨pe,hp,gW⟩
           ·rw[List.getElem?_map] at hu
            rw[List.getElem?_map,List.getElem?_map] at eg
            cases gW:pe[j]? with
            |none=>rw[gW] at hu;cases hu
            |some c'=>
             rw[gW] at hu eg
             simp at hu eg
             subst hu;subst eg
             have gX:c'.er.dL=true:=List.all_eq_true.1 gO _ (List.mem_map_of_mem (List.mem_of_getElem? gW))
             exact⟨PC.hY c',c',rfl,rfl,q6 i j c' ⟨pe,hp,gW⟩,fun b hb=>absurd hb ((Sep.fT gX).2 b)⟩
           ·obtain⟨c',_,rfl⟩:=List.mem_map.1 ij
            exact absurd hm (by simp[ab.ref,ab.fL])
       ·cases hx
      ·cases hx
     ·cases hx
    ·cases hx
   ·cases hx
  ·cases hx
 |fn f bI=>simp[Am.loadAt] at hx
 |aX=>simp[Am.loadAt] at hx
def qm (P:Program) (t:TypeId) (ag:Bool) (sz:Nat):Bool:=
 match P.underlying t,P.info? t with
 |some (.struct _),some i=>ag&&i.size==sz
 |some (.array _ _),_=>false
 |some _,some i=> !ag&&sz==1
 |_,_=>false
theorem RA.dB {c:ab} {v:Value} (hc:c≠ .aX) (hv:RA w G h (.one c) v):RC w G h c v/\v.oneCell'=true:=by
 rcases hv with rfl|hv
 ·exact absurd rfl hc
 ·have eH:cb w G h [c] [v]:=hv
  exact⟨(eH.2 0 c v rfl rfl).2,(eH.2 0 c v rfl rfl).1⟩
theorem Wx (r:R B E w0 N σ a w G) {t:TypeId} {x:Operand} {m:MO} {ag:Bool} {sz:Nat} {p:ab} {cs:List ab} (ho:o.op=.load t x) (hN:∀n,o.dst=some n->n<N)
  (hm:bd x m=true) (dO:qm P t ag sz=true) (hp:σ.ev m=.one p) (hx:Am.loadAt σ.h p sz=some cs):
  o.wp P a w (Nx B E w0 N (σ.put o.dst (kM ag cs))) Q:=by
 obtain⟨hv,io⟩:=r.ev hm
 rw[hp] at hv io
 have gW:p≠ .aX:=by rintro rfl;simp[Am.loadAt] at hx
 obtain⟨b,of,vs,h1,h2,h3,h4,h5⟩:=r.hr.loadAt hx (hv.dB gW).1 io
 have mr:∀v,RA w G σ.h (kM ag cs) v->(execOp a.eval o).run P w=.ok (.value v) w->o.wp P a w (Nx B E w0 N (σ.put o.dst (kM ag cs))) Q:=fun v hv aS=>
  jk aS ⟨G,r.put hv (fun q hq=>by
   unfold kM at hq
   split at hq
   ·obtain⟨c,hc,hq⟩:=hq;exact h5 c hc q hq
   ·exact h5 _ (by simp) q hq
   ·exact absurd hq (by simp[ah.ref,ab.ref,ab.fL])) hN⟩
 have EB:∀n:Nat,n=vs.length->(loadCells (ad b of) n).run P w=.ok vs.toArray w:=fun n hn=>by
  subst hn
  exact run_loadCells_list w (ad b of) vs (fun j u hj=>by rw[mY];exact h3 j u hj)
 unfold qm at dO
 cases hu:P.underlying t with
 |none=>rw[hu] at dO;simp at dO
 |some d=>
  cases hi:P.info? t with
  |none=>rw[hu,hi] at dO;cases d<;>simp at dO
  |some i=>
   rw[hu,hi] at dO
   have bu:(ag=true/\i.size=sz/\(isAgg t).run P w=.ok true w)\/(ag=false/\sz=1/\(isAgg t).run P w=.ok false w):=by
    cases d<;>simp at dO<;>simp[isAgg,run_underlying hu,dO]
   rcases bu with⟨rfl,e1,e2⟩|⟨rfl,e1,e2⟩
   ·refine mr (.agg vs.toArray) ⟨vs,rfl,h4⟩ ?_
    simp[execOp,ho,h1,Instr.loadAt,Instr.sureAddr,loadVar,e2,sizeOf,typeInfo,hi,EB i.size (by omega)]
   ·subst e1
    match vs,h2 with
    |[u],_=>
     have dm:∃c,cs=[c]:=by
      have:=h4.1
      match cs,this with
      |[c],_=>exact⟨c,rfl⟩
     obtain⟨c,rfl⟩:=dm
     refine mr u (.inr h4) ?_
     have fQ:=h3 0 u rfl
     simp only[Nat.add_zero] at fQ
     simp[execOp,ho,h1,Instr.loadAt,Instr.sureAddr,loadVar,e2,fQ]
end
end Go.Am
