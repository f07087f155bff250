/- Am11: slice literals, loads. No condition. -/
import Derived.Test.YtbgmbplglejidaaAm10
set_option linter.unusedVariables false
set_option linter.unusedSimpArgs false
namespace Go.Am
theorem ZB {α:Type} (P:Nat->α->Prop):∀n:Nat,(∀j,j<n->∃v,P j v)->∃l:List α,l.length=n/\∀(j:Nat) (u:α),l[j]? =some u->P j u
 |0,_=>⟨[],rfl,by simp⟩
 |n+1,h=>by
  obtain⟨l,h1,h2⟩:=ZB P n (fun j hj=>h j (by omega))
  obtain⟨v,hv⟩:=h n (by omega)
  refine⟨l++[v],by simp[h1],fun j u hj=>?_⟩
  rcases Nat.lt_trichotomy j n with bK|ez|zf
  ·rw[List.getElem?_append_left (by omega)] at hj;exact h2 j u hj
  ·subst ez
   rw[List.getElem?_append_right (by omega)] at hj
   simp[h1] at hj
   subst hj;exact hv
  ·rw[List.getElem?_eq_none (by simp;omega)] at hj;cases hj
theorem GH {α:Type} {l l':List α} {off sz:Nat} (h:sub l off sz=some l'):off+sz<=l.length/\l'=(l.drop off).take sz/\l'.length=sz:=by
 unfold sub at h
 split at h
 ·rename_i hl
  injection h with h
  subst h
  exact⟨hl,rfl,by simp;omega⟩
 ·cases h
theorem DF {α:Type} {l:List α} {off sz j:Nat} (hj:j<sz):((l.drop off).take sz)[j]? =l[off+j]? :=by
 rw[List.getElem?_take_of_lt hj,List.getElem?_drop]
theorem abG (n k rs:Nat):∀(l:List C) (off:Nat),(gY n k rs off l).length=l.length
 |[],_=>rfl
 |c::l,off=>by cases c<;>simp[gY,abG n k rs l]
theorem Rt (n k rs:Nat):∀(l:List C) (off j:Nat) (x:aj),(gY n k rs off l)[j]? =some x->
  (∃c,l[j]? =some c/\c.eV=true/\x=.c c)\/(∃sz ys,l[j]? =some (.list sz ys)/\x=.bE n k rs (off+j) sz ys.length)
 |[],off,j,x,h=>by simp[gY] at h
 |c::l,off,j,x,h=>by
  cases j with
  |zero=>
   cases c<;>simp[gY] at h<;>subst h
   ·exact .inl ⟨_,rfl,rfl,rfl⟩
   ·exact .inl ⟨_,rfl,rfl,rfl⟩
   ·exact .inr ⟨_,_,rfl,rfl⟩
  |succ j=>
   have h':(gY n k rs (off+1) l)[j]? =some x:=by cases c<;>simpa[gY] using h
   rcases Rt n k rs l (off+1) j x h' with⟨c',h1,h2,h3⟩|⟨sz,ys,h1,h2⟩
   ·exact .inl ⟨c',by simpa using h1,h2,h3⟩
   ·exact .inr ⟨sz,ys,by simpa using h1,by rw[h2,show off+1+j=off+(j+1) by omega]⟩
section
variable {B:Nat} {E:Ex} {w0 w w':World} {G G':Gh} {h h':Nat->Option ar} {used used':Nat->Bool} {tk:List PC} {N:Nat}
variable {P:Program} {o:Oper} {a:Act} {σ σ':St} {Q:Exit->Act->World->Prop}
theorem agE (r:R B E w0 N σ a w G) {n:Nat} {t e:TypeId} {len:Nat} {parts:Array (Nat×Operand)} {CW:List MO} {i:TypeInfo} {z:Value} {sz:Nat} {es:List (List C)} {ow:Bool} {σ1 σ2:St}
  (ho:o.op=.buildSlice t len parts) (hd:o.dst=some n) (hN:n<N) (ht:P.underlying t=some (.slice e)) (hi:P.info? e=some i) (hz:i.zero=some z) (bP:i.size=sz) (jB:0<sz)
  (hlen:CW.length=len) (fY:parts.toList.map (·.1)=List.range len) (Pp:len*sz<=16777216)
  (dF:∀(j:Nat) (p:Nat×Operand) (m:MO),parts.toList[j]? =some p->CW[j]? =some m->bF p.2 m=true)
  (Qd:σ.lY sz (CW.map σ.ev)=some (es,ow,σ1)) (hx:σ1.ins n (.row true (if ow=true then .ae else .aG) sz es)=some σ2):
  o.wp P a w (Nx B E w0 N (σ2.put o.dst (.one (.sl n sz 0 es.length)))) Q:=by
 obtain⟨hn,rfl⟩:=mN hx
 have gh:parts.toList.length=len:=by have:=congrArg List.length fY;simpa using this
 have ajz:(parts.toList.map fun p=>a.eval p.2).length=(CW.map σ.ev).length:=by simp only[List.length_map];omega
 have hev:∀(j:Nat) (x:ak) (v:Value),(CW.map σ.ev)[j]? =some x->(parts.toList.map fun p=>a.eval p.2)[j]? =some v->RA w G σ.h x v/\∀m,x.ref m->σ.used m=true:=by
  intro j x v Cs xb
  rw[List.getElem?_map] at Cs xb
  cases hp:parts.toList[j]? with
  |none=>rw[hp] at xb;cases xb
  |some p=>
   cases hm:CW[j]? with
   |none=>rw[hm] at Cs;cases Cs
   |some m=>
    rw[hm] at Cs;rw[hp] at xb
    simp at Cs xb
    subst Cs;subst xb
    exact r.ev (dF j p m hp hm)
 obtain⟨Im',pes,a1,a2,a3,a4,a5,a6,a7,a8,a9⟩:=HR.lY (sz:=sz) r.hr Qd ajz (fun j x v h1 h2=>(hev j x v h1 h2).1) (fun x hx m hm=>by
  obtain⟨j,hj,hjx⟩:=List.getElem_of_mem hx
  have xb:(parts.toList.map fun p=>a.eval p.2)[j]? =some ((parts.toList.map fun p=>a.eval p.2)[j]'(by omega)):=List.getElem?_eq_getElem _
  exact(hev j x _ (by rw[List.getElem?_eq_getElem hj,hjx]) xb).2 m hm)
 simp only[List.nil_append] at a5
 have ajh:pes.length=len:=by
  have:=congrArg List.length a2
  simp only[List.length_map] at this
  omega
 have Qg:∀v∈(parts.toList.map fun p=>a.eval p.2),v.cells.size=sz:=by
  intro v hv
  obtain⟨j,hj,hjv⟩:=List.getElem_of_mem hv
  have h1:((parts.toList.map fun p=>a.eval p.2).map fun v=>v.cells.toList)[j]? =some v.cells.toList:=by rw[List.getElem?_map,List.getElem?_eq_getElem hj,hjv];rfl
  rw[<-a2,List.getElem?_map] at h1
  cases hq:pes[j]? with
  |none=>rw[hq] at h1;cases h1
  |some pe=>
   rw[hq] at h1
   simp at h1
   have:=a3 pe (List.mem_of_getElem? hq)
   rw[<-Array.length_toList,<-h1]
   simpa using this
 have hpz:(parts.map fun p=>(p.1,a.eval p.2)).toList=((parts.toList.map fun p=>a.eval p.2).zipIdx 0).map fun p=>(p.2,p.1):=by
  apply List.ext_getElem?
  intro j
  simp only[Array.toList_map,List.getElem?_map,List.getElem?_zipIdx]
  cases hp:parts.toList[j]? with
  |none=>simp
  |some p=>
   have m7:=(List.getElem?_eq_some_iff.1 hp).1
   have h1:(parts.toList.map (·.1))[j]? =some p.1:=by rw[List.getElem?_map,hp];rfl
   rw[fY,List.getElem?_range (by omega)] at h1
   injection h1 with h1
   simp[h1]
 have bY:(execOp a.eval o).run P w=.ok (.value (.slice (some (ad w.heap.size 0)) len len)) (w.alloc (.cells ((parts.toList.map fun p=>a.eval p.2).flatMap fun v=>v.cells.toList).toArray e)):=by
  have aiX:((parts.toList.map fun p=>a.eval p.2).flatMap fun v=>v.cells.toList).length=len*sz:=by
   rw[List.length_flatMap]
   have:∀(l:List Value),(∀v∈l,v.cells.size=sz)->(l.map fun v=>v.cells.toList.length).sum=l.length*sz:=by
    intro l
    induction l with
    |nil=>simp
    |cons v l ih=>
     intro hv
     simp only[List.map_cons,List.sum_cons,List.length_cons]
     rw[ih (fun v' eS=>hv v' (by simp[eS])),Array.length_toList,hv v (by simp),Nat.add_mul]
     omega
   rw[this _ Qg]
   simp[gh]
  have aar:∀cs:Array Value,cs.size=len*sz->Instr.fill (fun i=>some (i*sz,sz)) cs (parts.map fun p=>(p.1,a.eval p.2)).toList=some ((parts.toList.map fun p=>a.eval p.2).flatMap fun v=>v.cells.toList).toArray:=by
   intro cs eE
   rw[hpz,ZH sz _ 0 cs Qg (by simp only[List.length_map,gh,Nat.zero_add];omega)]
   congr 2
   simp only[cv,Nat.zero_mul,List.take_zero,List.nil_append,Nat.zero_add]
   rw[List.drop_eq_nil_of_le (by rw[aiX,Array.length_toList,eE];exact Nat.le_refl _)]
   simp
  by_cases h0:len*sz=0
  ·have hf:=aar ((Array.range 0).map fun _=>default) (by simp[h0])
   rw[Array.toList_map] at hf
   simp[execOp,ho,Instr.buildSlice,run_underlying ht,sizeOf,typeInfo,hi,bP,h0,Nat.not_lt.2 Pp,hf,newRow,ad]
  ·have hf:=aar ((Array.range (len*sz)).map (z.cells[·%z.cells.size]!)) (by simp)
   rw[Array.toList_map] at hf
   simp[execOp,ho,Instr.buildSlice,run_underlying ht,sizeOf,typeInfo,hi,bP,h0,Nat.not_lt.2 Pp,zeroValue,hz,hf,newRow,ad]
 have ie:∀k j c,At pes k j c->Good w c/\∀b,aX b c->Im' b:=fun k j c hk=>by
  obtain⟨e1,he,hj⟩:=hk
  exact a4 e1 (List.mem_of_getElem? he) c (List.mem_of_getElem? hj)
 have H0:HR B E w ⟨Im',G.g⟩ σ1.h σ.used []:=by
  cases ow
  ·simpa using a5
  ·have wj:HR B E w ⟨Im',G.g⟩ σ1.h σ.used ([]++pes.flatten):=by simpa using a5
   exact wj.xZ
 obtain⟨G',r',hv⟩:=r.newRow (m:=if ow=true then .ae else .aG) (sz:=sz) (cap:=len) (pes:=pes) (arr:=((parts.toList.map fun p=>a.eval p.2).flatMap fun v=>v.cells.toList).toArray) (e:=e) H0 a6 a7 a8 (by rw[<-a8];exact hn) jB a3 ie
  (fun k j c hk=>by
   have cI:At (pes.map fun e=>e.map PC.val) k j c.val:=by
    obtain⟨e1,he,hj⟩:=hk
    exact⟨e1.map PC.val,by rw[List.getElem?_map,he];rfl,by rw[List.getElem?_map,hj];rfl⟩
   have hf:=uz (sz:=sz) (px:=pes.map fun e=>e.map PC.val) (fun e he=>by
    obtain⟨e1,sb,rfl⟩:=List.mem_map.1 he
    simpa using a3 e1 sb) cI
   rw[a2] at hf
   simpa[List.flatMap] using hf) (by omega) (by
   have h2:sz*len<=16777216:=by rw[Nat.mul_comm];exact Pp
   have h3:len<=len*sz:=Nat.le_mul_of_pos_right _ jB
   simp only[maxLen];omega) (by
   have PE:((parts.toList.map fun p=>a.eval p.2).flatMap fun v=>v.cells.toList).length=len*sz:=by
    rw[List.length_flatMap]
    have:∀(l:List Value),(∀v∈l,v.cells.size=sz)->(l.map fun v=>v.cells.toList.length).sum=l.length*sz:=by
     intro l
     induction l with
     |nil=>simp
     |cons v l ih=>
      intro hv
      simp only[List.map_cons,List.sum_cons,List.length_cons]
      rw[ih (fun v' eS=>hv v' (by simp[eS])),Array.length_toList,hv v (by simp),Nat.add_mul]
      omega
    rw[this _ Qg]
    simp[gh]
   simpa using PE) (by
   cases ow
   ·exact .inl rfl
   ·right
    simp only[if_true]
    have wj:HR B E w ⟨Im',G.g⟩ σ1.h σ.used pes.flatten:=by simpa using a5
    exact wj.apq jB a3)
 have aiU:es.length=pes.length:=by rw[<-a1];simp
 rw[a1] at r' hv
 rw[aiU]
 rw[ajh] at hv⊢
 refine oC bY ⟨G',?_⟩
 exact r'.put hv (fun q hq=>by have d9:q=n:=hq;subst d9;exact bN _ _ _) (fun q hq=>by rw[hd] at hq;injection hq with hq;omega)
theorem HR.loadAt (H:HR B E w G h used tk) {p:aj} {sz:Nat} {cs:List aj} {v:Value} (hx:loadAt h p sz=some cs) (hc:RC w G h p v) (je:∀m,p.ref m->used m=true):
  ∃(b o:Nat) (vs:List Value),v=.pointer (some (ad b o))/\vs.length=sz/\(∀(j:Nat) (u:Value),vs[j]? =some u->w.cell? (ad b (o+j))=some u)/\cZ w G h cs vs/\
   ∀c∈cs,∀m,c.ref m->used m=true:=by
 cases p with
 |ptr n k aE off=>
  simp only[Am.loadAt] at hx
  split at hx
  ·rename_i io hn
   split at hx
   ·rename_i hk
    subst hk
    obtain⟨s1,s2,s3⟩:=GH hx
    obtain⟨q1,q2⟩:=hc (by rw[hn];simp)
    obtain⟨b1,b2,b3⟩:=H.box n io hn
    have bZ:∀j,j<sz->∃v,w.cell? (ad (G.g n).b ((G.g n).o+off+j))=some v/\∀c,cs[j]? =some c->v.oneCell'=true/\RC w G h c v:=by
     intro j hj
     have eR:io[off+j]? =some (io[off+j]'(by omega)):=List.getElem?_eq_getElem _
     obtain⟨v,v1,v2,v3⟩:=b3 _ _ eR
     refine⟨v,by rw[Nat.add_assoc];exact v1,fun c gG=>?_⟩
     rw[s2,DF hj,eR] at gG
     injection gG with gG
     subst gG
     exact⟨v2,v3⟩
    obtain⟨vs,l1,l2⟩:=ZB _ sz bZ
    refine⟨(G.g n).b,(G.g n).o+off,vs,by rw[q2];simp,l1,fun j u hj=>(l2 j u hj).1,⟨by omega,fun j c u gG hu=>(l2 j u hu).2 c gG⟩,fun c nQ m hm=>?_⟩
    refine H.g8 n io c m hn ?_ hm
    rw[s2] at nQ
    exact List.mem_of_mem_drop (List.mem_of_mem_take nQ)
   ·cases hx
  ·rename_i gr mo rs xs hn
   split at hx
   ·rename_i sj
    subst sj
    split at hx
    ·rename_i e he
     split at hx
     ·rename_i l fq
      injection hx with hx
      obtain⟨s1,s2,s3⟩:=GH fq
      have hr:=H.row n gr mo aE xs hn
      obtain⟨q1,q2⟩:=hc (by rw[hn];simp)
      obtain⟨r1,r2,r3⟩:=hr.dW q1
      have tz:∃pe,(G.g n).px[k]? =some pe/\pe.map PC.er=e:=by
       rw[hr.er,List.getElem?_map] at he
       cases hp:(G.g n).px[k]? with
       |none=>rw[hp] at he;cases he
       |some pe=>rw[hp] at he;simp at he;exact⟨pe,rfl,he⟩
      obtain⟨pe,wZ,w4⟩:=tz
      have fY:off+sz<=pe.length:=by rw[<-w4] at s1;simpa using s1
      have iw:∀j,j<sz->∃pc,At (G.g n).px k (off+j) pc/\l[j]? =some pc.er/\((pe.drop off).take sz)[j]? =some pc:=by
       intro j hj
       have hp:pe[off+j]? =some (pe[off+j]'(by omega)):=List.getElem?_eq_getElem _
       refine⟨pe[off+j]'(by omega),⟨pe,wZ,hp⟩,?_,by rw[DF hj];exact hp⟩
       have e0:l[j]? =((e.drop off).take sz)[j]? :=congrArg (fun q:List C=>q[j]?) s2
       rw[e0,DF hj,<-w4,List.getElem?_map,hp]
       rfl
      have sn:(((pe.drop off).take sz).map PC.val).length=sz:=by simp;omega
      refine⟨(G.g n).b,(G.g n).o+k*aE+off,((pe.drop off).take sz).map PC.val,q2,sn,fun j u hj=>?_,?_,?_⟩
      ·have lJ:j<sz:=by have:=(List.getElem?_eq_some_iff.1 hj).1;omega
       obtain⟨pc,p1,p2,p3⟩:=iw j lJ
       rw[List.getElem?_map,p3] at hj
       simp at hj
       subst hj
       rw[show(G.g n).o+k*aE+off+j=(G.g n).o+k*aE+(off+j) by omega]
       exact r2.2.1 _ _ _ p1
      ·subst hx
       refine⟨by rw[sn];split<;>simp[abG,s3],fun j c u gG hu=>?_⟩
       have lJ:j<sz:=by have:=(List.getElem?_eq_some_iff.1 hu).1;omega
       obtain⟨pc,p1,p2,p3⟩:=iw j lJ
       rw[List.getElem?_map,p3] at hu
       simp at hu
       subst hu
       refine⟨PC.lx pc,?_⟩
       have hg:=r2.2.2 _ _ _ p1
       split at gG
       ·rename_i tu
        subst tu
        rcases Rt n k aE l off j c gG with⟨c',h1,h2,rfl⟩|⟨s,ys,h1,rfl⟩
        ·rw[p2] at h1
         injection h1 with h1
         exact⟨pc,h1,rfl,hg,fun b hb=>absurd hb ((Sep.lS (pc:=pc) (by rw[h1];exact h2)).2 b)⟩
        ·rw[p2] at h1
         injection h1 with h1
         intro bo au _
         refine⟨pc,p1,rfl,?_⟩
         cases pc<;>simp[PC.er] at h1<;>rfl
       ·rename_i tu
        rw[List.getElem?_map,p2] at gG
        simp at gG
        subst gG
        refine⟨pc,rfl,rfl,hg,fun b hb=>?_⟩
        have hm:=hr.mode
        have cR:aZ b (G.g n).px:=⟨k,off+j,pc,p1,hb⟩
        cases mo with
        |aG=>exact hm b cR
        |ae=>exact(hm.1 b cR).1
        |live=>exact absurd rfl tu
      ·intro c nQ m hm
       subst hx
       split at nQ
       ·obtain⟨j,hj,u6⟩:=List.getElem_of_mem nQ
        rcases Rt n k aE l off j c (by rw[List.getElem?_eq_getElem hj,u6]) with⟨c',h1,h2,rfl⟩|⟨s,ys,h1,rfl⟩
        ·exact absurd hm (by simp[aj.ref,aj.iY])
        ·have:m=n:=hm
         subst this
         exact je m rfl
       ·obtain⟨c',_,rfl⟩:=List.mem_map.1 nQ
        exact absurd hm (by simp[aj.ref,aj.iY])
     ·cases hx
    ·cases hx
   ·cases hx
  ·cases hx
 |cH xs off=>
  simp only[Am.loadAt] at hx
  cases fq:sub xs off sz with
  |none=>rw[fq] at hx;cases hx
  |some l=>
   rw[fq] at hx
   simp at hx
   subst hx
   obtain⟨s1,s2,s3⟩:=GH fq
   obtain⟨b,o,pe,p1,p2,p3,p4⟩:=hc
   have fY:off+sz<=pe.length:=by rw[<-p2] at s1;simpa using s1
   have sn:(((pe.drop off).take sz).map PC.val).length=sz:=by simp;omega
   have iw:∀j,j<sz->∃pc,pe[off+j]? =some pc/\l[j]? =some pc.er/\((pe.drop off).take sz)[j]? =some pc:=by
    intro j hj
    have hp:pe[off+j]? =some (pe[off+j]'(by omega)):=List.getElem?_eq_getElem _
    refine⟨pe[off+j]'(by omega),hp,?_,by rw[DF hj];exact hp⟩
    have e0:l[j]? =((xs.drop off).take sz)[j]? :=congrArg (fun q:List C=>q[j]?) s2
    rw[e0,DF hj,<-p2,List.getElem?_map,hp]
    rfl
   refine⟨b,o+off,_,p1,sn,fun j u hj=>?_,⟨by rw[sn];simp[s3],fun j c u gG hu=>?_⟩,fun c nQ m hm=>?_⟩
   ·have lJ:j<sz:=by have:=(List.getElem?_eq_some_iff.1 hj).1;omega
    obtain⟨pc,q1,q2,q3⟩:=iw j lJ
    rw[List.getElem?_map,q3] at hj
    simp at hj
    subst hj
    rw[Nat.add_assoc]
    exact(p4 _ _ q1).1
   ·have lJ:j<sz:=by have:=(List.getElem?_eq_some_iff.1 hu).1;omega
    obtain⟨pc,q1,q2,q3⟩:=iw j lJ
    rw[List.getElem?_map,q3] at hu
    rw[List.getElem?_map,q2] at gG
    simp at hu gG
    subst hu;subst gG
    exact⟨PC.lx pc,pc,rfl,rfl,(p4 _ _ q1).2.1,(p4 _ _ q1).2.2⟩
   ·obtain⟨c',_,rfl⟩:=List.mem_map.1 nQ
    exact absurd hm (by simp[aj.ref,aj.iY])
 |c x=>simp[Am.loadAt] at hx
 |nil sz=>simp[Am.loadAt] at hx
 |sl n sz lo len=>simp[Am.loadAt] at hx
 |bE n k aE off sz len=>simp[Am.loadAt] at hx
 |c7 n k aE off sz i=>simp[Am.loadAt] at hx
 |fn f cF=>simp[Am.loadAt] at hx
 |bq=>simp[Am.loadAt] at hx
def qF (P:Program) (t:TypeId) (ag:Bool) (sz:Nat):Bool:=
 match P.underlying t,P.info? t with
 |some (.struct _),some i=>ag&&i.size==sz
 |some (.array _ _),_=>false
 |some _,some i=> !ag&&sz==1
 |_,_=>false
theorem RA.fS {c:aj} {v:Value} (hc:c≠ .bq) (hv:RA w G h (.one c) v):RC w G h c v/\v.oneCell'=true:=by
 rcases hv with rfl|hv
 ·exact absurd rfl hc
 ·have eS:cZ w G h [c] [v]:=hv
  exact⟨(eS.2 0 c v rfl rfl).2,(eS.2 0 c v rfl rfl).1⟩
theorem Zt (r:R B E w0 N σ a w G) {t:TypeId} {x:Operand} {m:MO} {ag:Bool} {sz:Nat} {p:aj} {cs:List aj} (ho:o.op=.load t x) (hN:∀n,o.dst=some n->n<N)
  (hm:bF x m=true) (dF:qF P t ag sz=true) (hp:σ.ev m=.one p) (hx:Am.loadAt σ.h p sz=some cs):
  o.wp P a w (Nx B E w0 N (σ.put o.dst (ma ag cs))) Q:=by
 obtain⟨hv,je⟩:=r.ev hm
 rw[hp] at hv je
 have nb:p≠ .bq:=by rintro rfl;simp[Am.loadAt] at hx
 obtain⟨b,of,vs,h1,h2,h3,h4,h5⟩:=r.hr.loadAt hx (hv.fS nb).1 je
 have qW:∀v,RA w G σ.h (ma ag cs) v->(execOp a.eval o).run P w=.ok (.value v) w->o.wp P a w (Nx B E w0 N (σ.put o.dst (ma ag cs))) Q:=fun v hv bY=>
  oC bY ⟨G,r.put hv (fun q hq=>by
   unfold ma at hq
   split at hq
   ·obtain⟨c,hc,hq⟩:=hq;exact h5 c hc q hq
   ·exact h5 _ (by simp) q hq
   ·exact absurd hq (by simp[ak.ref,aj.ref,aj.iY])) hN⟩
 have Ff:∀n:Nat,n=vs.length->(loadCells (ad b of) n).run P w=.ok vs.toArray w:=fun n hn=>by
  subst hn
  exact run_loadCells_list w (ad b of) vs (fun j u hj=>by rw[oI];exact h3 j u hj)
 unfold qF at dF
 cases hu:P.underlying t with
 |none=>rw[hu] at dF;simp at dF
 |some d=>
  cases hi:P.info? t with
  |none=>rw[hu,hi] at dF;cases d<;>simp at dF
  |some i=>
   rw[hu,hi] at dF
   have bu:(ag=true/\i.size=sz/\(isAgg t).run P w=.ok true w)\/(ag=false/\sz=1/\(isAgg t).run P w=.ok false w):=by
    cases d<;>simp at dF<;>simp[isAgg,run_underlying hu,dF]
   rcases bu with⟨rfl,e1,e2⟩|⟨rfl,e1,e2⟩
   ·refine qW (.agg vs.toArray) ⟨vs,rfl,h4⟩ ?_
    simp[execOp,ho,h1,Instr.loadAt,Instr.sureAddr,loadVar,e2,sizeOf,typeInfo,hi,Ff i.size (by omega)]
   ·subst e1
    match vs,h2 with
    |[u],_=>
     have eE:∃c,cs=[c]:=by
      have:=h4.1
      match cs,this with
      |[c],_=>exact⟨c,rfl⟩
     obtain⟨c,rfl⟩:=eE
     refine qW u (.inr h4) ?_
     have iw:=h3 0 u rfl
     simp only[Nat.add_zero] at iw
     simp[execOp,ho,h1,Instr.loadAt,Instr.sureAddr,loadVar,e2,iw]
end
end Go.Am
