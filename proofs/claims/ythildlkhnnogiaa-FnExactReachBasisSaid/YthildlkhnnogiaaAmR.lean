/- AmR: functions that lay a list into a structure as one row or one column, and fields of structures. No condition. -/
import Derived.Test.YthildlkhnnogiaaAmO
set_option linter.unusedVariables false
set_option linter.unusedSimpArgs false
namespace Go.Am
section
variable {B:Nat} {E:Ex} {w0 w w':World} {G G':Gh} {h h':Nat->Option aj} {used used':Nat->Bool} {tk:List PC} {N:Nat}
variable {P:Program} {o:Oper} {a:Act} {σ σ':St} {Q:Exit->Act->World->Prop}
def ua (tmps:Array Value):ResultVar->Sem Value
 |.tmp t=>pure (tmps.getD t undef)
 |.cell a t=>do loadVar t (<-asAddr (tmps.getD a undef))
def CE:List Value->Value
 |[u]=>u
 |l=>.tuple l.toArray
theorem Kk (fn:Func) (tmps:Array Value) {us:List Value} (h:(fn.results.toList.mapM (ua tmps)).run P w=.ok us w):
  (results fn tmps).run P w=.ok (CE us) w:=by
 unfold results
 generalize fn.results=A at h⊢
 obtain⟨l,rfl⟩:∃l:List ResultVar,A=l.toArray:=⟨A.toList,by simp⟩
 have h2:((l.toArray.mapM (ua tmps)).run P w)=.ok us.toArray w:=by
  rw[List.mapM_toArray]
  simp at h
  simp[h]
 show Sem.run P (l.toArray.mapM (ua tmps)>>=fun vs=>pure (if h:vs.size=1 then vs[0] else Value.tuple vs)) w=_
 generalize l.toArray.mapM (ua tmps)=s at h2⊢
 match us with
 |[]=>simp[CE,h2]
 |[u]=>simp[CE,h2]
 |u::v::us=>simp[CE,h2]
def Mh (P:Program) (s:TypeId) (f off:Nat) (ag:Bool) (sz:Nat):Bool:=
 match P.underlying s with
 |some (.struct n7)=>match n7[f]? with
  |some fd=>(fd.offset==off)&&qm P fd.type ag sz
  |none=>false
 |_=>false
theorem adL (r:R B E w0 N σ a w G) {s:TypeId} {f off sz:Nat} {ag:Bool} {x:Operand} {mx:MO} {cs l:List ab} (ho:o.op=.field s x f) (hN:∀n,o.dst=some n->n<N) (hx:bd x mx=true) (hc:Mh P s f off ag sz=true)
  (h1:σ.ev mx=.agg cs) (h2:sub cs off sz=some l):o.wp P a w (Nx B E w0 N (σ.put o.dst (kM ag l))) Q:=by
 obtain⟨x1,x2⟩:=r.ev hx
 rw[h1] at x1 x2
 obtain⟨vs,e,hl,hv⟩:=x1
 unfold sub at h2
 split at h2
 ·rename_i fb
  injection h2 with h2
  have tt:off+sz<=vs.length:=by rw[hl];exact fb
  have OM:cb w G σ.h l ((vs.drop off).take sz):=by
   subst h2
   refine⟨by simp[hl],fun j c u hj hu=>?_⟩
   rw[List.getElem?_take] at hj hu
   split at hj
   ·rename_i iE
    rw[if_pos iE] at hu
    rw[List.getElem?_drop] at hj hu
    exact hv _ c u hj hu
   ·cases hj
  have io:∀c∈l,∀m,c.ref m->σ.used m=true:=by
   intro c hc m hm
   subst h2
   exact x2 m ⟨c,List.mem_of_mem_drop (List.mem_of_mem_take hc),hm⟩
  unfold Mh at hc
  split at hc
  ·rename_i n7 hu
   split at hc
   ·rename_i fd hf
    simp only[Bool.and_eq_true,beq_iff_eq] at hc
    obtain⟨c1,dO⟩:=hc
    subst c1
    unfold qm at dO
    cases vq:P.underlying fd.type with
    |none=>rw[vq] at dO;simp at dO
    |some d=>
     cases hi:P.info? fd.type with
     |none=>rw[vq,hi] at dO;cases d<;>simp at dO
     |some i=>
      rw[vq,hi] at dO
      have bu:(ag=true/\i.size=sz/\(isAgg fd.type).run P w=.ok true w)\/(ag=false/\sz=1/\(isAgg fd.type).run P w=.ok false w):=by
       cases d<;>simp at dO<;>simp[isAgg,run_underlying vq,dO]
      rcases bu with⟨rfl,e1,e2⟩|⟨rfl,e1,e2⟩
      ·refine gf r (v:=.agg ((vs.drop fd.offset).take sz).toArray) ?_ ⟨_,rfl,OM⟩ (fun m hm=>?_) hN
       ·have:(vs.toArray.extract fd.offset (fd.offset+sz))=((vs.drop fd.offset).take sz).toArray:=by simp
        simp[execOp,ho,e,Instr.field,run_underlying hu,hf,part,asAgg,e2,sizeOf,typeInfo,hi,e1]
       ·obtain⟨c,hc,hm⟩:=hm
        exact io c hc m hm
      ·subst e1
       have hlen:l.length=1:=by subst h2;simp;omega
       obtain⟨c,rfl⟩:=List.length_eq_one_iff.1 hlen
       have bS:fd.offset<vs.length:=by omega
       have lz:(vs.drop fd.offset).take 1=[vs[fd.offset]]:=by
        rw[List.drop_eq_getElem_cons bS];rfl
       rw[lz] at OM
       refine gf r (v:=vs[fd.offset]) ?_ (.inr OM) (fun m hm=>io c (by simp) m hm) hN
       simp[execOp,ho,e,Instr.field,run_underlying hu,hf,part,asAgg,e2,bS]
   ·cases hc
  ·cases hc
 ·cases h2
def fy (bU:Bool) (n:Int) (v:Value):List Value:=if bU=true then[.int .i64 n,.int .i64 1,v] else[.int .i64 1,.int .i64 n,v]
def Mo (bU:Bool):List (Nat×Operand)->Bool
 |[(i,x),(j,y),(k,z)]=>(i==0)&&(j==1)&&(k==2)&&(match z with|.tmp t=>t==5|_=>false)&&
  (match bU,x,y with
   |true,.tmp t,.const (.int .i64 n)=>(t==4)&&decide (n=1)
   |false,.const (.int .i64 n),.tmp t=>(t==4)&&decide (n=1)
   |_,_,_=>false)
 |_=>false
def Mp (P:Program) (t:TypeId):Bool:=
 match P.underlying t,P.info? t with
 |some (.struct n7),some it=>match it.zero,n7.toList.mapM (fun f=>(P.info? f.type).map fun i=>(f.offset,i.size)) with
  |some z,some places=>decide (places=[(0,1),(1,1),(2,1)])&&(z.cells.size==3)
  |_,_=>false
 |_,_=>false
def Js:Op->Bool
 |.move (.tmp 0)=>true
 |_=>false
def VJ (P:Program) (bU:Bool):List Oper->List Oper->Bool
 |[o1],[o2,o3,o4,o5,o6]=>
  o1.guard.isNone&&o2.guard.isNone&&o3.guard.isNone&&o4.guard.isNone&&o5.guard.isNone&&o6.guard.isNone&&
  decide (o1.dst=some 2)&&decide (o2.dst=some 3)&&decide (o3.dst=some 4)&&decide (o4.dst=some 5)&&decide (o5.dst=some 6)&&decide (o6.dst=none)&&
  (match o1.op with|.alloc e=>(match P.info? e with|some i=>(match i.zero with|some z=>z.cells.size==3|none=>false)|none=>false)|_=>false)&&
  Js o2.op&&Js o4.op&&
  (match o3.op with
  |.call c=>(match c.callee,c.args.toList,c.argTypes.toList with
   |.builtin .len,[.tmp t],[ty]=>(t==3)&&(match P.underlying ty with|some (.slice _)=>true|_=>false)
   |_,_,_=>false)
  |_=>false)&&
  (match o5.op with|.build t parts=>Mp P t&&Mo bU parts.toList|_=>false)&&
  (match o6.op with|.store t (.tmp i) (.tmp j)=>(i==2)&&(j==6)&&(match P.info? t with|some i=>i.size==3|none=>false)|_=>false)
 |_,_=>false
def Ih (P:Program) (f:FuncId) (bU:Bool):Bool:=
 match P.funcs[f]? with
 |some fn=>(fn.ntmps==7)&&(match fn.results.toList with|[.cell i t]=>(i==2)&&qm P t true 3|_=>false)&&
  (match fn.body with
  |some (.seq (.region _ r1 false) (.seq (.region _ r2 false) .ret))=>VJ P bU r1.toList r2.toList
  |_=>false)
 |none=>false
theorem Dj {ops:Array Oper} {o:Oper} {l:List Oper} (hg:o.guard.isNone=true) (h:o.wp P a w (wpList P ops Q l) Q):wpList P ops Q (o::l) a w:=by
 unfold wpList
 have hg':o.guard=none:=by simpa using hg
 rw[if_pos (by simp[Region.wanted,hg'])]
 exact .inl h
theorem ale {t:TypeId} {bU:Bool} {parts:List (Nat×Operand)} (h1:Mp P t=true) (h2:Mo bU parts=true) {ev:Operand->Value} {n:Int} {ya:Option Addr} {len cap:Nat} (h4:ev (.tmp 4)=.int .i64 n) (h5:ev (.tmp 5)=.slice ya len cap)
  (hk:∀v,ev (.const v)=v):P.built t (parts.map fun p=>(p.1,ev p.2))=some (fy bU n (.slice ya len cap)).toArray:=by
 unfold Mp at h1
 split at h1
 ·rename_i n7 it hu hi
  split at h1
  ·rename_i z places hz hp
   simp only[Bool.and_eq_true,decide_eq_true_eq,beq_iff_eq] at h1
   obtain⟨rfl,bn⟩:=h1
   unfold Mo at h2
   split at h2
   ·rename_i i x j y k q
    simp only[Bool.and_eq_true,beq_iff_eq] at h2
    obtain⟨⟨⟨⟨rfl,rfl⟩,rfl⟩,hq⟩,j4⟩:=h2
    have db:q=.tmp 5:=by
     cases q<;>simp at hq
     subst hq;rfl
    subst db
    have agn:(bU=true/\x=.tmp 4/\y=.const (.int .i64 1))\/(bU=false/\x=.const (.int .i64 1)/\y=.tmp 4):=by
     split at j4
     ·rename_i t n;simp only[Bool.and_eq_true,beq_iff_eq,decide_eq_true_eq] at j4;obtain⟨rfl,rfl⟩:=j4;exact .inl ⟨rfl,rfl,rfl⟩
     ·rename_i n t;simp only[Bool.and_eq_true,beq_iff_eq,decide_eq_true_eq] at j4;obtain⟨rfl,rfl⟩:=j4;exact .inr ⟨rfl,rfl,rfl⟩
     ·cases j4
    unfold Program.built
    simp only[hi,hu,hz,hp]
    obtain⟨c0,c1,c2,hc⟩:∃c0 c1 c2,z.cells=#[c0,c1,c2]:=by
     match Yk:z.cells,bn with
     |⟨[c0,c1,c2]⟩,_=>exact⟨c0,c1,c2,rfl⟩
    rw[hc]
    rcases agn with⟨rfl,rfl,rfl⟩|⟨rfl,rfl,rfl⟩
    ·simp[Instr.fill,h4,h5,hk,Value.cells,fy]
    ·simp[Instr.fill,h4,h5,hk,Value.cells,fy]
   ·cases h2
  ·cases h1
 ·cases h1
theorem alg {f:FuncId} {bU:Bool} (hc:Ih P f bU=true) {ya:Option Addr} {len cap:Nat} (w:World):
  Calls P f #[.slice ya len cap] w fun e w'=>e=.returned (.agg (fy bU len (.slice ya len cap)).toArray)/\Fr w.heap.size Ex.no w w':=by
 unfold Ih at hc
 split at hc
 ·rename_i fn hf
  simp only[Bool.and_eq_true,beq_iff_eq] at hc
  obtain⟨⟨hn,zA⟩,zn⟩:=hc
  split at zn
  ·rename_i id1 r1 id2 r2 hb
   refine calls_of_wp hf hb ?_
   unfold VJ at zn
   split at zn
   ·rename_i o1 o2 o3 o4 o5 o6 hr1 EH
    simp only[Bool.and_eq_true,decide_eq_true_eq] at zn
    obtain⟨⟨⟨⟨⟨⟨⟨⟨⟨⟨⟨⟨⟨⟨⟨⟨⟨g1,g2⟩,g3⟩,g4⟩,g5⟩,g6⟩,d1⟩,d2⟩,d3⟩,d4⟩,d5⟩,d6⟩,k1⟩,k2⟩,k4⟩,k3⟩,k5⟩,k6⟩:=zn
    have IW:({tmps:=#[Value.slice ya len cap]++Array.replicate (fn.ntmps - (#[Value.slice ya len cap]:Array Value).size) undef,defers:=[]}:Act)={tmps:=#[.slice ya len cap,undef,undef,undef,undef,undef,undef],defers:=[]}:=by
     rw[hn];rfl
    rw[IW]
    refine wp_seq (wp_region_list ?_)
    rw[hr1]
    refine Dj g1 ?_
    split at k1
    ·rename_i e oe
     split at k1
     ·rename_i i hi
      split at k1
      ·rename_i z hz
       have pA:z.cells.size=3:=by simpa using k1
       refine jk (v:=.pointer (some (ad w.heap.size 0))) (w':=w.alloc (.cells z.cells e)) (by simp[execOp,oe,Instr.alloc,zeroValue,typeInfo,hi,hz,newVar,newRow,ad]) ?_
       rw[d1]
       show(Code.seq (.region id2 r2 false) .ret).wp P _ _ _
       refine wp_seq (wp_region_list ?_)
       rw[EH]
       refine Dj g2 ?_
       have nj:o2.op=.move (.tmp 0):=by
        unfold Js at k2
        split at k2
        ·assumption
        ·cases k2
       have ho4:o4.op=.move (.tmp 0):=by
        unfold Js at k4
        split at k4
        ·assumption
        ·cases k4
       refine jk (v:=.slice ya len cap) (w':=w.alloc (.cells z.cells e)) (by simp[execOp,nj,Act.eval,Act.put]) ?_
       rw[d2]
       refine Dj g3 ?_
       split at k3
       ·rename_i c pu
        split at k3
        ·rename_i t ty Xv pn X5
         simp only[Bool.and_eq_true,beq_iff_eq] at k3
         obtain⟨rfl,X4⟩:=k3
         split at X4
         ·rename_i el hu
          obtain⟨cal,args,Vr⟩:=c
          simp only at Xv pn X5
          have ea:args=#[.tmp 3]:=by apply Array.ext';simpa using pn
          have et:Vr=#[ty]:=by apply Array.ext';simpa using X5
          subst Xv ea et
          refine jk (v:=.int .i64 len) (w':=w.alloc (.cells z.cells e)) (by simp[execOp,pu,resolve,invoke,builtin,Act.eval,Act.put,Builtin.len_,run_underlying hu,goInt]) ?_
          rw[d3]
          refine Dj g4 ?_
          refine jk (v:=.slice ya len cap) (w':=w.alloc (.cells z.cells e)) (by simp[execOp,ho4,Act.eval,Act.put]) ?_
          rw[d4]
          refine Dj g5 ?_
          split at k5
          ·rename_i t5 parts ho5
           simp only[Bool.and_eq_true] at k5
           generalize BL:(Act.put (Act.put (Act.put (Act.put {tmps:=#[Value.slice ya len cap,undef,undef,undef,undef,undef,undef],defers:=[]} (some 2) (.pointer (some (ad w.heap.size 0)))) (some 3) (.slice ya len cap)) (some 4) (.int .i64 len)) (some 5) (.slice ya len cap))=eN
           have nd:=ale (ev:=eN.eval) (n:=len) (ya:=ya) (len:=len) (cap:=cap) k5.1 k5.2 (by rw[<-BL];simp[Act.eval,Act.put]) (by rw[<-BL];simp[Act.eval,Act.put]) (fun v=>rfl)
           refine jk (v:=.agg (fy bU len (.slice ya len cap)).toArray) (w':=w.alloc (.cells z.cells e)) ?_ ?_
           ·have aS:=run_build (P:=P) (w.alloc (.cells z.cells e)) t5 (parts.map fun p=>(p.1,eN.eval p.2)) _ (by rw[Array.toList_map];exact nd)
            simp only[execOp,ho5]
            simp[aS]
           ·rw[d5]
            refine Dj g6 ?_
            split at k6
            ·rename_i t6 i6 j6 ho6
             simp only[Bool.and_eq_true,beq_iff_eq] at k6
             obtain⟨⟨rfl,rfl⟩,k6⟩:=k6
             split at k6
             ·rename_i i7 hi7
              have hs7:i7.size=3:=by simpa using k6
              have gV:(fy bU len (.slice ya len cap)).length=3:=by cases bU<;>rfl
              have hg:(w.alloc (.cells z.cells e)).heap[w.heap.size]? =some (.cells z.cells e (0,0)):=by
               show(w.heap.push _)[w.heap.size]? =_
               simp
              have lB:=FF (P:=P) (w:=w.alloc (.cells z.cells e)) (t:=t6) (i:=i7) (b:=w.heap.size) (off:=0) (v:=.agg (fy bU len (.slice ya len cap)).toArray) (cur:=z.cells) (e:=e) hi7
               (by rw[hs7];exact gV) hg (by show 0+(fy bU len (.slice ya len cap)).length<=z.cells.size;rw[gV,pA];omega) (fun u hu=>by
                simp only[Value.cells] at hu
                cases bU<;>simp[fy] at hu<;>rcases hu with rfl|rfl|rfl<;>rfl)
              have e2:(eN.put (some 6) (.agg (fy bU len (.slice ya len cap)).toArray)).eval (.tmp 2)=.pointer (some (ad w.heap.size 0)):=by rw[<-BL];simp[Act.eval,Act.put]
              have e6:(eN.put (some 6) (.agg (fy bU len (.slice ya len cap)).toArray)).eval (.tmp 6)=.agg (fy bU len (.slice ya len cap)).toArray:=by rw[<-BL];simp[Act.eval,Act.put]
              refine Gu (w':=dY (w.alloc (.cells z.cells e)) w.heap.size 0 (Value.cells (.agg (fy bU len (.slice ya len cap)).toArray)).toList z.cells) ?_ ?_
              ·simp only[execOp,ho6,e2,e6]
               simp[Instr.storeAt,Instr.sureAddr,lB]
              ·rw[d6]
               show Code.ret.wp P _ _ _
               refine wp_ret ?_
               have et2:((eN.put (some 6) (.agg (fy bU len (.slice ya len cap)).toArray)).put none undef).tmps.getD 2 undef=.pointer (some (ad w.heap.size 0)):=by rw[<-BL];simp[Act.put]
               refine⟨by rw[<-BL];simp[Act.put],.agg (fy bU len (.slice ya len cap)).toArray,?_,rfl,?_⟩
               ·split at zA
                ·rename_i ri rt EI
                 simp only[Bool.and_eq_true,beq_iff_eq] at zA
                 obtain⟨rfl,dO⟩:=zA
                 have lA:=Kk (P:=P) (w:=dY (w.alloc (.cells z.cells e)) w.heap.size 0 (Value.cells (.agg (fy bU len (.slice ya len cap)).toArray)).toList z.cells) fn ((eN.put (some 6) (.agg (fy bU len (.slice ya len cap)).toArray)).put none undef).tmps (us:=[.agg (fy bU len (.slice ya len cap)).toArray]) ?_
                 ·exact lA
                 ·rw[EI]
                  have EB:∀n:Nat,n=3->(loadCells (ad w.heap.size 0) n).run P (dY (w.alloc (.cells z.cells e)) w.heap.size 0 (Value.cells (.agg (fy bU len (.slice ya len cap)).toArray)).toList z.cells)=.ok (fy bU len (.slice ya len cap)).toArray (dY (w.alloc (.cells z.cells e)) w.heap.size 0 (Value.cells (.agg (fy bU len (.slice ya len cap)).toArray)).toList z.cells):=by
                   intro n hn
                   subst hn
                   rw[<-gV]
                   refine run_loadCells_list _ (ad w.heap.size 0) _ (fun j u hj=>?_)
                   rw[mY,Nat.zero_add,wv hg (by show 0+(fy bU len (.slice ya len cap)).length<=z.cells.size;rw[gV,pA];omega)]
                   have hj3:=(List.getElem?_eq_some_iff.1 hj).1
                   rw[if_pos ⟨Nat.zero_le _,by simpa[Value.cells] using hj3⟩]
                   simpa[Value.cells] using hj
                  unfold qm at dO
                  cases vq:P.underlying rt with
                  |none=>rw[vq] at dO;simp at dO
                  |some d=>
                   cases rT:P.info? rt with
                   |none=>rw[vq,rT] at dO;cases d<;>simp at dO
                   |some i2=>
                    rw[vq,rT] at dO
                    have bu:i2.size=3/\(isAgg rt).run P (dY (w.alloc (.cells z.cells e)) w.heap.size 0 (Value.cells (.agg (fy bU len (.slice ya len cap)).toArray)).toList z.cells)=.ok true (dY (w.alloc (.cells z.cells e)) w.heap.size 0 (Value.cells (.agg (fy bU len (.slice ya len cap)).toArray)).toList z.cells):=by
                     cases d<;>simp at dO<;>simp[isAgg,run_underlying vq,dO]
                    simp[ua,et2,loadVar,asAddr,bu.2,sizeOf,typeInfo,rT,EB i2.size bu.1]
                ·cases zA
               ·have f1:=(Fr.refl w.heap.size Ex.no w (Nat.le_refl _)).grow (w':=w.alloc (.cells z.cells e)) (fun b hb=>HV w _ b hb) (by simp) rfl rfl rfl
                exact f1.one (b0:=w.heap.size) (.inl (Nat.le_refl _)) (fun b _ hb=>ww b hb) (by rw[oO];exact Nat.le_refl _) (yq hg (by show 0+(fy bU len (.slice ya len cap)).length<=z.cells.size;rw[gV,pA];omega)) rfl rfl rfl
             ·cases k6
            ·cases k6
          ·cases k5
         ·cases X4
        ·cases k3
       ·cases k3
      ·cases k1
     ·cases k1
    ·cases k1
   ·cases zn
  ·cases zn
 ·cases hc
theorem MS (r:R B E w0 N σ a w G) {f:FuncId} {bU:Bool} {x:Operand} {mx:MO} {ts:Array TypeId} {c:ab} {len:Nat} (hN:∀n,o.dst=some n->n<N)
  (ho:o.op=.call {callee:=.value (.func f),args:=#[x],argTypes:=ts}) (hf:bJ P f=true) (dR:Ih P f bU=true) (hm:bd x mx=true) (he:σ.ev mx=.one c)
  (hz:(∃n sz lo,c=.sl n sz lo len/\(σ.h n).isSome=true)\/(∃sz xs,c=.c (.list sz xs)/\len=xs.length)\/(∃sz,c=.nil sz/\len=0)):
  o.wp P a w (Nx B E w0 N (σ.put o.dst (.agg (kI bU len c)))) Q:=by
 obtain⟨x1,x2⟩:=r.ev hm
 have hv:∃ya cap,a.eval x=.slice ya len cap:=by
  rw[he] at x1
  rcases hz with⟨n,sz,lo,e1,hs⟩|⟨sz,xs,e1,rfl⟩|⟨sz,e1,rfl⟩
  ·subst e1
   have fC:eU (G.g n) sz lo len (a.eval x):=(x1.dB (by simp)).1 (E9 hs)
   rcases fC with⟨_,hv,_,rfl⟩|⟨_,a',hv,_,_⟩
   ·exact⟨_,_,hv⟩
   ·exact⟨_,_,hv⟩
  ·subst e1
   obtain⟨pc,p1,p2,_⟩:=x1.c
   cases pc with
   |int k n=>simp[PC.er] at p1
   |bool b=>simp[PC.er] at p1
   |list s' ya c py=>
    rw[PC.cN] at p1
    injection p1 with _ p1
    refine⟨ya,c,?_⟩
    rw[<-p2,<-p1];simp[PC.val]
  ·subst e1
   have eH:a.eval x=.slice none 0 0:=(x1.dB (by simp)).1
   exact⟨_,_,eH⟩
 obtain⟨ya,cap,hv⟩:=hv
 have eg:c≠ .aX:=by
  rintro rfl
  rcases hz with⟨n,sz,lo,e1,hs⟩|⟨sz,xs,e1,rfl⟩|⟨sz,e1,rfl⟩<;>cases e1
 unfold Oper.wp
 have aS:(execOp a.eval o).run P w=.ok (.enter f #[.slice ya len cap]) w:=by
  have h0:(execOp a.eval o).run P w=.ok (.enter f #[a.eval x]) w:=by simp[execOp,ho,resolve,Deferred.ofValue,invoke,Act.eval,ue hf]
  rw[h0,hv]
 rw[aS]
 refine(alg dR w).mono fun e w' ⟨p2,p5⟩=>?_
 subst p2
 have fP:∀b,b<w.heap.size->w'.heap[b]? =w.heap[b]? :=fun b hb=>p5.block b hb id
 have r2:R B E w0 N σ a w' G:=r.step rfl (fun _ h=>h) (aR.world (fun b hb=>fP b (r.hr.e7 b hb)) _) (r.hr.grow fP p5.size) (r.fr.call p5)
 obtain⟨y1,y2⟩:=r2.ev hm
 rw[he] at y1 y2
 obtain⟨q1,q2⟩:=y1.dB eg
 rw[hv] at q1 q2
 have i1:∀n:Int,RC w' G σ.h (.c (.int .i64 n)) (.int .i64 n):=fun n=>(RA.of_int (w:=w') (G:=G) (h:=σ.h) .i64 n).dB (by simp)|>.1
 refine⟨G,r2.put (x:=.agg (kI bU len c)) ⟨fy bU len (.slice ya len cap),rfl,?_⟩ ?_ hN⟩
 ·cases bU
  ·refine⟨rfl,fun j c' u hj hu=>?_⟩
   match j,hj,hu with
   |0,hj,hu=>simp[kI] at hj;simp[fy] at hu;subst hj hu;exact⟨rfl,i1 1⟩
   |1,hj,hu=>simp[kI] at hj;simp[fy] at hu;subst hj hu;exact⟨rfl,i1 len⟩
   |2,hj,hu=>simp[kI] at hj;simp[fy] at hu;subst hj hu;exact⟨q2,q1⟩
   |j+3,hj,hu=>simp[kI] at hj
  ·refine⟨rfl,fun j c' u hj hu=>?_⟩
   match j,hj,hu with
   |0,hj,hu=>simp[kI] at hj;simp[fy] at hu;subst hj hu;exact⟨rfl,i1 len⟩
   |1,hj,hu=>simp[kI] at hj;simp[fy] at hu;subst hj hu;exact⟨rfl,i1 1⟩
   |2,hj,hu=>simp[kI] at hj;simp[fy] at hu;subst hj hu;exact⟨q2,q1⟩
   |j+3,hj,hu=>simp[kI] at hj
 ·intro m hm
  obtain⟨c',bZ,hm⟩:=hm
  have:c'=c\/∃n,c'=.c (.int .i64 n):=by
   cases bU<;>simp[kI] at bZ<;>rcases bZ with h|h|h
   ·exact .inr ⟨_,h⟩
   ·exact .inr ⟨_,h⟩
   ·exact .inl h
   ·exact .inr ⟨_,h⟩
   ·exact .inr ⟨_,h⟩
   ·exact .inl h
  rcases this with rfl|⟨n,rfl⟩
  ·exact y2 m hm
  ·exact absurd hm id
end
end Go.Am
