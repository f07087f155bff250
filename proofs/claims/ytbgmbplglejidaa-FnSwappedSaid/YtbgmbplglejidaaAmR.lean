/- AmR: functions that lay a list into a structure as one row or one column, and fields of structures. No condition. -/
import Derived.Test.YtbgmbplglejidaaAmO
set_option linter.unusedVariables false
set_option linter.unusedSimpArgs false
namespace Go.Am
section
variable {B:Nat} {E:Ex} {w0 w w':World} {G G':Gh} {h h':Nat->Option ar} {used used':Nat->Bool} {tk:List PC} {N:Nat}
variable {P:Program} {o:Oper} {a:Act} {σ σ':St} {Q:Exit->Act->World->Prop}
def tW (tmps:Array Value):ResultVar->Sem Value
 |.tmp t=>pure (tmps.getD t undef)
 |.cell a t=>do loadVar t (<-asAddr (tmps.getD a undef))
def C8:List Value->Value
 |[u]=>u
 |l=>.tuple l.toArray
theorem Ll (fn:Func) (tmps:Array Value) {us:List Value} (h:(fn.results.toList.mapM (tW tmps)).run P w=.ok us w):
  (results fn tmps).run P w=.ok (C8 us) w:=by
 unfold results
 generalize fn.results=A at h⊢
 obtain⟨l,rfl⟩:∃l:List ResultVar,A=l.toArray:=⟨A.toList,by simp⟩
 have h2:((l.toArray.mapM (tW tmps)).run P w)=.ok us.toArray w:=by
  rw[List.mapM_toArray]
  simp at h
  simp[h]
 show Sem.run P (l.toArray.mapM (tW tmps)>>=fun vs=>pure (if h:vs.size=1 then vs[0] else Value.tuple vs)) w=_
 generalize l.toArray.mapM (tW tmps)=s at h2⊢
 match us with
 |[]=>simp[C8,h2]
 |[u]=>simp[C8,h2]
 |u::v::us=>simp[C8,h2]
def Nz (P:Program) (s:TypeId) (f off:Nat) (ag:Bool) (sz:Nat):Bool:=
 match P.underlying s with
 |some (.struct oL)=>match oL[f]? with
  |some fd=>(fd.offset==off)&&qF P fd.type ag sz
  |none=>false
 |_=>false
theorem agT (r:R B E w0 N σ a w G) {s:TypeId} {f off sz:Nat} {ag:Bool} {x:Operand} {mx:MO} {cs l:List aj} (ho:o.op=.field s x f) (hN:∀n,o.dst=some n->n<N) (hx:bF x mx=true) (hc:Nz P s f off ag sz=true)
  (h1:σ.ev mx=.agg cs) (h2:sub cs off sz=some l):o.wp P a w (Nx B E w0 N (σ.put o.dst (ma ag l))) Q:=by
 obtain⟨x1,x2⟩:=r.ev hx
 rw[h1] at x1 x2
 obtain⟨vs,e,hl,hv⟩:=x1
 unfold sub at h2
 split at h2
 ·rename_i ig
  injection h2 with h2
  have tv:off+sz<=vs.length:=by rw[hl];exact ig
  have P6:cZ w G σ.h l ((vs.drop off).take sz):=by
   subst h2
   refine⟨by simp[hl],fun j c u hj hu=>?_⟩
   rw[List.getElem?_take] at hj hu
   split at hj
   ·rename_i lJ
    rw[if_pos lJ] at hu
    rw[List.getElem?_drop] at hj hu
    exact hv _ c u hj hu
   ·cases hj
  have je:∀c∈l,∀m,c.ref m->σ.used m=true:=by
   intro c hc m hm
   subst h2
   exact x2 m ⟨c,List.mem_of_mem_drop (List.mem_of_mem_take hc),hm⟩
  unfold Nz at hc
  split at hc
  ·rename_i oL hu
   split at hc
   ·rename_i fd hf
    simp only[Bool.and_eq_true,beq_iff_eq] at hc
    obtain⟨c1,dF⟩:=hc
    subst c1
    unfold qF at dF
    cases vf:P.underlying fd.type with
    |none=>rw[vf] at dF;simp at dF
    |some d=>
     cases hi:P.info? fd.type with
     |none=>rw[vf,hi] at dF;cases d<;>simp at dF
     |some i=>
      rw[vf,hi] at dF
      have bu:(ag=true/\i.size=sz/\(isAgg fd.type).run P w=.ok true w)\/(ag=false/\sz=1/\(isAgg fd.type).run P w=.ok false w):=by
       cases d<;>simp at dF<;>simp[isAgg,run_underlying vf,dF]
      rcases bu with⟨rfl,e1,e2⟩|⟨rfl,e1,e2⟩
      ·refine gS r (v:=.agg ((vs.drop fd.offset).take sz).toArray) ?_ ⟨_,rfl,P6⟩ (fun m hm=>?_) hN
       ·have:(vs.toArray.extract fd.offset (fd.offset+sz))=((vs.drop fd.offset).take sz).toArray:=by simp
        simp[execOp,ho,e,Instr.field,run_underlying hu,hf,part,asAgg,e2,sizeOf,typeInfo,hi,e1]
       ·obtain⟨c,hc,hm⟩:=hm
        exact je c hc m hm
      ·subst e1
       have hlen:l.length=1:=by subst h2;simp;omega
       obtain⟨c,rfl⟩:=List.length_eq_one_iff.1 hlen
       have bK:fd.offset<vs.length:=by omega
       have Fl:(vs.drop fd.offset).take 1=[vs[fd.offset]]:=by
        rw[List.drop_eq_getElem_cons bK];rfl
       rw[Fl] at P6
       refine gS r (v:=vs[fd.offset]) ?_ (.inr P6) (fun m hm=>je c (by simp) m hm) hN
       simp[execOp,ho,e,Instr.field,run_underlying hu,hf,part,asAgg,e2,bK]
   ·cases hc
  ·cases hc
 ·cases h2
def fM (bQ:Bool) (n:Int) (v:Value):List Value:=if bQ=true then[.int .i64 n,.int .i64 1,v] else[.int .i64 1,.int .i64 n,v]
def NE (bQ:Bool):List (Nat×Operand)->Bool
 |[(i,x),(j,y),(k,z)]=>(i==0)&&(j==1)&&(k==2)&&(match z with|.tmp t=>t==5|_=>false)&&
  (match bQ,x,y with
   |true,.tmp t,.const (.int .i64 n)=>(t==4)&&decide (n=1)
   |false,.const (.int .i64 n),.tmp t=>(t==4)&&decide (n=1)
   |_,_,_=>false)
 |_=>false
def NF (P:Program) (t:TypeId):Bool:=
 match P.underlying t,P.info? t with
 |some (.struct oL),some it=>match it.zero,oL.toList.mapM (fun f=>(P.info? f.type).map fun i=>(f.offset,i.size)) with
  |some z,some places=>decide (places=[(0,1),(1,1),(2,1)])&&(z.cells.size==3)
  |_,_=>false
 |_,_=>false
def Ku:Op->Bool
 |.move (.tmp 0)=>true
 |_=>false
def YB (P:Program) (bQ:Bool):List Oper->List Oper->Bool
 |[o1],[o2,o3,o4,o5,o6]=>
  o1.guard.isNone&&o2.guard.isNone&&o3.guard.isNone&&o4.guard.isNone&&o5.guard.isNone&&o6.guard.isNone&&
  decide (o1.dst=some 2)&&decide (o2.dst=some 3)&&decide (o3.dst=some 4)&&decide (o4.dst=some 5)&&decide (o5.dst=some 6)&&decide (o6.dst=none)&&
  (match o1.op with|.alloc e=>(match P.info? e with|some i=>(match i.zero with|some z=>z.cells.size==3|none=>false)|none=>false)|_=>false)&&
  Ku o2.op&&Ku o4.op&&
  (match o3.op with
  |.call c=>(match c.callee,c.args.toList,c.argTypes.toList with
   |.builtin .len,[.tmp t],[ty]=>(t==3)&&(match P.underlying ty with|some (.slice _)=>true|_=>false)
   |_,_,_=>false)
  |_=>false)&&
  (match o5.op with|.build t parts=>NF P t&&NE bQ parts.toList|_=>false)&&
  (match o6.op with|.store t (.tmp i) (.tmp j)=>(i==2)&&(j==6)&&(match P.info? t with|some i=>i.size==3|none=>false)|_=>false)
 |_,_=>false
def Jf (P:Program) (f:FuncId) (bQ:Bool):Bool:=
 match P.funcs[f]? with
 |some fn=>(fn.ntmps==7)&&(match fn.results.toList with|[.cell i t]=>(i==2)&&qF P t true 3|_=>false)&&
  (match fn.body with
  |some (.seq (.region _ r1 false) (.seq (.region _ r2 false) .ret))=>YB P bQ r1.toList r2.toList
  |_=>false)
 |none=>false
theorem DS {ops:Array Oper} {o:Oper} {l:List Oper} (hg:o.guard.isNone=true) (h:o.wp P a w (wpList P ops Q l) Q):wpList P ops Q (o::l) a w:=by
 unfold wpList
 have hg':o.guard=none:=by simpa using hg
 rw[if_pos (by simp[Region.wanted,hg'])]
 exact .inl h
theorem aq4 {t:TypeId} {bQ:Bool} {parts:List (Nat×Operand)} (h1:NF P t=true) (h2:NE bQ parts=true) {ev:Operand->Value} {n:Int} {ya:Option Addr} {len cap:Nat} (h4:ev (.tmp 4)=.int .i64 n) (h5:ev (.tmp 5)=.slice ya len cap)
  (hk:∀v,ev (.const v)=v):P.built t (parts.map fun p=>(p.1,ev p.2))=some (fM bQ n (.slice ya len cap)).toArray:=by
 unfold NF at h1
 split at h1
 ·rename_i oL it hu hi
  split at h1
  ·rename_i z places hz hp
   simp only[Bool.and_eq_true,decide_eq_true_eq,beq_iff_eq] at h1
   obtain⟨rfl,bP⟩:=h1
   unfold NE at h2
   split at h2
   ·rename_i i x j y k q
    simp only[Bool.and_eq_true,beq_iff_eq] at h2
    obtain⟨⟨⟨⟨rfl,rfl⟩,rfl⟩,hq⟩,kT⟩:=h2
    have d9:q=.tmp 5:=by
     cases q<;>simp at hq
     subst hq;rfl
    subst d9
    have ajC:(bQ=true/\x=.tmp 4/\y=.const (.int .i64 1))\/(bQ=false/\x=.const (.int .i64 1)/\y=.tmp 4):=by
     split at kT
     ·rename_i t n;simp only[Bool.and_eq_true,beq_iff_eq,decide_eq_true_eq] at kT;obtain⟨rfl,rfl⟩:=kT;exact .inl ⟨rfl,rfl,rfl⟩
     ·rename_i n t;simp only[Bool.and_eq_true,beq_iff_eq,decide_eq_true_eq] at kT;obtain⟨rfl,rfl⟩:=kT;exact .inr ⟨rfl,rfl,rfl⟩
     ·cases kT
    unfold Program.built
    simp only[hi,hu,hz,hp]
    obtain⟨c0,c1,c2,hc⟩:∃c0 c1 c2,z.cells=#[c0,c1,c2]:=by
     match hzc:z.cells,bP with
     |⟨[c0,c1,c2]⟩,_=>exact⟨c0,c1,c2,rfl⟩
    rw[hc]
    rcases ajC with⟨rfl,rfl,rfl⟩|⟨rfl,rfl,rfl⟩
    ·simp[Instr.fill,h4,h5,hk,Value.cells,fM]
    ·simp[Instr.fill,h4,h5,hk,Value.cells,fM]
   ·cases h2
  ·cases h1
 ·cases h1
theorem aq8 {f:FuncId} {bQ:Bool} (hc:Jf P f bQ=true) {ya:Option Addr} {len cap:Nat} (w:World):
  Calls P f #[.slice ya len cap] w fun e w'=>e=.returned (.agg (fM bQ len (.slice ya len cap)).toArray)/\Fr w.heap.size Ex.no w w':=by
 unfold Jf at hc
 split at hc
 ·rename_i fn hf
  simp only[Bool.and_eq_true,beq_iff_eq] at hc
  obtain⟨⟨hn,zo⟩,y5⟩:=hc
  split at y5
  ·rename_i id1 r1 id2 r2 hb
   refine calls_of_wp hf hb ?_
   unfold YB at y5
   split at y5
   ·rename_i o1 o2 o3 o4 o5 o6 hr1 Fo
    simp only[Bool.and_eq_true,decide_eq_true_eq] at y5
    obtain⟨⟨⟨⟨⟨⟨⟨⟨⟨⟨⟨⟨⟨⟨⟨⟨⟨g1,g2⟩,g3⟩,g4⟩,g5⟩,g6⟩,d1⟩,d2⟩,d3⟩,d4⟩,d5⟩,d6⟩,k1⟩,k2⟩,k4⟩,k3⟩,k5⟩,k6⟩:=y5
    have JZ:({tmps:=#[Value.slice ya len cap]++Array.replicate (fn.ntmps - (#[Value.slice ya len cap]:Array Value).size) undef,defers:=[]}:Act)={tmps:=#[.slice ya len cap,undef,undef,undef,undef,undef,undef],defers:=[]}:=by
     rw[hn];rfl
    rw[JZ]
    refine wp_seq (wp_region_list ?_)
    rw[hr1]
    refine DS g1 ?_
    split at k1
    ·rename_i e se
     split at k1
     ·rename_i i hi
      split at k1
      ·rename_i z hz
       have sr:z.cells.size=3:=by simpa using k1
       refine oC (v:=.pointer (some (ad w.heap.size 0))) (w':=w.alloc (.cells z.cells e)) (by simp[execOp,se,Instr.alloc,zeroValue,typeInfo,hi,hz,newVar,newRow,ad]) ?_
       rw[d1]
       show(Code.seq (.region id2 r2 false) .ret).wp P _ _ _
       refine wp_seq (wp_region_list ?_)
       rw[Fo]
       refine DS g2 ?_
       have qV:o2.op=.move (.tmp 0):=by
        unfold Ku at k2
        split at k2
        ·assumption
        ·cases k2
       have ho4:o4.op=.move (.tmp 0):=by
        unfold Ku at k4
        split at k4
        ·assumption
        ·cases k4
       refine oC (v:=.slice ya len cap) (w':=w.alloc (.cells z.cells e)) (by simp[execOp,qV,Act.eval,Act.put]) ?_
       rw[d2]
       refine DS g3 ?_
       split at k3
       ·rename_i c sf
        split at k3
        ·rename_i t ty aak r9 aaH
         simp only[Bool.and_eq_true,beq_iff_eq] at k3
         obtain⟨rfl,hty⟩:=k3
         split at hty
         ·rename_i el hu
          obtain⟨cal,args,X9⟩:=c
          simp only at aak r9 aaH
          have ea:args=#[.tmp 3]:=by apply Array.ext';simpa using r9
          have et:X9=#[ty]:=by apply Array.ext';simpa using aaH
          subst aak ea et
          refine oC (v:=.int .i64 len) (w':=w.alloc (.cells z.cells e)) (by simp[execOp,sf,resolve,invoke,builtin,Act.eval,Act.put,Builtin.len_,run_underlying hu,goInt]) ?_
          rw[d3]
          refine DS g4 ?_
          refine oC (v:=.slice ya len cap) (w':=w.alloc (.cells z.cells e)) (by simp[execOp,ho4,Act.eval,Act.put]) ?_
          rw[d4]
          refine DS g5 ?_
          split at k5
          ·rename_i t5 parts ho5
           simp only[Bool.and_eq_true] at k5
           generalize B1:(Act.put (Act.put (Act.put (Act.put {tmps:=#[Value.slice ya len cap,undef,undef,undef,undef,undef,undef],defers:=[]} (some 2) (.pointer (some (ad w.heap.size 0)))) (some 3) (.slice ya len cap)) (some 4) (.int .i64 len)) (some 5) (.slice ya len cap))=fe
           have nP:=aq4 (ev:=fe.eval) (n:=len) (ya:=ya) (len:=len) (cap:=cap) k5.1 k5.2 (by rw[<-B1];simp[Act.eval,Act.put]) (by rw[<-B1];simp[Act.eval,Act.put]) (fun v=>rfl)
           refine oC (v:=.agg (fM bQ len (.slice ya len cap)).toArray) (w':=w.alloc (.cells z.cells e)) ?_ ?_
           ·have bY:=run_build (P:=P) (w.alloc (.cells z.cells e)) t5 (parts.map fun p=>(p.1,fe.eval p.2)) _ (by rw[Array.toList_map];exact nP)
            simp only[execOp,ho5]
            simp[bY]
           ·rw[d5]
            refine DS g6 ?_
            split at k6
            ·rename_i t6 i6 j6 ho6
             simp only[Bool.and_eq_true,beq_iff_eq] at k6
             obtain⟨⟨rfl,rfl⟩,k6⟩:=k6
             split at k6
             ·rename_i i7 hi7
              have hs7:i7.size=3:=by simpa using k6
              have jR:(fM bQ len (.slice ya len cap)).length=3:=by cases bQ<;>rfl
              have hg:(w.alloc (.cells z.cells e)).heap[w.heap.size]? =some (.cells z.cells e (0,0)):=by
               show(w.heap.push _)[w.heap.size]? =_
               simp
              have nY:=Lm (P:=P) (w:=w.alloc (.cells z.cells e)) (t:=t6) (i:=i7) (b:=w.heap.size) (off:=0) (v:=.agg (fM bQ len (.slice ya len cap)).toArray) (cur:=z.cells) (e:=e) hi7
               (by rw[hs7];exact jR) hg (by show 0+(fM bQ len (.slice ya len cap)).length<=z.cells.size;rw[jR,sr];omega) (fun u hu=>by
                simp only[Value.cells] at hu
                cases bQ<;>simp[fM] at hu<;>rcases hu with rfl|rfl|rfl<;>rfl)
              have e2:(fe.put (some 6) (.agg (fM bQ len (.slice ya len cap)).toArray)).eval (.tmp 2)=.pointer (some (ad w.heap.size 0)):=by rw[<-B1];simp[Act.eval,Act.put]
              have e6:(fe.put (some 6) (.agg (fM bQ len (.slice ya len cap)).toArray)).eval (.tmp 6)=.agg (fM bQ len (.slice ya len cap)).toArray:=by rw[<-B1];simp[Act.eval,Act.put]
              refine Mb (w':=eX (w.alloc (.cells z.cells e)) w.heap.size 0 (Value.cells (.agg (fM bQ len (.slice ya len cap)).toArray)).toList z.cells) ?_ ?_
              ·simp only[execOp,ho6,e2,e6]
               simp[Instr.storeAt,Instr.sureAddr,nY]
              ·rw[d6]
               show Code.ret.wp P _ _ _
               refine wp_ret ?_
               have et2:((fe.put (some 6) (.agg (fM bQ len (.slice ya len cap)).toArray)).put none undef).tmps.getD 2 undef=.pointer (some (ad w.heap.size 0)):=by rw[<-B1];simp[Act.put]
               refine⟨by rw[<-B1];simp[Act.put],.agg (fM bQ len (.slice ya len cap)).toArray,?_,rfl,?_⟩
               ·split at zo
                ·rename_i ri rt hrl
                 simp only[Bool.and_eq_true,beq_iff_eq] at zo
                 obtain⟨rfl,dF⟩:=zo
                 have sj:=Ll (P:=P) (w:=eX (w.alloc (.cells z.cells e)) w.heap.size 0 (Value.cells (.agg (fM bQ len (.slice ya len cap)).toArray)).toList z.cells) fn ((fe.put (some 6) (.agg (fM bQ len (.slice ya len cap)).toArray)).put none undef).tmps (us:=[.agg (fM bQ len (.slice ya len cap)).toArray]) ?_
                 ·exact sj
                 ·rw[hrl]
                  have Ff:∀n:Nat,n=3->(loadCells (ad w.heap.size 0) n).run P (eX (w.alloc (.cells z.cells e)) w.heap.size 0 (Value.cells (.agg (fM bQ len (.slice ya len cap)).toArray)).toList z.cells)=.ok (fM bQ len (.slice ya len cap)).toArray (eX (w.alloc (.cells z.cells e)) w.heap.size 0 (Value.cells (.agg (fM bQ len (.slice ya len cap)).toArray)).toList z.cells):=by
                   intro n hn
                   subst hn
                   rw[<-jR]
                   refine run_loadCells_list _ (ad w.heap.size 0) _ (fun j u hj=>?_)
                   rw[oI,Nat.zero_add,DP hg (by show 0+(fM bQ len (.slice ya len cap)).length<=z.cells.size;rw[jR,sr];omega)]
                   have hj3:=(List.getElem?_eq_some_iff.1 hj).1
                   rw[if_pos ⟨Nat.zero_le _,by simpa[Value.cells] using hj3⟩]
                   simpa[Value.cells] using hj
                  unfold qF at dF
                  cases vf:P.underlying rt with
                  |none=>rw[vf] at dF;simp at dF
                  |some d=>
                   cases PL:P.info? rt with
                   |none=>rw[vf,PL] at dF;cases d<;>simp at dF
                   |some i2=>
                    rw[vf,PL] at dF
                    have bu:i2.size=3/\(isAgg rt).run P (eX (w.alloc (.cells z.cells e)) w.heap.size 0 (Value.cells (.agg (fM bQ len (.slice ya len cap)).toArray)).toList z.cells)=.ok true (eX (w.alloc (.cells z.cells e)) w.heap.size 0 (Value.cells (.agg (fM bQ len (.slice ya len cap)).toArray)).toList z.cells):=by
                     cases d<;>simp at dF<;>simp[isAgg,run_underlying vf,dF]
                    simp[tW,et2,loadVar,asAddr,bu.2,sizeOf,typeInfo,PL,Ff i2.size bu.1]
                ·cases zo
               ·have f1:=(Fr.refl w.heap.size Ex.no w (Nat.le_refl _)).grow (w':=w.alloc (.cells z.cells e)) (fun b hb=>M8 w _ b hb) (by simp) rfl rfl rfl
                exact f1.one (b0:=w.heap.size) (.inl (Nat.le_refl _)) (fun b _ hb=>AJ b hb) (by rw[rJ];exact Nat.le_refl _) (DQ hg (by show 0+(fM bQ len (.slice ya len cap)).length<=z.cells.size;rw[jR,sr];omega)) rfl rfl rfl
             ·cases k6
            ·cases k6
          ·cases k5
         ·cases hty
        ·cases k3
       ·cases k3
      ·cases k1
     ·cases k1
    ·cases k1
   ·cases y5
  ·cases y5
 ·cases hc
theorem NY (r:R B E w0 N σ a w G) {f:FuncId} {bQ:Bool} {x:Operand} {mx:MO} {ts:Array TypeId} {c:aj} {len:Nat} (hN:∀n,o.dst=some n->n<N)
  (ho:o.op=.call {callee:=.value (.func f),args:=#[x],argTypes:=ts}) (hf:bH P f=true) (fo:Jf P f bQ=true) (hm:bF x mx=true) (he:σ.ev mx=.one c)
  (hz:(∃n sz lo,c=.sl n sz lo len/\(σ.h n).isSome=true)\/(∃sz xs,c=.c (.list sz xs)/\len=xs.length)\/(∃sz,c=.nil sz/\len=0)):
  o.wp P a w (Nx B E w0 N (σ.put o.dst (.agg (lV bQ len c)))) Q:=by
 obtain⟨x1,x2⟩:=r.ev hm
 have hv:∃ya cap,a.eval x=.slice ya len cap:=by
  rw[he] at x1
  rcases hz with⟨n,sz,lo,e1,hs⟩|⟨sz,xs,e1,rfl⟩|⟨sz,e1,rfl⟩
  ·subst e1
   have gI:jO (G.g n) sz lo len (a.eval x):=(x1.fS (by simp)).1 (Kv hs)
   rcases gI with⟨_,hv,_,rfl⟩|⟨_,a',hv,_,_⟩
   ·exact⟨_,_,hv⟩
   ·exact⟨_,_,hv⟩
  ·subst e1
   obtain⟨pc,p1,p2,_⟩:=x1.c
   cases pc with
   |int k n=>simp[PC.er] at p1
   |bool b=>simp[PC.er] at p1
   |list s' ya c py=>
    rw[PC.dR] at p1
    injection p1 with _ p1
    refine⟨ya,c,?_⟩
    rw[<-p2,<-p1];simp[PC.val]
  ·subst e1
   have eS:a.eval x=.slice none 0 0:=(x1.fS (by simp)).1
   exact⟨_,_,eS⟩
 obtain⟨ya,cap,hv⟩:=hv
 have gG:c≠ .bq:=by
  rintro rfl
  rcases hz with⟨n,sz,lo,e1,hs⟩|⟨sz,xs,e1,rfl⟩|⟨sz,e1,rfl⟩<;>cases e1
 unfold Oper.wp
 have bY:(execOp a.eval o).run P w=.ok (.enter f #[.slice ya len cap]) w:=by
  have h0:(execOp a.eval o).run P w=.ok (.enter f #[a.eval x]) w:=by simp[execOp,ho,resolve,Deferred.ofValue,invoke,Act.eval,Al hf]
  rw[h0,hv]
 rw[bY]
 refine(aq8 fo w).mono fun e w' ⟨p2,p5⟩=>?_
 subst p2
 have iv:∀b,b<w.heap.size->w'.heap[b]? =w.heap[b]? :=fun b hb=>p5.block b hb id
 have r2:R B E w0 N σ a w' G:=r.step rfl (fun _ h=>h) (bf.world (fun b hb=>iv b (r.hr.gi b hb)) _) (r.hr.grow iv p5.size) (r.fr.call p5)
 obtain⟨y1,y2⟩:=r2.ev hm
 rw[he] at y1 y2
 obtain⟨q1,q2⟩:=y1.fS gG
 rw[hv] at q1 q2
 have i1:∀n:Int,RC w' G σ.h (.c (.int .i64 n)) (.int .i64 n):=fun n=>(RA.of_int (w:=w') (G:=G) (h:=σ.h) .i64 n).fS (by simp)|>.1
 refine⟨G,r2.put (x:=.agg (lV bQ len c)) ⟨fM bQ len (.slice ya len cap),rfl,?_⟩ ?_ hN⟩
 ·cases bQ
  ·refine⟨rfl,fun j c' u hj hu=>?_⟩
   match j,hj,hu with
   |0,hj,hu=>simp[lV] at hj;simp[fM] at hu;subst hj hu;exact⟨rfl,i1 1⟩
   |1,hj,hu=>simp[lV] at hj;simp[fM] at hu;subst hj hu;exact⟨rfl,i1 len⟩
   |2,hj,hu=>simp[lV] at hj;simp[fM] at hu;subst hj hu;exact⟨q2,q1⟩
   |j+3,hj,hu=>simp[lV] at hj
  ·refine⟨rfl,fun j c' u hj hu=>?_⟩
   match j,hj,hu with
   |0,hj,hu=>simp[lV] at hj;simp[fM] at hu;subst hj hu;exact⟨rfl,i1 len⟩
   |1,hj,hu=>simp[lV] at hj;simp[fM] at hu;subst hj hu;exact⟨rfl,i1 1⟩
   |2,hj,hu=>simp[lV] at hj;simp[fM] at hu;subst hj hu;exact⟨q2,q1⟩
   |j+3,hj,hu=>simp[lV] at hj
 ·intro m hm
  obtain⟨c',cA,hm⟩:=hm
  have:c'=c\/∃n,c'=.c (.int .i64 n):=by
   cases bQ<;>simp[lV] at cA<;>rcases cA with h|h|h
   ·exact .inr ⟨_,h⟩
   ·exact .inr ⟨_,h⟩
   ·exact .inl h
   ·exact .inr ⟨_,h⟩
   ·exact .inr ⟨_,h⟩
   ·exact .inl h
  rcases this with rfl|⟨n,rfl⟩
  ·exact y2 m hm
  ·exact absurd hm id
end
end Go.Am
