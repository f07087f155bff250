/- AmR: functions that lay a list into a structure as one row or one column, and fields of structures. No condition. -/
import Derived.Test.YtfkfmbhknekkdaaAmO
set_option linter.unusedVariables false
set_option linter.unusedSimpArgs false
namespace Go.Am
section
variable {B:Nat} {E:Ex} {w0 w w':World} {G G':Gh} {h h':Nat->Option ak} {used used':Nat->Bool} {tk:List PC} {N:Nat}
variable {P:Program} {o:Oper} {a:Act} {σ σ':St} {Q:Exit->Act->World->Prop}
def rv (tmps:Array Value):ResultVar->Sem Value
 |.tmp t=>pure (tmps.getD t undef)
 |.cell a t=>do loadVar t (<-asAddr (tmps.getD a undef))
def CE:List Value->Value
 |[u]=>u
 |l=>.tuple l.toArray
theorem Yc (fn:Func) (tmps:Array Value) {us:List Value} (h:(fn.results.toList.mapM (rv tmps)).run P w=.ok us w):
  (results fn tmps).run P w=.ok (CE us) w:=by
 unfold results
 generalize fn.results=A at h⊢
 obtain⟨l,rfl⟩:∃l:List ResultVar,A=l.toArray:=⟨A.toList,by simp⟩
 have h2:((l.toArray.mapM (rv tmps)).run P w)=.ok us.toArray w:=by
  rw[List.mapM_toArray]
  simp at h
  simp[h]
 show Sem.run P (l.toArray.mapM (rv tmps)>>=fun vs=>pure (if h:vs.size=1 then vs[0] else Value.tuple vs)) w=_
 generalize l.toArray.mapM (rv tmps)=s at h2⊢
 match us with
 |[]=>simp[CE,h2]
 |[u]=>simp[CE,h2]
 |u::v::us=>simp[CE,h2]
def I0 (P:Program) (s:TypeId) (f off:Nat) (ag:Bool) (sz:Nat):Bool:=
 match P.underlying s with
 |some (.struct lZ)=>match lZ[f]? with
  |some fd=>(fd.offset==off)&&nP P fd.type ag sz
  |none=>false
 |_=>false
theorem abF (r:R B E w0 N σ a w G) {s:TypeId} {f off sz:Nat} {ag:Bool} {x:Operand} {mx:MO} {cs l:List ae} (ho:o.op=.field s x f) (hN:∀n,o.dst=some n->n<N) (hx:bi x mx=true) (hc:I0 P s f off ag sz=true)
  (h1:σ.ev mx=.agg cs) (h2:sub cs off sz=some l):o.wp P a w (Nx B E w0 N (σ.put o.dst (jL ag l))) Q:=by
 obtain⟨x1,x2⟩:=r.ev hx
 rw[h1] at x1 x2
 obtain⟨vs,e,hl,hv⟩:=x1
 unfold sub at h2
 split at h2
 ·rename_i eU
  injection h2 with h2
  have qR:off+sz<=vs.length:=by rw[hl];exact eU
  have K7:cL w G σ.h l ((vs.drop off).take sz):=by
   subst h2
   refine⟨by simp[hl],fun j c u hj hu=>?_⟩
   rw[List.getElem?_take] at hj hu
   split at hj
   ·rename_i jC
    rw[if_pos jC] at hu
    rw[List.getElem?_drop] at hj hu
    exact hv _ c u hj hu
   ·cases hj
  have gE:∀c∈l,∀m,c.ref m->σ.used m=true:=by
   intro c hc m hm
   subst h2
   exact x2 m ⟨c,List.mem_of_mem_drop (List.mem_of_mem_take hc),hm⟩
  unfold I0 at hc
  split at hc
  ·rename_i lZ hu
   split at hc
   ·rename_i fd hf
    simp only[Bool.and_eq_true,beq_iff_eq] at hc
    obtain⟨c1,dh⟩:=hc
    subst c1
    unfold nP at dh
    cases sH:P.underlying fd.type with
    |none=>rw[sH] at dh;simp at dh
    |some d=>
     cases hi:P.info? fd.type with
     |none=>rw[sH,hi] at dh;cases d<;>simp at dh
     |some i=>
      rw[sH,hi] at dh
      have aW:(ag=true/\i.size=sz/\(isAgg fd.type).run P w=.ok true w)\/(ag=false/\sz=1/\(isAgg fd.type).run P w=.ok false w):=by
       cases d<;>simp at dh<;>simp[isAgg,run_underlying sH,dh]
      rcases aW with⟨rfl,e1,e2⟩|⟨rfl,e1,e2⟩
      ·refine fH r (v:=.agg ((vs.drop fd.offset).take sz).toArray) ?_ ⟨_,rfl,K7⟩ (fun m hm=>?_) hN
       ·have:(vs.toArray.extract fd.offset (fd.offset+sz))=((vs.drop fd.offset).take sz).toArray:=by simp
        simp[execOp,ho,e,Instr.field,run_underlying hu,hf,part,asAgg,e2,sizeOf,typeInfo,hi,e1]
       ·obtain⟨c,hc,hm⟩:=hm
        exact gE c hc m hm
      ·subst e1
       have hlen:l.length=1:=by subst h2;simp;omega
       obtain⟨c,rfl⟩:=List.length_eq_one_iff.1 hlen
       have bB:fd.offset<vs.length:=by omega
       have BR:(vs.drop fd.offset).take 1=[vs[fd.offset]]:=by
        rw[List.drop_eq_getElem_cons bB];rfl
       rw[BR] at K7
       refine fH r (v:=vs[fd.offset]) ?_ (.inr K7) (fun m hm=>gE c (by simp) m hm) hN
       simp[execOp,ho,e,Instr.field,run_underlying hu,hf,part,asAgg,e2,bB]
   ·cases hc
  ·cases hc
 ·cases h2
def eY (bw:Bool) (n:Int) (v:Value):List Value:=if bw=true then[.int .i64 n,.int .i64 1,v] else[.int .i64 1,.int .i64 n,v]
def I5 (bw:Bool):List (Nat×Operand)->Bool
 |[(i,x),(j,y),(k,z)]=>(i==0)&&(j==1)&&(k==2)&&(match z with|.tmp t=>t==5|_=>false)&&
  (match bw,x,y with
   |true,.tmp t,.const (.int .i64 n)=>(t==4)&&decide (n=1)
   |false,.const (.int .i64 n),.tmp t=>(t==4)&&decide (n=1)
   |_,_,_=>false)
 |_=>false
def I6 (P:Program) (t:TypeId):Bool:=
 match P.underlying t,P.info? t with
 |some (.struct lZ),some it=>match it.zero,lZ.toList.mapM (fun f=>(P.info? f.type).map fun i=>(f.offset,i.size)) with
  |some z,some places=>decide (places=[(0,1),(1,1),(2,1)])&&(z.cells.size==3)
  |_,_=>false
 |_,_=>false
def FY:Op->Bool
 |.move (.tmp 0)=>true
 |_=>false
def RP (P:Program) (bw:Bool):List Oper->List Oper->Bool
 |[o1],[o2,o3,o4,o5,o6]=>
  o1.guard.isNone&&o2.guard.isNone&&o3.guard.isNone&&o4.guard.isNone&&o5.guard.isNone&&o6.guard.isNone&&
  decide (o1.dst=some 2)&&decide (o2.dst=some 3)&&decide (o3.dst=some 4)&&decide (o4.dst=some 5)&&decide (o5.dst=some 6)&&decide (o6.dst=none)&&
  (match o1.op with|.alloc e=>(match P.info? e with|some i=>(match i.zero with|some z=>z.cells.size==3|none=>false)|none=>false)|_=>false)&&
  FY o2.op&&FY o4.op&&
  (match o3.op with
  |.call c=>(match c.callee,c.args.toList,c.argTypes.toList with
   |.builtin .len,[.tmp t],[ty]=>(t==3)&&(match P.underlying ty with|some (.slice _)=>true|_=>false)
   |_,_,_=>false)
  |_=>false)&&
  (match o5.op with|.build t parts=>I6 P t&&I5 bw parts.toList|_=>false)&&
  (match o6.op with|.store t (.tmp i) (.tmp j)=>(i==2)&&(j==6)&&(match P.info? t with|some i=>i.size==3|none=>false)|_=>false)
 |_,_=>false
def Ey (P:Program) (f:FuncId) (bw:Bool):Bool:=
 match P.funcs[f]? with
 |some fn=>(fn.ntmps==7)&&(match fn.results.toList with|[.cell i t]=>(i==2)&&nP P t true 3|_=>false)&&
  (match fn.body with
  |some (.seq (.region _ r1 false) (.seq (.region _ r2 false) .ret))=>RP P bw r1.toList r2.toList
  |_=>false)
 |none=>false
theorem As {ops:Array Oper} {o:Oper} {l:List Oper} (hg:o.guard.isNone=true) (h:o.wp P a w (wpList P ops Q l) Q):wpList P ops Q (o::l) a w:=by
 unfold wpList
 have hg':o.guard=none:=by simpa using hg
 rw[if_pos (by simp[Region.wanted,hg'])]
 exact .inl h
theorem ajU {t:TypeId} {bw:Bool} {parts:List (Nat×Operand)} (h1:I6 P t=true) (h2:I5 bw parts=true) {ev:Operand->Value} {n:Int} {ya:Option Addr} {len cap:Nat} (h4:ev (.tmp 4)=.int .i64 n) (h5:ev (.tmp 5)=.slice ya len cap)
  (hk:∀v,ev (.const v)=v):P.built t (parts.map fun p=>(p.1,ev p.2))=some (eY bw n (.slice ya len cap)).toArray:=by
 unfold I6 at h1
 split at h1
 ·rename_i lZ it hu hi
  split at h1
  ·rename_i z places hz hp
   simp only[Bool.and_eq_true,decide_eq_true_eq,beq_iff_eq] at h1
   obtain⟨rfl,bo⟩:=h1
   unfold I5 at h2
   split at h2
   ·rename_i i x j y k q
    simp only[Bool.and_eq_true,beq_iff_eq] at h2
    obtain⟨⟨⟨⟨rfl,rfl⟩,rfl⟩,hq⟩,jf⟩:=h2
    have dB:q=.tmp 5:=by
     cases q<;>simp at hq
     subst hq;rfl
    subst dB
    have adA:(bw=true/\x=.tmp 4/\y=.const (.int .i64 1))\/(bw=false/\x=.const (.int .i64 1)/\y=.tmp 4):=by
     split at jf
     ·rename_i t n;simp only[Bool.and_eq_true,beq_iff_eq,decide_eq_true_eq] at jf;obtain⟨rfl,rfl⟩:=jf;exact .inl ⟨rfl,rfl,rfl⟩
     ·rename_i n t;simp only[Bool.and_eq_true,beq_iff_eq,decide_eq_true_eq] at jf;obtain⟨rfl,rfl⟩:=jf;exact .inr ⟨rfl,rfl,rfl⟩
     ·cases jf
    unfold Program.built
    simp only[hi,hu,hz,hp]
    obtain⟨c0,c1,c2,hc⟩:∃c0 c1 c2,z.cells=#[c0,c1,c2]:=by
     match UG:z.cells,bo with
     |⟨[c0,c1,c2]⟩,_=>exact⟨c0,c1,c2,rfl⟩
    rw[hc]
    rcases adA with⟨rfl,rfl,rfl⟩|⟨rfl,rfl,rfl⟩
    ·simp[Instr.fill,h4,h5,hk,Value.cells,eY]
    ·simp[Instr.fill,h4,h5,hk,Value.cells,eY]
   ·cases h2
  ·cases h1
 ·cases h1
theorem ajW {f:FuncId} {bw:Bool} (hc:Ey P f bw=true) {ya:Option Addr} {len cap:Nat} (w:World):
  Calls P f #[.slice ya len cap] w fun e w'=>e=.returned (.agg (eY bw len (.slice ya len cap)).toArray)/\Fr w.heap.size Ex.no w w':=by
 unfold Ey at hc
 split at hc
 ·rename_i fn hf
  simp only[Bool.and_eq_true,beq_iff_eq] at hc
  obtain⟨⟨hn,wB⟩,v9⟩:=hc
  split at v9
  ·rename_i id1 r1 id2 r2 hb
   refine calls_of_wp hf hb ?_
   unfold RP at v9
   split at v9
   ·rename_i o1 o2 o3 o4 o5 o6 hr1 BS
    simp only[Bool.and_eq_true,decide_eq_true_eq] at v9
    obtain⟨⟨⟨⟨⟨⟨⟨⟨⟨⟨⟨⟨⟨⟨⟨⟨⟨g1,g2⟩,g3⟩,g4⟩,g5⟩,g6⟩,d1⟩,d2⟩,d3⟩,d4⟩,d5⟩,d6⟩,k1⟩,k2⟩,k4⟩,k3⟩,k5⟩,k6⟩:=v9
    have Fe:({tmps:=#[Value.slice ya len cap]++Array.replicate (fn.ntmps - (#[Value.slice ya len cap]:Array Value).size) undef,defers:=[]}:Act)={tmps:=#[.slice ya len cap,undef,undef,undef,undef,undef,undef],defers:=[]}:=by
     rw[hn];rfl
    rw[Fe]
    refine wp_seq (wp_region_list ?_)
    rw[hr1]
    refine As g1 ?_
    split at k1
    ·rename_i e pH
     split at k1
     ·rename_i i hi
      split at k1
      ·rename_i z hz
       have pP:z.cells.size=3:=by simpa using k1
       refine lR (v:=.pointer (some (ad w.heap.size 0))) (w':=w.alloc (.cells z.cells e)) (by simp[execOp,pH,Instr.alloc,zeroValue,typeInfo,hi,hz,newVar,newRow,ad]) ?_
       rw[d1]
       show(Code.seq (.region id2 r2 false) .ret).wp P _ _ _
       refine wp_seq (wp_region_list ?_)
       rw[BS]
       refine As g2 ?_
       have n9:o2.op=.move (.tmp 0):=by
        unfold FY at k2
        split at k2
        ·assumption
        ·cases k2
       have ho4:o4.op=.move (.tmp 0):=by
        unfold FY at k4
        split at k4
        ·assumption
        ·cases k4
       refine lR (v:=.slice ya len cap) (w':=w.alloc (.cells z.cells e)) (by simp[execOp,n9,Act.eval,Act.put]) ?_
       rw[d2]
       refine As g3 ?_
       split at k3
       ·rename_i c pI
        split at k3
        ·rename_i t ty TS pC Uu
         simp only[Bool.and_eq_true,beq_iff_eq] at k3
         obtain⟨rfl,Ut⟩:=k3
         split at Ut
         ·rename_i el hu
          obtain⟨cal,args,Rh⟩:=c
          simp only at TS pC Uu
          have ea:args=#[.tmp 3]:=by apply Array.ext';simpa using pC
          have et:Rh=#[ty]:=by apply Array.ext';simpa using Uu
          subst TS ea et
          refine lR (v:=.int .i64 len) (w':=w.alloc (.cells z.cells e)) (by simp[execOp,pI,resolve,invoke,builtin,Act.eval,Act.put,Builtin.len_,run_underlying hu,goInt]) ?_
          rw[d3]
          refine As g4 ?_
          refine lR (v:=.slice ya len cap) (w':=w.alloc (.cells z.cells e)) (by simp[execOp,ho4,Act.eval,Act.put]) ?_
          rw[d4]
          refine As g5 ?_
          split at k5
          ·rename_i t5 parts ho5
           simp only[Bool.and_eq_true] at k5
           generalize yH:(Act.put (Act.put (Act.put (Act.put {tmps:=#[Value.slice ya len cap,undef,undef,undef,undef,undef,undef],defers:=[]} (some 2) (.pointer (some (ad w.heap.size 0)))) (some 3) (.slice ya len cap)) (some 4) (.int .i64 len)) (some 5) (.slice ya len cap))=eo
           have lv:=ajU (ev:=eo.eval) (n:=len) (ya:=ya) (len:=len) (cap:=cap) k5.1 k5.2 (by rw[<-yH];simp[Act.eval,Act.put]) (by rw[<-yH];simp[Act.eval,Act.put]) (fun v=>rfl)
           refine lR (v:=.agg (eY bw len (.slice ya len cap)).toArray) (w':=w.alloc (.cells z.cells e)) ?_ ?_
           ·have bH:=run_build (P:=P) (w.alloc (.cells z.cells e)) t5 (parts.map fun p=>(p.1,eo.eval p.2)) _ (by rw[Array.toList_map];exact lv)
            simp only[execOp,ho5]
            simp[bH]
           ·rw[d5]
            refine As g6 ?_
            split at k6
            ·rename_i t6 i6 j6 ho6
             simp only[Bool.and_eq_true,beq_iff_eq] at k6
             obtain⟨⟨rfl,rfl⟩,k6⟩:=k6
             split at k6
             ·rename_i i7 hi7
              have hs7:i7.size=3:=by simpa using k6
              have iy:(eY bw len (.slice ya len cap)).length=3:=by cases bw<;>rfl
              have hg:(w.alloc (.cells z.cells e)).heap[w.heap.size]? =some (.cells z.cells e (0,0)):=by
               show(w.heap.push _)[w.heap.size]? =_
               simp
              have lE:=GN (P:=P) (w:=w.alloc (.cells z.cells e)) (t:=t6) (i:=i7) (b:=w.heap.size) (off:=0) (v:=.agg (eY bw len (.slice ya len cap)).toArray) (cur:=z.cells) (e:=e) hi7
               (by rw[hs7];exact iy) hg (by show 0+(eY bw len (.slice ya len cap)).length<=z.cells.size;rw[iy,pP];omega) (fun u hu=>by
                simp only[Value.cells] at hu
                cases bw<;>simp[eY] at hu<;>rcases hu with rfl|rfl|rfl<;>rfl)
              have e2:(eo.put (some 6) (.agg (eY bw len (.slice ya len cap)).toArray)).eval (.tmp 2)=.pointer (some (ad w.heap.size 0)):=by rw[<-yH];simp[Act.eval,Act.put]
              have e6:(eo.put (some 6) (.agg (eY bw len (.slice ya len cap)).toArray)).eval (.tmp 6)=.agg (eY bw len (.slice ya len cap)).toArray:=by rw[<-yH];simp[Act.eval,Act.put]
              refine HN (w':=dY (w.alloc (.cells z.cells e)) w.heap.size 0 (Value.cells (.agg (eY bw len (.slice ya len cap)).toArray)).toList z.cells) ?_ ?_
              ·simp only[execOp,ho6,e2,e6]
               simp[Instr.storeAt,Instr.sureAddr,lE]
              ·rw[d6]
               show Code.ret.wp P _ _ _
               refine wp_ret ?_
               have et2:((eo.put (some 6) (.agg (eY bw len (.slice ya len cap)).toArray)).put none undef).tmps.getD 2 undef=.pointer (some (ad w.heap.size 0)):=by rw[<-yH];simp[Act.put]
               refine⟨by rw[<-yH];simp[Act.put],.agg (eY bw len (.slice ya len cap)).toArray,?_,rfl,?_⟩
               ·split at wB
                ·rename_i ri rt hrl
                 simp only[Bool.and_eq_true,beq_iff_eq] at wB
                 obtain⟨rfl,dh⟩:=wB
                 have pM:=Yc (P:=P) (w:=dY (w.alloc (.cells z.cells e)) w.heap.size 0 (Value.cells (.agg (eY bw len (.slice ya len cap)).toArray)).toList z.cells) fn ((eo.put (some 6) (.agg (eY bw len (.slice ya len cap)).toArray)).put none undef).tmps (us:=[.agg (eY bw len (.slice ya len cap)).toArray]) ?_
                 ·exact pM
                 ·rw[hrl]
                  have BM:∀n:Nat,n=3->(loadCells (ad w.heap.size 0) n).run P (dY (w.alloc (.cells z.cells e)) w.heap.size 0 (Value.cells (.agg (eY bw len (.slice ya len cap)).toArray)).toList z.cells)=.ok (eY bw len (.slice ya len cap)).toArray (dY (w.alloc (.cells z.cells e)) w.heap.size 0 (Value.cells (.agg (eY bw len (.slice ya len cap)).toArray)).toList z.cells):=by
                   intro n hn
                   subst hn
                   rw[<-iy]
                   refine run_loadCells_list _ (ad w.heap.size 0) _ (fun j u hj=>?_)
                   rw[lV,Nat.zero_add,Ap hg (by show 0+(eY bw len (.slice ya len cap)).length<=z.cells.size;rw[iy,pP];omega)]
                   have hj3:=(List.getElem?_eq_some_iff.1 hj).1
                   rw[if_pos ⟨Nat.zero_le _,by simpa[Value.cells] using hj3⟩]
                   simpa[Value.cells] using hj
                  unfold nP at dh
                  cases sH:P.underlying rt with
                  |none=>rw[sH] at dh;simp at dh
                  |some d=>
                   cases KK:P.info? rt with
                   |none=>rw[sH,KK] at dh;cases d<;>simp at dh
                   |some i2=>
                    rw[sH,KK] at dh
                    have aW:i2.size=3/\(isAgg rt).run P (dY (w.alloc (.cells z.cells e)) w.heap.size 0 (Value.cells (.agg (eY bw len (.slice ya len cap)).toArray)).toList z.cells)=.ok true (dY (w.alloc (.cells z.cells e)) w.heap.size 0 (Value.cells (.agg (eY bw len (.slice ya len cap)).toArray)).toList z.cells):=by
                     cases d<;>simp at dh<;>simp[isAgg,run_underlying sH,dh]
                    simp[rv,et2,loadVar,asAddr,aW.2,sizeOf,typeInfo,KK,BM i2.size aW.1]
                ·cases wB
               ·have f1:=(Fr.refl w.heap.size Ex.no w (Nat.le_refl _)).grow (w':=w.alloc (.cells z.cells e)) (fun b hb=>IF w _ b hb) (by simp) rfl rfl rfl
                exact f1.one (b0:=w.heap.size) (.inl (Nat.le_refl _)) (fun b _ hb=>xw b hb) (by rw[oU];exact Nat.le_refl _) (Aq hg (by show 0+(eY bw len (.slice ya len cap)).length<=z.cells.size;rw[iy,pP];omega)) rfl rfl rfl
             ·cases k6
            ·cases k6
          ·cases k5
         ·cases Ut
        ·cases k3
       ·cases k3
      ·cases k1
     ·cases k1
    ·cases k1
   ·cases v9
  ·cases v9
 ·cases hc
theorem Jr (r:R B E w0 N σ a w G) {f:FuncId} {bw:Bool} {x:Operand} {mx:MO} {ts:Array TypeId} {c:ae} {len:Nat} (hN:∀n,o.dst=some n->n<N)
  (ho:o.op=.call {callee:=.value (.func f),args:=#[x],argTypes:=ts}) (hf:ca P f=true) (d9:Ey P f bw=true) (hm:bi x mx=true) (he:σ.ev mx=.one c)
  (hz:(∃n sz lo,c=.sl n sz lo len/\(σ.h n).isSome=true)\/(∃sz xs,c=.c (.list sz xs)/\len=xs.length)\/(∃sz,c=.nil sz/\len=0)):
  o.wp P a w (Nx B E w0 N (σ.put o.dst (.agg (jJ bw len c)))) Q:=by
 obtain⟨x1,x2⟩:=r.ev hm
 have hv:∃ya cap,a.eval x=.slice ya len cap:=by
  rw[he] at x1
  rcases hz with⟨n,sz,lo,e1,hs⟩|⟨sz,xs,e1,rfl⟩|⟨sz,e1,rfl⟩
  ·subst e1
   have fQ:gy (G.g n) sz lo len (a.eval x):=(x1.eB (by simp)).1 (FZ hs)
   rcases fQ with⟨_,hv,_,rfl⟩|⟨_,a',hv,_,_⟩
   ·exact⟨_,_,hv⟩
   ·exact⟨_,_,hv⟩
  ·subst e1
   obtain⟨pc,p1,p2,_⟩:=x1.c
   cases pc with
   |int k n=>simp[PC.er] at p1
   |bool b=>simp[PC.er] at p1
   |list s' ya c py=>
    rw[PC.du] at p1
    injection p1 with _ p1
    refine⟨ya,c,?_⟩
    rw[<-p2,<-p1];simp[PC.val]
  ·subst e1
   have eO:a.eval x=.slice none 0 0:=(x1.eB (by simp)).1
   exact⟨_,_,eO⟩
 obtain⟨ya,cap,hv⟩:=hv
 have eE:c≠ .bg:=by
  rintro rfl
  rcases hz with⟨n,sz,lo,e1,hs⟩|⟨sz,xs,e1,rfl⟩|⟨sz,e1,rfl⟩<;>cases e1
 unfold Oper.wp
 have bH:(execOp a.eval o).run P w=.ok (.enter f #[.slice ya len cap]) w:=by
  have h0:(execOp a.eval o).run P w=.ok (.enter f #[a.eval x]) w:=by simp[execOp,ho,resolve,Deferred.ofValue,invoke,Act.eval,s7 hf]
  rw[h0,hv]
 rw[bH]
 refine(ajW d9 w).mono fun e w' ⟨p2,p5⟩=>?_
 subst p2
 have gh:∀b,b<w.heap.size->w'.heap[b]? =w.heap[b]? :=fun b hb=>p5.block b hb id
 have r2:R B E w0 N σ a w' G:=r.step rfl (fun _ h=>h) (aQ.world (fun b hb=>gh b (r.hr.fv b hb)) _) (r.hr.grow gh p5.size) (r.fr.call p5)
 obtain⟨y1,y2⟩:=r2.ev hm
 rw[he] at y1 y2
 obtain⟨q1,q2⟩:=y1.eB eE
 rw[hv] at q1 q2
 have i1:∀n:Int,RC w' G σ.h (.c (.int .i64 n)) (.int .i64 n):=fun n=>(RA.of_int (w:=w') (G:=G) (h:=σ.h) .i64 n).eB (by simp)|>.1
 refine⟨G,r2.put (x:=.agg (jJ bw len c)) ⟨eY bw len (.slice ya len cap),rfl,?_⟩ ?_ hN⟩
 ·cases bw
  ·refine⟨rfl,fun j c' u hj hu=>?_⟩
   match j,hj,hu with
   |0,hj,hu=>simp[jJ] at hj;simp[eY] at hu;subst hj hu;exact⟨rfl,i1 1⟩
   |1,hj,hu=>simp[jJ] at hj;simp[eY] at hu;subst hj hu;exact⟨rfl,i1 len⟩
   |2,hj,hu=>simp[jJ] at hj;simp[eY] at hu;subst hj hu;exact⟨q2,q1⟩
   |j+3,hj,hu=>simp[jJ] at hj
  ·refine⟨rfl,fun j c' u hj hu=>?_⟩
   match j,hj,hu with
   |0,hj,hu=>simp[jJ] at hj;simp[eY] at hu;subst hj hu;exact⟨rfl,i1 len⟩
   |1,hj,hu=>simp[jJ] at hj;simp[eY] at hu;subst hj hu;exact⟨rfl,i1 1⟩
   |2,hj,hu=>simp[jJ] at hj;simp[eY] at hu;subst hj hu;exact⟨q2,q1⟩
   |j+3,hj,hu=>simp[jJ] at hj
 ·intro m hm
  obtain⟨c',cN,hm⟩:=hm
  have:c'=c\/∃n,c'=.c (.int .i64 n):=by
   cases bw<;>simp[jJ] at cN<;>rcases cN with h|h|h
   ·exact .inr ⟨_,h⟩
   ·exact .inr ⟨_,h⟩
   ·exact .inl h
   ·exact .inr ⟨_,h⟩
   ·exact .inr ⟨_,h⟩
   ·exact .inl h
  rcases this with rfl|⟨n,rfl⟩
  ·exact y2 m hm
  ·exact absurd hm id
end
end Go.Am
