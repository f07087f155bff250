/- Am10: make, slice literals, loads. No condition. -/
import Derived.Test.YtifmggmhdcdgbaaAm9
set_option linter.unusedVariables false
namespace Go.Am
def Mw:Value->C->Bool
 |.int k n,.int k' n'=>decide (k=k')&&decide (n=n')
 |.bool b,.bool b'=>decide (b=b')
 |.slice none 0 0,.list sz []=>decide (0<sz)
 |_,_=>false
def ub:List Value->List C->Bool
 |[],[]=>true
 |v::vs,c::cs=>Mw v c&&ub vs cs
 |_,_=>false
def kT:C->PC
 |.int k n=>.int k n
 |.bool b=>.bool b
 |.list sz _=>.list sz none 0 []
theorem adB {w:World} {v:Value} {c:C} (h:Mw v c=true):(kT c).er=c/\(kT c).val=v/\Good w (kT c)/\∀b,¬aP b (kT c):=by
 unfold Mw at h
 split at h
 ·simp at h;obtain⟨rfl,rfl⟩:=h;exact⟨rfl,rfl,.int _ _,fun b hb=>by cases hb⟩
 ·simp at h;subst h;exact⟨rfl,rfl,.bool _,fun b hb=>by cases hb⟩
 ·simp at h
  refine⟨by simp[kT,PC.dz],rfl,.nil _ _ _ h,fun b hb=>?_⟩
  unfold kT at hb
  rw[aP.ka] at hb
  rcases hb with⟨hb,_⟩|⟨k,j,c,⟨e,he,_⟩,_⟩
  ·exact absurd rfl hb
  ·simp at he
 ·cases h
theorem Mx {w:World}:∀{vs:List Value} {cs:List C},ub vs cs=true->(cs.map kT).map PC.er=cs/\(cs.map kT).map PC.val=vs/\∀pc∈cs.map kT,Good w pc/\∀b,¬aP b pc
 |[],[],_=>⟨rfl,rfl,by simp⟩
 |v::vs,c::cs,h=>by
  simp only[ub,Bool.and_eq_true] at h
  obtain⟨a1,a2,a3,a4⟩:=adB (w:=w) h.1
  obtain⟨b1,b2,b3⟩:=Mx (w:=w) h.2
  refine⟨by simp only[List.map_cons,a1,b1],by simp only[List.map_cons,a2,b2],fun pc aZ=>?_⟩
  simp only[List.map_cons,List.mem_cons] at aZ
  rcases aZ with rfl|aZ
  ·exact⟨a3,a4⟩
  ·exact b3 pc aZ
 |[],_::_,h=>by simp[ub] at h
 |_::_,[],h=>by simp[ub] at h
theorem Hw {α:Type} {n k j:Nat} {e:List α} {c:α} (h:At (List.replicate n e) k j c):k<n/\e[j]? =some c:=by
 obtain⟨e',he,hj⟩:=h
 rw[List.getElem?_replicate] at he
 split at he
 ·rename_i hk
  injection he with he
  subst he
  exact⟨hk,hj⟩
 ·cases he
section
variable {B:Nat} {E:Ex} {w0 w w':World} {G G':Gh} {h h':Nat->Option ar} {used used':Nat->Bool} {tk:List PC} {N:Nat}
variable {P:Program} {o:Oper} {a:Act} {σ σ':St} {Q:Exit->Act->World->Prop}
theorem RA.int {x:aj} {n:Int} {v:Value} (hx:x.cY=some n) (hv:RA w G h x v):∃k,v=.int k n:=by
 unfold aj.cY at hx
 split at hx
 ·rename_i k n'
  injection hx with hx
  subst hx
  rcases hv with hv|hv
  ·cases hv
  ·have fH:cA w G h [.c (.int k n')] [v]:=hv
   obtain⟨pc,h1,h2,_⟩:=(fH.2 0 _ v rfl rfl).2
   cases pc<;>simp[PC.er] at h1
   obtain⟨rfl,rfl⟩:=h1
   exact⟨_,h2.symm⟩
 ·cases hx
theorem aen (r:R B E w0 N σ a w G) {n:Nat} {t e:TypeId} {i:TypeInfo} {z:Value} {zs:List C} {x y:Operand} {mx my:MO} {m:Mode} {sz by_:Nat} {q q':Int} {σ1:St}
  (ho:o.op=.makeSlice t x y) (hd:o.dst=some n) (hN:n<N) (iV:bw x mx=true) (iv:bw y my=true)
  (ht:P.underlying t=some (.slice e)) (hi:P.info? e=some i) (hz:i.zero=some z) (bD:i.size=sz) (pK:i.bytes=by_) (yB:0<by_) (iZ:0<sz) (hc:ub z.cells.toList zs=true)
  (hq:(σ.ev mx).cY=some q) (dQ:(σ.ev my).cY=some q') (dm:q<=q') (lx:0<=q) (hb:q'.toNat*by_<=dK) (hlen:zs.length=sz)
  (hx:σ.ins n (.row true m sz (List.replicate q.toNat zs))=some σ1):
  o.wp P a w (Nx B E w0 N (σ1.put o.dst (.one (.sl n sz 0 q.toNat)))) Q:=by
 obtain⟨hn,rfl⟩:=mg hx
 obtain⟨k1,e1⟩:=(r.ev iV).1.int hq
 obtain⟨k2,e2⟩:=(r.ev iv).1.int dQ
 have hqq:q.toNat<=q'.toNat:=by omega
 obtain⟨b1,b2,b3⟩:=Mx (w:=w) hc
 have ao2:q'.toNat<=dK:=Nat.le_trans (Nat.le_mul_of_pos_right _ yB) hb
 have agG:z.cells.size=sz:=by
  have:((zs.map kT).map PC.val).length=z.cells.toList.length:=by rw[b2]
  simp at this
  omega
 have bq:=run_make (P:=P) w t e i z ht hi hz k1 k2 q q' lx dm (by
  rw[pK]
  have h1:((q'.toNat*by_:Nat):Int)<=((dK:Nat):Int):=by exact_mod_cast hb
  rw[Int.natCast_mul,Int.toNat_of_nonneg (by omega:0<=q')] at h1
  rw[Int.mul_comm]
  have h2:((dK:Nat):Int)=140737488355328:=rfl
  omega) (by
  have h2:(dK:Nat)=140737488355328:=rfl
  omega)
 have agv:(execOp a.eval o).run P w=.ok (.value (.slice (some (ad w.heap.size 0)) q.toNat q'.toNat)) (w.alloc (.cells (madeCells z.cells (q'.toNat*sz)) e)):=by
  simp only[execOp,ho,e1,e2]
  rw[bD] at bq
  simp[bq,ad]
 have agl:(List.replicate q.toNat (zs.map kT)).map (fun e=>e.map PC.er)=List.replicate q.toNat zs:=by
  rw[List.map_replicate,b1]
 have cb:∀b,¬aS b (List.replicate q.toNat (zs.map kT)):=by
  rintro b ⟨k,j,c,hk,hb⟩
  exact(b3 c (List.mem_of_getElem? (Hw hk).2)).2 b hb
 have hg:∀k j c,At (List.replicate q.toNat (zs.map kT)) k j c->Good w c/\∀b,aP b c->G.Im b:=fun k j c hk=>
  ⟨(b3 c (List.mem_of_getElem? (Hw hk).2)).1,fun b hb=>absurd hb ((b3 c (List.mem_of_getElem? (Hw hk).2)).2 b)⟩
 obtain⟨G',r',hv⟩:=r.newRow (σ1:=σ) (Im':=G.Im) (m:=m) (sz:=sz) (cap:=q'.toNat) (pes:=List.replicate q.toNat (zs.map kT)) (arr:=madeCells z.cells (q'.toNat*sz)) (e:=e) r.hr (aW.refl _ _ _ _) rfl rfl hn iZ
  (fun e he=>by rw[(List.mem_replicate.1 he).2];simpa using hlen) hg (fun k j c hk=>by
   obtain⟨h1,h2⟩:=Hw hk
   have hj:j<sz:=by have:=(List.getElem?_eq_some_iff.1 h2).1;simp at this;omega
   have af5:k*sz+j<q'.toNat*sz:=by
    have:(k+1)*sz<=q'.toNat*sz:=Nat.mul_le_mul_right _ (by omega)
    rw[Nat.add_mul] at this
    omega
   have age:(k*sz+j)%sz=j:=by rw[Nat.mul_comm,Nat.mul_add_mod,Nat.mod_eq_of_lt hj]
   have gN:z.cells.toList[j]? =some c.val:=by rw[<-b2,List.getElem?_map,h2];rfl
   have afW:z.cells[j]? =some c.val:=by simpa using gN
   have hz3:(k*sz+j)%z.cells.size=j:=by rw[agG];exact age
   simp[madeCells,af5,hz3]
   rw[getElem!_def,afW]) (by simpa using hqq) (by
   have h2:(dK:Nat)=140737488355328:=rfl
   simp only[maxLen];omega) (size_madeCells _ _) (.inr (CU.EV cb (fun k j c hk=>(hg k j c hk).1)))
 rw[agl,List.length_replicate] at*
 refine nq agv ⟨G',r'.put hv (fun q hq=>by have dQ:q=n:=hq;subst dQ;exact bA _ _ _) (fun q hq=>by rw[hd] at hq;injection hq with hq;omega)⟩
theorem Xq (off:Nat):∀(vs:List Value) (k:Nat) (cs:Array Value),off+k+vs.length<=cs.size->
  ((vs.zipIdx k).foldl (fun(cs:Array Value) (p:Value×Nat)=>cs.setIfInBounds (off+p.2) p.1) cs)=(cs.toList.take (off+k)++vs++cs.toList.drop (off+k+vs.length)).toArray
 |[],k,cs,_=>by simp
 |v::vs,k,cs,h=>by
  simp only[List.zipIdx_cons,List.foldl_cons]
  have h':off+(k+1)+vs.length<=(cs.setIfInBounds (off+k) v).size:=by simp at h⊢;omega
  rw[Xq off vs (k+1) _ h']
  have e:=list_seg_step cs.toList (off+k) v vs (by simp at h⊢;omega)
  rw[List.length_cons,<-e]
  simp[Array.toList_setIfInBounds,Nat.add_assoc]
theorem Xr (off:Nat) (v:Value) (cs:Array Value) (h:off+v.cells.size<=cs.size):
  (v.cells.zipIdx.foldl (fun cs (c,j)=>cs.setIfInBounds (off+j) c) cs)=(bS cs.toList off v.cells.toList).toArray:=by
 have:=Xq off v.cells.toList 0 cs (by simpa using h)
 rw[<-Array.foldl_toList]
 simp only[Array.toList_zipIdx]
 simpa[bS] using this
theorem W9 (size:Nat):∀(vs:List Value) (i0:Nat) (cs:Array Value),(∀v∈vs,v.cells.size=size)->(i0+vs.length)*size<=cs.size->
  Instr.fill (fun i=>some (i*size,size)) cs ((vs.zipIdx i0).map fun p=>(p.2,p.1))=some (bS cs.toList (i0*size) (vs.flatMap fun v=>v.cells.toList)).toArray
 |[],i0,cs,_,_=>by simp[Instr.fill,bS]
 |v::vs,i0,cs,hv,hl=>by
  have h0:=hv v (by simp)
  have h1:i0*size+v.cells.size<=cs.size:=by
   have:(i0+1)*size<=(i0+(v::vs).length)*size:=Nat.mul_le_mul_right _ (by simp)
   rw[Nat.add_mul] at this
   omega
  simp only[List.zipIdx_cons,List.map_cons,Instr.fill]
  rw[if_neg (by simp;omega)]
  rw[Xr _ _ _ h1]
  have hlen:(bS cs.toList (i0*size) v.cells.toList).length=cs.size:=by simp[bS];omega
  rw[W9 size vs (i0+1) _ (fun v' fH=>hv v' (by simp[fH])) (by simp only[List.size_toArray,hlen];simp only[List.length_cons] at hl;rwa[show i0+1+vs.length=i0+(vs.length+1) by omega])]
  congr 2
  have pT:v.cells.toList.length=size:=by simpa using h0
  have e1:(i0+1)*size=i0*size+size:=by rw[Nat.add_mul];omega
  simp only[bS,List.flatMap_cons,List.length_append,pT]
  rw[e1]
  have ht:(List.take (i0*size) cs.toList).length=i0*size:=by simp;omega
  have t1:List.take (i0*size+size) (List.take (i0*size) cs.toList++v.cells.toList++List.drop (i0*size+size) cs.toList)=List.take (i0*size) cs.toList++v.cells.toList:=by
   apply List.take_left'
   simp[ht,pT]
  have d1:∀x,List.drop (i0*size+size+x) (List.take (i0*size) cs.toList++v.cells.toList++List.drop (i0*size+size) cs.toList)=List.drop (i0*size+(size+x)) cs.toList:=by
   intro x
   rw[List.drop_append,List.drop_eq_nil_of_le (by simp[ht,pT])]
   simp only[List.nil_append,List.drop_drop,List.length_append,ht,pT]
   congr 1
   omega
  rw[t1,d1]
  simp[List.append_assoc]
end
end Go.Am
