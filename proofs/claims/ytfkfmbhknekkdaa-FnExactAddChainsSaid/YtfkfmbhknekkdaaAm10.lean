/- Am10: make, slice literals, loads. No condition. -/
import Derived.Test.YtfkfmbhknekkdaaAm9
set_option linter.unusedVariables false
namespace Go.Am
def I7:Value->C->Bool
 |.int k n,.int k' n'=>decide (k=k')&&decide (n=n')
 |.bool b,.bool b'=>decide (b=b')
 |.slice none 0 0,.list sz []=>decide (0<sz)
 |_,_=>false
def r6:List Value->List C->Bool
 |[],[]=>true
 |v::vs,c::cs=>I7 v c&&r6 vs cs
 |_,_=>false
def jO:C->PC
 |.int k n=>.int k n
 |.bool b=>.bool b
 |.list sz _=>.list sz none 0 []
theorem aaD {w:World} {v:Value} {c:C} (h:I7 v c=true):(jO c).er=c/\(jO c).val=v/\Good w (jO c)/\∀b,¬aM b (jO c):=by
 unfold I7 at h
 split at h
 ·simp at h;obtain⟨rfl,rfl⟩:=h;exact⟨rfl,rfl,.int _ _,fun b hb=>by cases hb⟩
 ·simp at h;subst h;exact⟨rfl,rfl,.bool _,fun b hb=>by cases hb⟩
 ·simp at h
  refine⟨by simp[jO,PC.du],rfl,.nil _ _ _ h,fun b hb=>?_⟩
  unfold jO at hb
  rw[aM.jk] at hb
  rcases hb with⟨hb,_⟩|⟨k,j,c,⟨e,he,_⟩,_⟩
  ·exact absurd rfl hb
  ·simp at he
 ·cases h
theorem I8 {w:World}:∀{vs:List Value} {cs:List C},r6 vs cs=true->(cs.map jO).map PC.er=cs/\(cs.map jO).map PC.val=vs/\∀pc∈cs.map jO,Good w pc/\∀b,¬aM b pc
 |[],[],_=>⟨rfl,rfl,by simp⟩
 |v::vs,c::cs,h=>by
  simp only[r6,Bool.and_eq_true] at h
  obtain⟨a1,a2,a3,a4⟩:=aaD (w:=w) h.1
  obtain⟨b1,b2,b3⟩:=I8 (w:=w) h.2
  refine⟨by simp only[List.map_cons,a1,b1],by simp only[List.map_cons,a2,b2],fun pc bc=>?_⟩
  simp only[List.map_cons,List.mem_cons] at bc
  rcases bc with rfl|bc
  ·exact⟨a3,a4⟩
  ·exact b3 pc bc
 |[],_::_,h=>by simp[r6] at h
 |_::_,[],h=>by simp[r6] at h
theorem Ef {α:Type} {n k j:Nat} {e:List α} {c:α} (h:At (List.replicate n e) k j c):k<n/\e[j]? =some c:=by
 obtain⟨e',he,hj⟩:=h
 rw[List.getElem?_replicate] at he
 split at he
 ·rename_i hk
  injection he with he
  subst he
  exact⟨hk,hj⟩
 ·cases he
section
variable {B:Nat} {E:Ex} {w0 w w':World} {G G':Gh} {h h':Nat->Option ak} {used used':Nat->Bool} {tk:List PC} {N:Nat}
variable {P:Program} {o:Oper} {a:Act} {σ σ':St} {Q:Exit->Act->World->Prop}
theorem RA.int {x:ai} {n:Int} {v:Value} (hx:x.cZ=some n) (hv:RA w G h x v):∃k,v=.int k n:=by
 unfold ai.cZ at hx
 split at hx
 ·rename_i k n'
  injection hx with hx
  subst hx
  rcases hv with hv|hv
  ·cases hv
  ·have eO:cL w G h [.c (.int k n')] [v]:=hv
   obtain⟨pc,h1,h2,_⟩:=(eO.2 0 _ v rfl rfl).2
   cases pc<;>simp[PC.er] at h1
   obtain⟨rfl,rfl⟩:=h1
   exact⟨_,h2.symm⟩
 ·cases hx
theorem abJ (r:R B E w0 N σ a w G) {n:Nat} {t e:TypeId} {i:TypeInfo} {z:Value} {zs:List C} {x y:Operand} {mx my:MO} {m:Mode} {sz by_:Nat} {q q':Int} {σ1:St}
  (ho:o.op=.makeSlice t x y) (hd:o.dst=some n) (hN:n<N) (iz:bi x mx=true) (iK:bi y my=true)
  (ht:P.underlying t=some (.slice e)) (hi:P.info? e=some i) (hz:i.zero=some z) (bo:i.size=sz) (ma:i.bytes=by_) (wa:0<by_) (ic:0<sz) (hc:r6 z.cells.toList zs=true)
  (hq:(σ.ev mx).cZ=some q) (dB:(σ.ev my).cZ=some q') (dM:q<=q') (lD:0<=q) (hb:q'.toNat*by_<=fL) (hlen:zs.length=sz)
  (hx:σ.ins n (.row true m sz (List.replicate q.toNat zs))=some σ1):
  o.wp P a w (Nx B E w0 N (σ1.put o.dst (.one (.sl n sz 0 q.toNat)))) Q:=by
 obtain⟨hn,rfl⟩:=j8 hx
 obtain⟨k1,e1⟩:=(r.ev iz).1.int hq
 obtain⟨k2,e2⟩:=(r.ev iK).1.int dB
 have hqq:q.toNat<=q'.toNat:=by omega
 obtain⟨b1,b2,b3⟩:=I8 (w:=w) hc
 have alO:q'.toNat<=fL:=Nat.le_trans (Nat.le_mul_of_pos_right _ wa) hb
 have adB:z.cells.size=sz:=by
  have:((zs.map jO).map PC.val).length=z.cells.toList.length:=by rw[b2]
  simp at this
  omega
 have bH:=run_make (P:=P) w t e i z ht hi hz k1 k2 q q' lD dM (by
  rw[ma]
  have h1:((q'.toNat*by_:Nat):Int)<=((fL:Nat):Int):=by exact_mod_cast hb
  rw[Int.natCast_mul,Int.toNat_of_nonneg (by omega:0<=q')] at h1
  rw[Int.mul_comm]
  have h2:((fL:Nat):Int)=140737488355328:=rfl
  omega) (by
  have h2:(fL:Nat)=140737488355328:=rfl
  omega)
 have adq:(execOp a.eval o).run P w=.ok (.value (.slice (some (ad w.heap.size 0)) q.toNat q'.toNat)) (w.alloc (.cells (madeCells z.cells (q'.toNat*sz)) e)):=by
  simp only[execOp,ho,e1,e2]
  rw[bo] at bH
  simp[bH,ad]
 have adh:(List.replicate q.toNat (zs.map jO)).map (fun e=>e.map PC.er)=List.replicate q.toNat zs:=by
  rw[List.map_replicate,b1]
 have cq:∀b,¬aN b (List.replicate q.toNat (zs.map jO)):=by
  rintro b ⟨k,j,c,hk,hb⟩
  exact(b3 c (List.mem_of_getElem? (Ef hk).2)).2 b hb
 have hg:∀k j c,At (List.replicate q.toNat (zs.map jO)) k j c->Good w c/\∀b,aM b c->G.Im b:=fun k j c hk=>
  ⟨(b3 c (List.mem_of_getElem? (Ef hk).2)).1,fun b hb=>absurd hb ((b3 c (List.mem_of_getElem? (Ef hk).2)).2 b)⟩
 obtain⟨G',r',hv⟩:=r.newRow (σ1:=σ) (Im':=G.Im) (m:=m) (sz:=sz) (cap:=q'.toNat) (pes:=List.replicate q.toNat (zs.map jO)) (arr:=madeCells z.cells (q'.toNat*sz)) (e:=e) r.hr (aQ.refl _ _ _ _) rfl rfl hn ic
  (fun e he=>by rw[(List.mem_replicate.1 he).2];simpa using hlen) hg (fun k j c hk=>by
   obtain⟨h1,h2⟩:=Ef hk
   have hj:j<sz:=by have:=(List.getElem?_eq_some_iff.1 h2).1;simp at this;omega
   have ac0:k*sz+j<q'.toNat*sz:=by
    have:(k+1)*sz<=q'.toNat*sz:=Nat.mul_le_mul_right _ (by omega)
    rw[Nat.add_mul] at this
    omega
   have ac9:(k*sz+j)%sz=j:=by rw[Nat.mul_comm,Nat.mul_add_mod,Nat.mod_eq_of_lt hj]
   have fI:z.cells.toList[j]? =some c.val:=by rw[<-b2,List.getElem?_map,h2];rfl
   have acR:z.cells[j]? =some c.val:=by simpa using fI
   have hz3:(k*sz+j)%z.cells.size=j:=by rw[adB];exact ac9
   simp[madeCells,ac0,hz3]
   rw[getElem!_def,acR]) (by simpa using hqq) (by
   have h2:(fL:Nat)=140737488355328:=rfl
   simp only[maxLen];omega) (size_madeCells _ _) (.inr (AB.CD cq (fun k j c hk=>(hg k j c hk).1)))
 rw[adh,List.length_replicate] at*
 refine lR adq ⟨G',r'.put hv (fun q hq=>by have dB:q=n:=hq;subst dB;exact bu _ _ _) (fun q hq=>by rw[hd] at hq;injection hq with hq;omega)⟩
theorem To (off:Nat):∀(vs:List Value) (k:Nat) (cs:Array Value),off+k+vs.length<=cs.size->
  ((vs.zipIdx k).foldl (fun(cs:Array Value) (p:Value×Nat)=>cs.setIfInBounds (off+p.2) p.1) cs)=(cs.toList.take (off+k)++vs++cs.toList.drop (off+k+vs.length)).toArray
 |[],k,cs,_=>by simp
 |v::vs,k,cs,h=>by
  simp only[List.zipIdx_cons,List.foldl_cons]
  have h':off+(k+1)+vs.length<=(cs.setIfInBounds (off+k) v).size:=by simp at h⊢;omega
  rw[To off vs (k+1) _ h']
  have e:=list_seg_step cs.toList (off+k) v vs (by simp at h⊢;omega)
  rw[List.length_cons,<-e]
  simp[Array.toList_setIfInBounds,Nat.add_assoc]
theorem Tp (off:Nat) (v:Value) (cs:Array Value) (h:off+v.cells.size<=cs.size):
  (v.cells.zipIdx.foldl (fun cs (c,j)=>cs.setIfInBounds (off+j) c) cs)=(bY cs.toList off v.cells.toList).toArray:=by
 have:=To off v.cells.toList 0 cs (by simpa using h)
 rw[<-Array.foldl_toList]
 simp only[Array.toList_zipIdx]
 simpa[bY] using this
theorem S4 (size:Nat):∀(vs:List Value) (i0:Nat) (cs:Array Value),(∀v∈vs,v.cells.size=size)->(i0+vs.length)*size<=cs.size->
  Instr.fill (fun i=>some (i*size,size)) cs ((vs.zipIdx i0).map fun p=>(p.2,p.1))=some (bY cs.toList (i0*size) (vs.flatMap fun v=>v.cells.toList)).toArray
 |[],i0,cs,_,_=>by simp[Instr.fill,bY]
 |v::vs,i0,cs,hv,hl=>by
  have h0:=hv v (by simp)
  have h1:i0*size+v.cells.size<=cs.size:=by
   have:(i0+1)*size<=(i0+(v::vs).length)*size:=Nat.mul_le_mul_right _ (by simp)
   rw[Nat.add_mul] at this
   omega
  simp only[List.zipIdx_cons,List.map_cons,Instr.fill]
  rw[if_neg (by simp;omega)]
  rw[Tp _ _ _ h1]
  have hlen:(bY cs.toList (i0*size) v.cells.toList).length=cs.size:=by simp[bY];omega
  rw[S4 size vs (i0+1) _ (fun v' eO=>hv v' (by simp[eO])) (by simp only[List.size_toArray,hlen];simp only[List.length_cons] at hl;rwa[show i0+1+vs.length=i0+(vs.length+1) by omega])]
  congr 2
  have mh:v.cells.toList.length=size:=by simpa using h0
  have e1:(i0+1)*size=i0*size+size:=by rw[Nat.add_mul];omega
  simp only[bY,List.flatMap_cons,List.length_append,mh]
  rw[e1]
  have ht:(List.take (i0*size) cs.toList).length=i0*size:=by simp;omega
  have t1:List.take (i0*size+size) (List.take (i0*size) cs.toList++v.cells.toList++List.drop (i0*size+size) cs.toList)=List.take (i0*size) cs.toList++v.cells.toList:=by
   apply List.take_left'
   simp[ht,mh]
  have d1:∀x,List.drop (i0*size+size+x) (List.take (i0*size) cs.toList++v.cells.toList++List.drop (i0*size+size) cs.toList)=List.drop (i0*size+(size+x)) cs.toList:=by
   intro x
   rw[List.drop_append,List.drop_eq_nil_of_le (by simp[ht,mh])]
   simp only[List.nil_append,List.drop_drop,List.length_append,ht,mh]
   congr 1
   omega
  rw[t1,d1]
  simp[List.append_assoc]
end
end Go.Am
