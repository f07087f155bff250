/- Am10: make, slice literals, loads. No condition. -/
import Derived.Test.YtifmggmhdcdgbaaAm9
set_option linter.unusedVariables false
namespace Go.Am
def Kk:Value->C->Bool
 |.int k n,.int k' n'=>decide (k=k')&&decide (n=n')
 |.bool b,.bool b'=>decide (b=b')
 |.slice none 0 0,.list sz []=>decide (0<sz)
 |_,_=>false
def s8:List Value->List C->Bool
 |[],[]=>true
 |v::vs,c::cs=>Kk v c&&s8 vs cs
 |_,_=>false
def kK:C->PC
 |.int k n=>.int k n
 |.bool b=>.bool b
 |.list sz _=>.list sz none 0 []
theorem aaQ {w:World} {v:Value} {c:C} (h:Kk v c=true):(kK c).er=c/\(kK c).val=v/\Good w (kK c)/\∀b,¬aM b (kK c):=by
 unfold Kk at h
 split at h
 ·simp at h;obtain⟨rfl,rfl⟩:=h;exact⟨rfl,rfl,.int _ _,fun b hb=>by cases hb⟩
 ·simp at h;subst h;exact⟨rfl,rfl,.bool _,fun b hb=>by cases hb⟩
 ·simp at h
  refine⟨by simp[kK,PC.dr],rfl,.nil _ _ _ h,fun b hb=>?_⟩
  unfold kK at hb
  rw[aM.jZ] at hb
  rcases hb with⟨hb,_⟩|⟨k,j,c,⟨e,he,_⟩,_⟩
  ·exact absurd rfl hb
  ·simp at he
 ·cases h
theorem Kl {w:World}:∀{vs:List Value} {cs:List C},s8 vs cs=true->(cs.map kK).map PC.er=cs/\(cs.map kK).map PC.val=vs/\∀pc∈cs.map kK,Good w pc/\∀b,¬aM b pc
 |[],[],_=>⟨rfl,rfl,by simp⟩
 |v::vs,c::cs,h=>by
  simp only[s8,Bool.and_eq_true] at h
  obtain⟨a1,a2,a3,a4⟩:=aaQ (w:=w) h.1
  obtain⟨b1,b2,b3⟩:=Kl (w:=w) h.2
  refine⟨by simp only[List.map_cons,a1,b1],by simp only[List.map_cons,a2,b2],fun pc aV=>?_⟩
  simp only[List.map_cons,List.mem_cons] at aV
  rcases aV with rfl|aV
  ·exact⟨a3,a4⟩
  ·exact b3 pc aV
 |[],_::_,h=>by simp[s8] at h
 |_::_,[],h=>by simp[s8] at h
theorem FO {α:Type} {n k j:Nat} {e:List α} {c:α} (h:At (List.replicate n e) k j c):k<n/\e[j]? =some c:=by
 obtain⟨e',he,hj⟩:=h
 rw[List.getElem?_replicate] at he
 split at he
 ·rename_i hk
  injection he with he
  subst he
  exact⟨hk,hj⟩
 ·cases he
section
variable {B:Nat} {E:Ex} {w0 w w':World} {G G':Gh} {h h':Nat->Option aq} {used used':Nat->Bool} {tk:List PC} {N:Nat}
variable {P:Program} {o:Oper} {a:Act} {σ σ':St} {Q:Exit->Act->World->Prop}
theorem RA.int {x:ak} {n:Int} {v:Value} (hx:x.cX=some n) (hv:RA w G h x v):∃k,v=.int k n:=by
 unfold ak.cX at hx
 split at hx
 ·rename_i k n'
  injection hx with hx
  subst hx
  rcases hv with hv|hv
  ·cases hv
  ·have fw:cA w G h [.c (.int k n')] [v]:=hv
   obtain⟨pc,h1,h2,_⟩:=(fw.2 0 _ v rfl rfl).2
   cases pc<;>simp[PC.er] at h1
   obtain⟨rfl,rfl⟩:=h1
   exact⟨_,h2.symm⟩
 ·cases hx
theorem abJ (r:R B E w0 N σ a w G) {n:Nat} {t e:TypeId} {i:TypeInfo} {z:Value} {zs:List C} {x y:Operand} {mx my:MO} {m:Mode} {sz by_:Nat} {q q':Int} {σ1:St}
  (ho:o.op=.makeSlice t x y) (hd:o.dst=some n) (hN:n<N) (iQ:bw x mx=true) (jm:bw y my=true)
  (ht:P.underlying t=some (.slice e)) (hi:P.info? e=some i) (hz:i.zero=some z) (bE:i.size=sz) (pj:i.bytes=by_) (xu:0<by_) (iE:0<sz) (hc:s8 z.cells.toList zs=true)
  (hq:(σ.ev mx).cX=some q) (dM:(σ.ev my).cX=some q') (du:q<=q') (mK:0<=q) (hb:q'.toNat*by_<=eK) (hlen:zs.length=sz)
  (hx:σ.ins n (.row true m sz (List.replicate q.toNat zs))=some σ1):
  o.wp P a w (Nx B E w0 N (σ1.put o.dst (.one (.sl n sz 0 q.toNat)))) Q:=by
 obtain⟨hn,rfl⟩:=lW hx
 obtain⟨k1,e1⟩:=(r.ev iQ).1.int hq
 obtain⟨k2,e2⟩:=(r.ev jm).1.int dM
 have hqq:q.toNat<=q'.toNat:=by omega
 obtain⟨b1,b2,b3⟩:=Kl (w:=w) hc
 have alx:q'.toNat<=eK:=Nat.le_trans (Nat.le_mul_of_pos_right _ xu) hb
 have adQ:z.cells.size=sz:=by
  have:((zs.map kK).map PC.val).length=z.cells.toList.length:=by rw[b2]
  simp at this
  omega
 have bK:=run_make (P:=P) w t e i z ht hi hz k1 k2 q q' mK du (by
  rw[pj]
  have h1:((q'.toNat*by_:Nat):Int)<=((eK:Nat):Int):=by exact_mod_cast hb
  rw[Int.natCast_mul,Int.toNat_of_nonneg (by omega:0<=q')] at h1
  rw[Int.mul_comm]
  have h2:((eK:Nat):Int)=140737488355328:=rfl
  omega) (by
  have h2:(eK:Nat)=140737488355328:=rfl
  omega)
 have adF:(execOp a.eval o).run P w=.ok (.value (.slice (some (ad w.heap.size 0)) q.toNat q'.toNat)) (w.alloc (.cells (madeCells z.cells (q'.toNat*sz)) e)):=by
  simp only[execOp,ho,e1,e2]
  rw[bE] at bK
  simp[bK,ad]
 have adw:(List.replicate q.toNat (zs.map kK)).map (fun e=>e.map PC.er)=List.replicate q.toNat zs:=by
  rw[List.map_replicate,b1]
 have cf:∀b,¬aP b (List.replicate q.toNat (zs.map kK)):=by
  rintro b ⟨k,j,c,hk,hb⟩
  exact(b3 c (List.mem_of_getElem? (FO hk).2)).2 b hb
 have hg:∀k j c,At (List.replicate q.toNat (zs.map kK)) k j c->Good w c/\∀b,aM b c->G.Im b:=fun k j c hk=>
  ⟨(b3 c (List.mem_of_getElem? (FO hk).2)).1,fun b hb=>absurd hb ((b3 c (List.mem_of_getElem? (FO hk).2)).2 b)⟩
 obtain⟨G',r',hv⟩:=r.newRow (σ1:=σ) (Im':=G.Im) (m:=m) (sz:=sz) (cap:=q'.toNat) (pes:=List.replicate q.toNat (zs.map kK)) (arr:=madeCells z.cells (q'.toNat*sz)) (e:=e) r.hr (aT.refl _ _ _ _) rfl rfl hn iE
  (fun e he=>by rw[(List.mem_replicate.1 he).2];simpa using hlen) hg (fun k j c hk=>by
   obtain⟨h1,h2⟩:=FO hk
   have hj:j<sz:=by have:=(List.getElem?_eq_some_iff.1 h2).1;simp at this;omega
   have adg:k*sz+j<q'.toNat*sz:=by
    have:(k+1)*sz<=q'.toNat*sz:=Nat.mul_le_mul_right _ (by omega)
    rw[Nat.add_mul] at this
    omega
   have adq:(k*sz+j)%sz=j:=by rw[Nat.mul_comm,Nat.mul_add_mod,Nat.mod_eq_of_lt hj]
   have gC:z.cells.toList[j]? =some c.val:=by rw[<-b2,List.getElem?_map,h2];rfl
   have ac4:z.cells[j]? =some c.val:=by simpa using gC
   have hz3:(k*sz+j)%z.cells.size=j:=by rw[adQ];exact adq
   simp[madeCells,adg,hz3]
   rw[getElem!_def,ac4]) (by simpa using hqq) (by
   have h2:(eK:Nat)=140737488355328:=rfl
   simp only[maxLen];omega) (size_madeCells _ _) (.inr (BR.DD cf (fun k j c hk=>(hg k j c hk).1)))
 rw[adw,List.length_replicate] at*
 refine mZ adF ⟨G',r'.put hv (fun q hq=>by have dM:q=n:=hq;subst dM;exact bC _ _ _) (fun q hq=>by rw[hd] at hq;injection hq with hq;omega)⟩
theorem US (off:Nat):∀(vs:List Value) (k:Nat) (cs:Array Value),off+k+vs.length<=cs.size->
  ((vs.zipIdx k).foldl (fun(cs:Array Value) (p:Value×Nat)=>cs.setIfInBounds (off+p.2) p.1) cs)=(cs.toList.take (off+k)++vs++cs.toList.drop (off+k+vs.length)).toArray
 |[],k,cs,_=>by simp
 |v::vs,k,cs,h=>by
  simp only[List.zipIdx_cons,List.foldl_cons]
  have h':off+(k+1)+vs.length<=(cs.setIfInBounds (off+k) v).size:=by simp at h⊢;omega
  rw[US off vs (k+1) _ h']
  have e:=list_seg_step cs.toList (off+k) v vs (by simp at h⊢;omega)
  rw[List.length_cons,<-e]
  simp[Array.toList_setIfInBounds,Nat.add_assoc]
theorem UT (off:Nat) (v:Value) (cs:Array Value) (h:off+v.cells.size<=cs.size):
  (v.cells.zipIdx.foldl (fun cs (c,j)=>cs.setIfInBounds (off+j) c) cs)=(bW cs.toList off v.cells.toList).toArray:=by
 have:=US off v.cells.toList 0 cs (by simpa using h)
 rw[<-Array.foldl_toList]
 simp only[Array.toList_zipIdx]
 simpa[bW] using this
theorem UB (size:Nat):∀(vs:List Value) (i0:Nat) (cs:Array Value),(∀v∈vs,v.cells.size=size)->(i0+vs.length)*size<=cs.size->
  Instr.fill (fun i=>some (i*size,size)) cs ((vs.zipIdx i0).map fun p=>(p.2,p.1))=some (bW cs.toList (i0*size) (vs.flatMap fun v=>v.cells.toList)).toArray
 |[],i0,cs,_,_=>by simp[Instr.fill,bW]
 |v::vs,i0,cs,hv,hl=>by
  have h0:=hv v (by simp)
  have h1:i0*size+v.cells.size<=cs.size:=by
   have:(i0+1)*size<=(i0+(v::vs).length)*size:=Nat.mul_le_mul_right _ (by simp)
   rw[Nat.add_mul] at this
   omega
  simp only[List.zipIdx_cons,List.map_cons,Instr.fill]
  rw[if_neg (by simp;omega)]
  rw[UT _ _ _ h1]
  have hlen:(bW cs.toList (i0*size) v.cells.toList).length=cs.size:=by simp[bW];omega
  rw[UB size vs (i0+1) _ (fun v' fw=>hv v' (by simp[fw])) (by simp only[List.size_toArray,hlen];simp only[List.length_cons] at hl;rwa[show i0+1+vs.length=i0+(vs.length+1) by omega])]
  congr 2
  have qK:v.cells.toList.length=size:=by simpa using h0
  have e1:(i0+1)*size=i0*size+size:=by rw[Nat.add_mul];omega
  simp only[bW,List.flatMap_cons,List.length_append,qK]
  rw[e1]
  have ht:(List.take (i0*size) cs.toList).length=i0*size:=by simp;omega
  have t1:List.take (i0*size+size) (List.take (i0*size) cs.toList++v.cells.toList++List.drop (i0*size+size) cs.toList)=List.take (i0*size) cs.toList++v.cells.toList:=by
   apply List.take_left'
   simp[ht,qK]
  have d1:∀x,List.drop (i0*size+size+x) (List.take (i0*size) cs.toList++v.cells.toList++List.drop (i0*size+size) cs.toList)=List.drop (i0*size+(size+x)) cs.toList:=by
   intro x
   rw[List.drop_append,List.drop_eq_nil_of_le (by simp[ht,qK])]
   simp only[List.nil_append,List.drop_drop,List.length_append,ht,qK]
   congr 1
   omega
  rw[t1,d1]
  simp[List.append_assoc]
end
end Go.Am
