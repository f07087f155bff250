/- Am10: make, slice literals, loads. No condition. -/
import Derived.Test.YtbgmbplglejidaaAm9
set_option linter.unusedVariables false
namespace Go.Am
def NH:Value->C->Bool
 |.int k n,.int k' n'=>decide (k=k')&&decide (n=n')
 |.bool b,.bool b'=>decide (b=b')
 |.slice none 0 0,.list sz []=>decide (0<sz)
 |_,_=>false
def uE:List Value->List C->Bool
 |[],[]=>true
 |v::vs,c::cs=>NH v c&&uE vs cs
 |_,_=>false
def mf:C->PC
 |.int k n=>.int k n
 |.bool b=>.bool b
 |.list sz _=>.list sz none 0 []
theorem afS {w:World} {v:Value} {c:C} (h:NH v c=true):(mf c).er=c/\(mf c).val=v/\Good w (mf c)/\∀b,¬aX b (mf c):=by
 unfold NH at h
 split at h
 ·simp at h;obtain⟨rfl,rfl⟩:=h;exact⟨rfl,rfl,.int _ _,fun b hb=>by cases hb⟩
 ·simp at h;subst h;exact⟨rfl,rfl,.bool _,fun b hb=>by cases hb⟩
 ·simp at h
  refine⟨by simp[mf,PC.dR],rfl,.nil _ _ _ h,fun b hb=>?_⟩
  unfold mf at hb
  rw[aX.lm] at hb
  rcases hb with⟨hb,_⟩|⟨k,j,c,⟨e,he,_⟩,_⟩
  ·exact absurd rfl hb
  ·simp at he
 ·cases h
theorem NI {w:World}:∀{vs:List Value} {cs:List C},uE vs cs=true->(cs.map mf).map PC.er=cs/\(cs.map mf).map PC.val=vs/\∀pc∈cs.map mf,Good w pc/\∀b,¬aX b pc
 |[],[],_=>⟨rfl,rfl,by simp⟩
 |v::vs,c::cs,h=>by
  simp only[uE,Bool.and_eq_true] at h
  obtain⟨a1,a2,a3,a4⟩:=afS (w:=w) h.1
  obtain⟨b1,b2,b3⟩:=NI (w:=w) h.2
  refine⟨by simp only[List.map_cons,a1,b1],by simp only[List.map_cons,a2,b2],fun pc bc=>?_⟩
  simp only[List.map_cons,List.mem_cons] at bc
  rcases bc with rfl|bc
  ·exact⟨a3,a4⟩
  ·exact b3 pc bc
 |[],_::_,h=>by simp[uE] at h
 |_::_,[],h=>by simp[uE] at h
theorem IZ {α:Type} {n k j:Nat} {e:List α} {c:α} (h:At (List.replicate n e) k j c):k<n/\e[j]? =some c:=by
 obtain⟨e',he,hj⟩:=h
 rw[List.getElem?_replicate] at he
 split at he
 ·rename_i hk
  injection he with he
  subst he
  exact⟨hk,hj⟩
 ·cases he
section
variable {B:Nat} {E:Ex} {w0 w w':World} {G G':Gh} {h h':Nat->Option ar} {used used':Nat->Bool} {tk:List PC} {N:Nat}
variable {P:Program} {o:Oper} {a:Act} {σ σ':St} {Q:Exit->Act->World->Prop}
theorem RA.int {x:ak} {n:Int} {v:Value} (hx:x.dn=some n) (hv:RA w G h x v):∃k,v=.int k n:=by
 unfold ak.dn at hx
 split at hx
 ·rename_i k n'
  injection hx with hx
  subst hx
  rcases hv with hv|hv
  ·cases hv
  ·have eS:cZ w G h [.c (.int k n')] [v]:=hv
   obtain⟨pc,h1,h2,_⟩:=(eS.2 0 _ v rfl rfl).2
   cases pc<;>simp[PC.er] at h1
   obtain⟨rfl,rfl⟩:=h1
   exact⟨_,h2.symm⟩
 ·cases hx
theorem agX (r:R B E w0 N σ a w G) {n:Nat} {t e:TypeId} {i:TypeInfo} {z:Value} {zs:List C} {x y:Operand} {mx my:MO} {m:Mode} {sz by_:Nat} {q q':Int} {σ1:St}
  (ho:o.op=.makeSlice t x y) (hd:o.dst=some n) (hN:n<N) (iy:bF x mx=true) (ku:bF y my=true)
  (ht:P.underlying t=some (.slice e)) (hi:P.info? e=some i) (hz:i.zero=some z) (bP:i.size=sz) (oN:i.bytes=by_) (y6:0<by_) (jB:0<sz) (hc:uE z.cells.toList zs=true)
  (hq:(σ.ev mx).dn=some q) (d9:(σ.ev my).dn=some q') (ez:q<=q') (nX:0<=q) (hb:q'.toNat*by_<=eQ) (hlen:zs.length=sz)
  (hx:σ.ins n (.row true m sz (List.replicate q.toNat zs))=some σ1):
  o.wp P a w (Nx B E w0 N (σ1.put o.dst (.one (.sl n sz 0 q.toNat)))) Q:=by
 obtain⟨hn,rfl⟩:=mN hx
 obtain⟨k1,e1⟩:=(r.ev iy).1.int hq
 obtain⟨k2,e2⟩:=(r.ev ku).1.int d9
 have hqq:q.toNat<=q'.toNat:=by omega
 obtain⟨b1,b2,b3⟩:=NI (w:=w) hc
 have att:q'.toNat<=eQ:=Nat.le_trans (Nat.le_mul_of_pos_right _ y6) hb
 have ajD:z.cells.size=sz:=by
  have:((zs.map mf).map PC.val).length=z.cells.toList.length:=by rw[b2]
  simp at this
  omega
 have bY:=run_make (P:=P) w t e i z ht hi hz k1 k2 q q' nX ez (by
  rw[oN]
  have h1:((q'.toNat*by_:Nat):Int)<=((eQ:Nat):Int):=by exact_mod_cast hb
  rw[Int.natCast_mul,Int.toNat_of_nonneg (by omega:0<=q')] at h1
  rw[Int.mul_comm]
  have h2:((eQ:Nat):Int)=140737488355328:=rfl
  omega) (by
  have h2:(eQ:Nat)=140737488355328:=rfl
  omega)
 have ajq:(execOp a.eval o).run P w=.ok (.value (.slice (some (ad w.heap.size 0)) q.toNat q'.toNat)) (w.alloc (.cells (madeCells z.cells (q'.toNat*sz)) e)):=by
  simp only[execOp,ho,e1,e2]
  rw[bP] at bY
  simp[bY,ad]
 have ajg:(List.replicate q.toNat (zs.map mf)).map (fun e=>e.map PC.er)=List.replicate q.toNat zs:=by
  rw[List.map_replicate,b1]
 have cm:∀b,¬aZ b (List.replicate q.toNat (zs.map mf)):=by
  rintro b ⟨k,j,c,hk,hb⟩
  exact(b3 c (List.mem_of_getElem? (IZ hk).2)).2 b hb
 have hg:∀k j c,At (List.replicate q.toNat (zs.map mf)) k j c->Good w c/\∀b,aX b c->G.Im b:=fun k j c hk=>
  ⟨(b3 c (List.mem_of_getElem? (IZ hk).2)).1,fun b hb=>absurd hb ((b3 c (List.mem_of_getElem? (IZ hk).2)).2 b)⟩
 obtain⟨G',r',hv⟩:=r.newRow (σ1:=σ) (Im':=G.Im) (m:=m) (sz:=sz) (cap:=q'.toNat) (pes:=List.replicate q.toNat (zs.map mf)) (arr:=madeCells z.cells (q'.toNat*sz)) (e:=e) r.hr (bf.refl _ _ _ _) rfl rfl hn jB
  (fun e he=>by rw[(List.mem_replicate.1 he).2];simpa using hlen) hg (fun k j c hk=>by
   obtain⟨h1,h2⟩:=IZ hk
   have hj:j<sz:=by have:=(List.getElem?_eq_some_iff.1 h2).1;simp at this;omega
   have ai1:k*sz+j<q'.toNat*sz:=by
    have:(k+1)*sz<=q'.toNat*sz:=Nat.mul_le_mul_right _ (by omega)
    rw[Nat.add_mul] at this
    omega
   have PW:(k*sz+j)%sz=j:=by rw[Nat.mul_comm,Nat.mul_add_mod,Nat.mod_eq_of_lt hj]
   have iw:z.cells.toList[j]? =some c.val:=by rw[<-b2,List.getElem?_map,h2];rfl
   have aiP:z.cells[j]? =some c.val:=by simpa using iw
   have hz3:(k*sz+j)%z.cells.size=j:=by rw[ajD];exact PW
   simp[madeCells,ai1,hz3]
   rw[getElem!_def,aiP]) (by simpa using hqq) (by
   have h2:(eQ:Nat)=140737488355328:=rfl
   simp only[maxLen];omega) (size_madeCells _ _) (.inr (D7.FY cm (fun k j c hk=>(hg k j c hk).1)))
 rw[ajg,List.length_replicate] at*
 refine oC ajq ⟨G',r'.put hv (fun q hq=>by have d9:q=n:=hq;subst d9;exact bN _ _ _) (fun q hq=>by rw[hd] at hq;injection hq with hq;omega)⟩
theorem ZZ (off:Nat):∀(vs:List Value) (k:Nat) (cs:Array Value),off+k+vs.length<=cs.size->
  ((vs.zipIdx k).foldl (fun(cs:Array Value) (p:Value×Nat)=>cs.setIfInBounds (off+p.2) p.1) cs)=(cs.toList.take (off+k)++vs++cs.toList.drop (off+k+vs.length)).toArray
 |[],k,cs,_=>by simp
 |v::vs,k,cs,h=>by
  simp only[List.zipIdx_cons,List.foldl_cons]
  have h':off+(k+1)+vs.length<=(cs.setIfInBounds (off+k) v).size:=by simp at h⊢;omega
  rw[ZZ off vs (k+1) _ h']
  have e:=list_seg_step cs.toList (off+k) v vs (by simp at h⊢;omega)
  rw[List.length_cons,<-e]
  simp[Array.toList_setIfInBounds,Nat.add_assoc]
theorem Z0 (off:Nat) (v:Value) (cs:Array Value) (h:off+v.cells.size<=cs.size):
  (v.cells.zipIdx.foldl (fun cs (c,j)=>cs.setIfInBounds (off+j) c) cs)=(cv cs.toList off v.cells.toList).toArray:=by
 have:=ZZ off v.cells.toList 0 cs (by simpa using h)
 rw[<-Array.foldl_toList]
 simp only[Array.toList_zipIdx]
 simpa[cv] using this
theorem ZH (size:Nat):∀(vs:List Value) (i0:Nat) (cs:Array Value),(∀v∈vs,v.cells.size=size)->(i0+vs.length)*size<=cs.size->
  Instr.fill (fun i=>some (i*size,size)) cs ((vs.zipIdx i0).map fun p=>(p.2,p.1))=some (cv cs.toList (i0*size) (vs.flatMap fun v=>v.cells.toList)).toArray
 |[],i0,cs,_,_=>by simp[Instr.fill,cv]
 |v::vs,i0,cs,hv,hl=>by
  have h0:=hv v (by simp)
  have h1:i0*size+v.cells.size<=cs.size:=by
   have:(i0+1)*size<=(i0+(v::vs).length)*size:=Nat.mul_le_mul_right _ (by simp)
   rw[Nat.add_mul] at this
   omega
  simp only[List.zipIdx_cons,List.map_cons,Instr.fill]
  rw[if_neg (by simp;omega)]
  rw[Z0 _ _ _ h1]
  have hlen:(cv cs.toList (i0*size) v.cells.toList).length=cs.size:=by simp[cv];omega
  rw[ZH size vs (i0+1) _ (fun v' eS=>hv v' (by simp[eS])) (by simp only[List.size_toArray,hlen];simp only[List.length_cons] at hl;rwa[show i0+1+vs.length=i0+(vs.length+1) by omega])]
  congr 2
  have sn:v.cells.toList.length=size:=by simpa using h0
  have e1:(i0+1)*size=i0*size+size:=by rw[Nat.add_mul];omega
  simp only[cv,List.flatMap_cons,List.length_append,sn]
  rw[e1]
  have ht:(List.take (i0*size) cs.toList).length=i0*size:=by simp;omega
  have t1:List.take (i0*size+size) (List.take (i0*size) cs.toList++v.cells.toList++List.drop (i0*size+size) cs.toList)=List.take (i0*size) cs.toList++v.cells.toList:=by
   apply List.take_left'
   simp[ht,sn]
  have d1:∀x,List.drop (i0*size+size+x) (List.take (i0*size) cs.toList++v.cells.toList++List.drop (i0*size+size) cs.toList)=List.drop (i0*size+(size+x)) cs.toList:=by
   intro x
   rw[List.drop_append,List.drop_eq_nil_of_le (by simp[ht,sn])]
   simp only[List.nil_append,List.drop_drop,List.length_append,ht,sn]
   congr 1
   omega
  rw[t1,d1]
  simp[List.append_assoc]
end
end Go.Am
