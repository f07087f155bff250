/- Am10: make, slice literals, loads. No condition. -/
import Derived.Test.YthildlkhnnogiaaAm9
set_option linter.unusedVariables false
namespace Go.Am
def Mr:Value->C->Bool
 |.int k n,.int k' n'=>decide (k=k')&&decide (n=n')
 |.bool b,.bool b'=>decide (b=b')
 |.slice none 0 0,.list sz []=>decide (0<sz)
 |_,_=>false
def uJ:List Value->List C->Bool
 |[],[]=>true
 |v::vs,c::cs=>Mr v c&&uJ vs cs
 |_,_=>false
def kO:C->PC
 |.int k n=>.int k n
 |.bool b=>.bool b
 |.list sz _=>.list sz none 0 []
theorem acD {w:World} {v:Value} {c:C} (h:Mr v c=true):(kO c).er=c/\(kO c).val=v/\Good w (kO c)/\∀b,¬aK b (kO c):=by
 unfold Mr at h
 split at h
 ·simp at h;obtain⟨rfl,rfl⟩:=h;exact⟨rfl,rfl,.int _ _,fun b hb=>by cases hb⟩
 ·simp at h;subst h;exact⟨rfl,rfl,.bool _,fun b hb=>by cases hb⟩
 ·simp at h
  refine⟨by simp[kO,PC.cN],rfl,.nil _ _ _ h,fun b hb=>?_⟩
  unfold kO at hb
  rw[aK.jw] at hb
  rcases hb with⟨hb,_⟩|⟨k,j,c,⟨e,he,_⟩,_⟩
  ·exact absurd rfl hb
  ·simp at he
 ·cases h
theorem Ms {w:World}:∀{vs:List Value} {cs:List C},uJ vs cs=true->(cs.map kO).map PC.er=cs/\(cs.map kO).map PC.val=vs/\∀pc∈cs.map kO,Good w pc/\∀b,¬aK b pc
 |[],[],_=>⟨rfl,rfl,by simp⟩
 |v::vs,c::cs,h=>by
  simp only[uJ,Bool.and_eq_true] at h
  obtain⟨a1,a2,a3,a4⟩:=acD (w:=w) h.1
  obtain⟨b1,b2,b3⟩:=Ms (w:=w) h.2
  refine⟨by simp only[List.map_cons,a1,b1],by simp only[List.map_cons,a2,b2],fun pc aT=>?_⟩
  simp only[List.map_cons,List.mem_cons] at aT
  rcases aT with rfl|aT
  ·exact⟨a3,a4⟩
  ·exact b3 pc aT
 |[],_::_,h=>by simp[uJ] at h
 |_::_,[],h=>by simp[uJ] at h
theorem DD {α:Type} {n k j:Nat} {e:List α} {c:α} (h:At (List.replicate n e) k j c):k<n/\e[j]? =some c:=by
 obtain⟨e',he,hj⟩:=h
 rw[List.getElem?_replicate] at he
 split at he
 ·rename_i hk
  injection he with he
  subst he
  exact⟨hk,hj⟩
 ·cases he
section
variable {B:Nat} {E:Ex} {w0 w w':World} {G G':Gh} {h h':Nat->Option aj} {used used':Nat->Bool} {tk:List PC} {N:Nat}
variable {P:Program} {o:Oper} {a:Act} {σ σ':St} {Q:Exit->Act->World->Prop}
theorem RA.int {x:ah} {n:Int} {v:Value} (hx:x.cJ=some n) (hv:RA w G h x v):∃k,v=.int k n:=by
 unfold ah.cJ at hx
 split at hx
 ·rename_i k n'
  injection hx with hx
  subst hx
  rcases hv with hv|hv
  ·cases hv
  ·have eH:cb w G h [.c (.int k n')] [v]:=hv
   obtain⟨pc,h1,h2,_⟩:=(eH.2 0 _ v rfl rfl).2
   cases pc<;>simp[PC.er] at h1
   obtain⟨rfl,rfl⟩:=h1
   exact⟨_,h2.symm⟩
 ·cases hx
theorem adQ (r:R B E w0 N σ a w G) {n:Nat} {t e:TypeId} {i:TypeInfo} {z:Value} {zs:List C} {x y:Operand} {mx my:MO} {m:Mode} {sz by_:Nat} {q q':Int} {σ1:St}
  (ho:o.op=.makeSlice t x y) (hd:o.dst=some n) (hN:n<N) (eR:bd x mx=true) (fo:bd y my=true)
  (ht:P.underlying t=some (.slice e)) (hi:P.info? e=some i) (hz:i.zero=some z) (bn:i.size=sz) (mg:i.bytes=by_) (u0:0<by_) (eC:0<sz) (hc:uJ z.cells.toList zs=true)
  (hq:(σ.ev mx).cJ=some q) (db:(σ.ev my).cJ=some q') (dP:q<=q') (jM:0<=q) (hb:q'.toNat*by_<=e8) (hlen:zs.length=sz)
  (hx:σ.ins n (.row true m sz (List.replicate q.toNat zs))=some σ1):
  o.wp P a w (Nx B E w0 N (σ1.put o.dst (.one (.sl n sz 0 q.toNat)))) Q:=by
 obtain⟨hn,rfl⟩:=iI hx
 obtain⟨k1,e1⟩:=(r.ev eR).1.int hq
 obtain⟨k2,e2⟩:=(r.ev fo).1.int db
 have hqq:q.toNat<=q'.toNat:=by omega
 obtain⟨b1,b2,b3⟩:=Ms (w:=w) hc
 have anf:q'.toNat<=e8:=Nat.le_trans (Nat.le_mul_of_pos_right _ u0) hb
 have agq:z.cells.size=sz:=by
  have:((zs.map kO).map PC.val).length=z.cells.toList.length:=by rw[b2]
  simp at this
  omega
 have aS:=run_make (P:=P) w t e i z ht hi hz k1 k2 q q' jM dP (by
  rw[mg]
  have h1:((q'.toNat*by_:Nat):Int)<=((e8:Nat):Int):=by exact_mod_cast hb
  rw[Int.natCast_mul,Int.toNat_of_nonneg (by omega:0<=q')] at h1
  rw[Int.mul_comm]
  have h2:((e8:Nat):Int)=140737488355328:=rfl
  omega) (by
  have h2:(e8:Nat)=140737488355328:=rfl
  omega)
 have age:(execOp a.eval o).run P w=.ok (.value (.slice (some (ad w.heap.size 0)) q.toNat q'.toNat)) (w.alloc (.cells (madeCells z.cells (q'.toNat*sz)) e)):=by
  simp only[execOp,ho,e1,e2]
  rw[bn] at aS
  simp[aS,ad]
 have af5:(List.replicate q.toNat (zs.map kO)).map (fun e=>e.map PC.er)=List.replicate q.toNat zs:=by
  rw[List.map_replicate,b1]
 have bG:∀b,¬aP b (List.replicate q.toNat (zs.map kO)):=by
  rintro b ⟨k,j,c,hk,hb⟩
  exact(b3 c (List.mem_of_getElem? (DD hk).2)).2 b hb
 have hg:∀k j c,At (List.replicate q.toNat (zs.map kO)) k j c->Good w c/\∀b,aK b c->G.Im b:=fun k j c hk=>
  ⟨(b3 c (List.mem_of_getElem? (DD hk).2)).1,fun b hb=>absurd hb ((b3 c (List.mem_of_getElem? (DD hk).2)).2 b)⟩
 obtain⟨G',r',hv,_⟩:=r.newRow (σ1:=σ) (Im':=G.Im) (m:=m) (sz:=sz) (cap:=q'.toNat) (pes:=List.replicate q.toNat (zs.map kO)) (arr:=madeCells z.cells (q'.toNat*sz)) (e:=e) r.hr (aR.refl _ _ _ _) rfl rfl hn eC
  (fun e he=>by rw[(List.mem_replicate.1 he).2];simpa using hlen) hg (fun k j c hk=>by
   obtain⟨h1,h2⟩:=DD hk
   have hj:j<sz:=by have:=(List.getElem?_eq_some_iff.1 h2).1;simp at this;omega
   have afO:k*sz+j<q'.toNat*sz:=by
    have:(k+1)*sz<=q'.toNat*sz:=Nat.mul_le_mul_right _ (by omega)
    rw[Nat.add_mul] at this
    omega
   have afW:(k*sz+j)%sz=j:=by rw[Nat.mul_comm,Nat.mul_add_mod,Nat.mod_eq_of_lt hj]
   have fQ:z.cells.toList[j]? =some c.val:=by rw[<-b2,List.getElem?_map,h2];rfl
   have afv:z.cells[j]? =some c.val:=by simpa using fQ
   have hz3:(k*sz+j)%z.cells.size=j:=by rw[agq];exact afW
   simp[madeCells,afO,hz3]
   rw[getElem!_def,afv]) (by simpa using hqq) (by
   have h2:(e8:Nat)=140737488355328:=rfl
   simp only[maxLen];omega) (size_madeCells _ _) (.inr (Dy.vT bG (fun k j c hk=>(hg k j c hk).1))) (fun _ w' k pc hk=>by
   obtain⟨c,_,rfl⟩:=List.mem_map.1 (List.mem_of_getElem? (DD hk).2)
   cases c with
   |int k n=>trivial
   |bool b=>trivial
   |list s l=>exact .inl rfl)
 rw[af5,List.length_replicate] at*
 refine jk age ⟨G',r'.put hv (fun q hq=>by have db:q=n:=hq;subst db;exact bo _ _ _) (fun q hq=>by rw[hd] at hq;injection hq with hq;omega)⟩
theorem W6 (off:Nat):∀(vs:List Value) (k:Nat) (cs:Array Value),off+k+vs.length<=cs.size->
  ((vs.zipIdx k).foldl (fun(cs:Array Value) (p:Value×Nat)=>cs.setIfInBounds (off+p.2) p.1) cs)=(cs.toList.take (off+k)++vs++cs.toList.drop (off+k+vs.length)).toArray
 |[],k,cs,_=>by simp
 |v::vs,k,cs,h=>by
  simp only[List.zipIdx_cons,List.foldl_cons]
  have h':off+(k+1)+vs.length<=(cs.setIfInBounds (off+k) v).size:=by simp at h⊢;omega
  rw[W6 off vs (k+1) _ h']
  have e:=list_seg_step cs.toList (off+k) v vs (by simp at h⊢;omega)
  rw[List.length_cons,<-e]
  simp[Array.toList_setIfInBounds,Nat.add_assoc]
theorem W7 (off:Nat) (v:Value) (cs:Array Value) (h:off+v.cells.size<=cs.size):
  (v.cells.zipIdx.foldl (fun cs (c,j)=>cs.setIfInBounds (off+j) c) cs)=(ci cs.toList off v.cells.toList).toArray:=by
 have:=W6 off v.cells.toList 0 cs (by simpa using h)
 rw[<-Array.foldl_toList]
 simp only[Array.toList_zipIdx]
 simpa[ci] using this
theorem M5 (size:Nat):∀(vs:List Value) (i0:Nat) (cs:Array Value),(∀v∈vs,v.cells.size=size)->(i0+vs.length)*size<=cs.size->
  Instr.fill (fun i=>some (i*size,size)) cs ((vs.zipIdx i0).map fun p=>(p.2,p.1))=some (ci cs.toList (i0*size) (vs.flatMap fun v=>v.cells.toList)).toArray
 |[],i0,cs,_,_=>by simp[Instr.fill,ci]
 |v::vs,i0,cs,hv,hl=>by
  have h0:=hv v (by simp)
  have h1:i0*size+v.cells.size<=cs.size:=by
   have:(i0+1)*size<=(i0+(v::vs).length)*size:=Nat.mul_le_mul_right _ (by simp)
   rw[Nat.add_mul] at this
   omega
  simp only[List.zipIdx_cons,List.map_cons,Instr.fill]
  rw[if_neg (by simp;omega)]
  rw[W7 _ _ _ h1]
  have hlen:(ci cs.toList (i0*size) v.cells.toList).length=cs.size:=by simp[ci];omega
  rw[M5 size vs (i0+1) _ (fun v' eH=>hv v' (by simp[eH])) (by simp only[List.size_toArray,hlen];simp only[List.length_cons] at hl;rwa[show i0+1+vs.length=i0+(vs.length+1) by omega])]
  congr 2
  have oq:v.cells.toList.length=size:=by simpa using h0
  have e1:(i0+1)*size=i0*size+size:=by rw[Nat.add_mul];omega
  simp only[ci,List.flatMap_cons,List.length_append,oq]
  rw[e1]
  have ht:(List.take (i0*size) cs.toList).length=i0*size:=by simp;omega
  have t1:List.take (i0*size+size) (List.take (i0*size) cs.toList++v.cells.toList++List.drop (i0*size+size) cs.toList)=List.take (i0*size) cs.toList++v.cells.toList:=by
   apply List.take_left'
   simp[ht,oq]
  have d1:∀x,List.drop (i0*size+size+x) (List.take (i0*size) cs.toList++v.cells.toList++List.drop (i0*size+size) cs.toList)=List.drop (i0*size+(size+x)) cs.toList:=by
   intro x
   rw[List.drop_append,List.drop_eq_nil_of_le (by simp[ht,oq])]
   simp only[List.nil_append,List.drop_drop,List.length_append,ht,oq]
   congr 1
   omega
  rw[t1,d1]
  simp[List.append_assoc]
end
end Go.Am
