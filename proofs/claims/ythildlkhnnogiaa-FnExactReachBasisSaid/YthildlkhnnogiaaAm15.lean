/- Am15: indexes, lengths, slices, stores, struct literals as operations. No condition. -/
import Derived.Test.YthildlkhnnogiaaAm14
set_option linter.unusedVariables false
namespace Go.Am
section
variable {B:Nat} {E:Ex} {w0 w w':World} {G G':Gh} {h h':Nat->Option aj} {used used':Nat->Bool} {tk:List PC} {N:Nat}
variable {P:Program} {o:Oper} {a:Act} {σ σ':St} {Q:Exit->Act->World->Prop}
theorem E9 {n:Nat} (hs:(h n).isSome=true):h n≠none:=by intro hh;rw[hh] at hs;cases hs
theorem CS {t e:TypeId} {i:TypeInfo} {sz b off len cap:Nat} {kk:IntKind} {q:Int} (ht:P.underlying t=some (.slice e)) (hi:P.info? e=some i) (bn:i.size=sz) (h0:0<=q) (h1:q<len):
  (Instr.indexAt t (.slice (some (ad b off)) len cap) (.int kk q)).run P w=.ok (.pointer (some (ad b (off+q.toNat*sz)))) w:=by
 simp[Instr.indexAt,run_underlying ht,asIntOf,h0,h1,sizeOf,typeInfo,hi,bn,mY]
theorem Wv (r:R B E w0 N σ a w G) {t e:TypeId} {i:TypeInfo} {x y:Operand} {mx my:MO} {sz:Nat} {q:Int} {z:ah} (ho:o.op=.indexAddr t x y) (hN:∀n,o.dst=some n->n<N) (eR:bd x mx=true) (fo:bd y my=true)
  (ht:P.underlying t=some (.slice e)) (hi:P.info? e=some i) (bn:i.size=sz) (hq:(σ.ev my).cJ=some q) (h0:0<=q)
  (hz:(∃n lo len,σ.ev mx=.one (.sl n sz lo len)/\q<(len:Int)/\(σ.h n).isSome=true/\z=.one (.ptr n (lo+q.toNat) sz 0))\/(∃xs el,σ.ev mx=.one (.c (.list sz xs))/\xs[q.toNat]? =some el/\z=.one (.cd el 0))):
  o.wp P a w (Nx B E w0 N (σ.put o.dst z)) Q:=by
 obtain⟨x1,x2⟩:=r.ev eR
 obtain⟨kk,ey⟩:=(r.ev fo).1.int hq
 rcases hz with⟨n,lo,len,e1,h1,hs,rfl⟩|⟨xs,el,e1,h1,rfl⟩
 ·rw[e1] at x1 x2
  have fC:eU (G.g n) sz lo len (a.eval x):=(x1.dB (by simp)).1 (E9 hs)
  rcases fC with⟨_,_,_,hl⟩|⟨aD,a',hv,gh,ha⟩
  ·omega
  ·have lm:=ha (.inl (by omega))
   subst lm
   refine gf r (v:=.pointer (some (ad (G.g n).b ((G.g n).o+lo*sz+q.toNat*sz)))) ?_ ?_ (fun m hm=>x2 m hm) hN
   ·simp only[execOp,ho,hv,ey]
    simp[CS ht hi bn h0 h1]
   ·exact RA.dS rfl fun _=>⟨aD,by rw[Nat.add_mul];congr 3;omega⟩
 ·rw[e1] at x1
  obtain⟨pc,p1,p2,p3,p4⟩:=x1.c
  cases pc with
  |int k n=>simp[PC.er] at p1
  |bool b=>simp[PC.er] at p1
  |list s' ya c py=>
   rw[PC.cN] at p1
   injection p1 with p0 p1
   subst p0
   have gN:∃pe,py[q.toNat]? =some pe/\pe.map PC.er=el:=by
    rw[<-p1,List.getElem?_map] at h1
    cases hp:py[q.toNat]? with
    |none=>rw[hp] at h1;cases h1
    |some pe=>rw[hp] at h1;simp at h1;exact⟨pe,rfl,h1⟩
   obtain⟨pe,qL,rZ⟩:=gN
   have bS:q.toNat<py.length:=(List.getElem?_eq_some_iff.1 qL).1
   cases p3 with
   |nil _ _ _ _=>simp at bS
   |cons _ b oo _ _ g1 g2 g3 g4 g5 g6=>
    have db:q<(py.length:Int):=by omega
    refine gf r (v:=.pointer (some (ad b (oo+q.toNat*s')))) ?_ ?_ (fun m hm=>absurd hm (by simp[ah.ref,ab.ref,ab.fL])) hN
    ·simp only[execOp,ho,<-p2,PC.val,ey]
     simp[CS ht hi bn h0 db]
    ·refine RA.dS rfl ⟨b,oo+q.toNat*s',pe,by simp,rZ,p4 b (.here _ _ _ _ g1),fun j c hj=>?_⟩
     exact⟨g5 _ _ _ ⟨pe,qL,hj⟩,g6 _ _ _ ⟨pe,qL,hj⟩,fun b' aE=>p4 b' (.there _ _ _ _ _ _ c ⟨pe,qL,hj⟩ aE)⟩
theorem IB (r:R B E w0 N σ a w G) {t e:TypeId} {x:Operand} {mx:MO} {len:Nat} (ho:o.op=.call {callee:=.builtin .len,args:=#[x],argTypes:=#[t]}) (hN:∀n,o.dst=some n->n<N) (hm:bd x mx=true)
  (ht:P.underlying t=some (.slice e))
  (hz:(∃n sz lo,σ.ev mx=.one (.sl n sz lo len)/\(σ.h n).isSome=true)\/(∃sz xs,σ.ev mx=.one (.c (.list sz xs))/\len=xs.length)\/(∃sz,σ.ev mx=.one (.nil sz)/\len=0)\/
   (∃n k au off sz l s ys,σ.ev mx=.one (.bf n k au off sz l)/\bQ σ.h (.bf n k au off sz l)=some (.list s ys)/\len=ys.length)):
  o.wp P a w (Nx B E w0 N (σ.put o.dst (.one (.c (.int .i64 len))))) Q:=by
 obtain⟨x1,x2⟩:=r.ev hm
 have hv:∃a' c,a.eval x=.slice a' len c:=by
  rcases hz with⟨n,sz,lo,e1,hs⟩|⟨sz,xs,e1,rfl⟩|⟨sz,e1,rfl⟩|⟨n,k,au,off,sz,l,s,ys,e1,EN,rfl⟩
  ·rw[e1] at x1
   have fC:eU (G.g n) sz lo len (a.eval x):=(x1.dB (by simp)).1 (E9 hs)
   rcases fC with⟨_,hv,_,rfl⟩|⟨_,a',hv,_,_⟩
   ·exact⟨_,_,hv⟩
   ·exact⟨_,_,hv⟩
  ·rw[e1] at x1
   obtain⟨pc,p1,p2,_⟩:=x1.c
   cases pc with
   |int k n=>simp[PC.er] at p1
   |bool b=>simp[PC.er] at p1
   |list s' ya c py=>
    rw[PC.cN] at p1
    injection p1 with _ p1
    refine⟨ya,c,?_⟩
    rw[<-p2,<-p1];simp[PC.val]
  ·rw[e1] at x1
   have eH:a.eval x=.slice none 0 0:=(x1.dB (by simp)).1
   exact⟨_,_,eH⟩
  ·rw[e1] at x1
   obtain⟨pc,p1,p2,_⟩:=r.hr.bQ EN (x1.dB (by simp)).1
   cases pc with
   |int k n=>simp[PC.er] at p1
   |bool b=>simp[PC.er] at p1
   |list s' ya c py=>
    rw[PC.cN] at p1
    injection p1 with _ p1
    refine⟨ya,c,?_⟩
    rw[<-p2,<-p1];simp[PC.val]
 obtain⟨a',c,hv⟩:=hv
 refine gf r (v:=.int .i64 len) ?_ (RA.of_int _ _) (fun q hq=>absurd hq oH) hN
 simp[execOp,ho,resolve,invoke,builtin,hv,Builtin.len_,run_underlying ht,goInt]
theorem z8 {t e:TypeId} {i:TypeInfo} {sz:Nat} {ya:Option Addr} {len cap:Nat} {lo hi':Option Value} {l hh:Int} (ht:P.underlying t=some (.slice e)) (hi:P.info? e=some i) (bn:i.size=sz)
  (pt:(lo=none/\l=0)\/∃k,lo=some (.int k l)) (ve:(hi'=none/\hh=len)\/∃k,hi'=some (.int k hh)) (h0:0<=l) (h1:l<=hh) (h2:hh<=len) (h3:len<=cap):
  (Instr.sliceAt t (.slice ya len cap) lo hi' none).run P w=.ok (.slice (if cap=l.toNat then ya else ya.map (·.add (l.toNat*sz))) (hh - l).toNat (cap - l.toNat)) w:=by
 have e1:(hh.toNat:Int)=hh:=Int.toNat_of_nonneg (by omega)
 have e2:(hh - l).toNat=hh.toNat - l.toNat:=by omega
 have h4:hh<=(cap:Int):=by omega
 have h5:0<=hh:=by omega
 rcases pt with⟨rfl,rfl⟩|⟨k,rfl⟩<;>rcases ve with⟨rfl,rfl⟩|⟨k',rfl⟩<;>
  simp[Instr.sliceAt,Instr.slice,run_underlying ht,Instr.sliceBounds,Instr.sliceBound,asIntOf,sizeOf,typeInfo,hi,bn,h0,h1,h4,h5,e1,e2]<;>omega
theorem WB (r:R B E w0 N σ a w G) {t e:TypeId} {i:TypeInfo} {x:Operand} {lo hi':Option Operand} {mx:MO} {sz:Nat} {l hh:Int} {z:ah} (ho:o.op=.slice t x lo hi' none) (hN:∀n,o.dst=some n->n<N) (eR:bd x mx=true)
  (ht:P.underlying t=some (.slice e)) (hi:P.info? e=some i) (bn:i.size=sz) (eC:0<sz) {len:Nat}
  (pt:(lo=none/\l=0)\/∃y my,lo=some y/\bd y my=true/\(σ.ev my).cJ=some l) (ve:(hi'=none/\hh=len)\/∃y my,hi'=some y/\bd y my=true/\(σ.ev my).cJ=some hh)
  (h0:0<=l) (h1:l<=hh) (h2:hh<=len)
  (hz:(∃n l0,σ.ev mx=.one (.sl n sz l0 len)/\(σ.h n).isSome=true/\z=.one (.sl n sz (l0+l.toNat) (hh - l).toNat))\/(∃xs,σ.ev mx=.one (.c (.list sz xs))/\len=xs.length/\z=.one (.c (.list sz ((xs.drop l.toNat).take (hh - l).toNat))))):
  o.wp P a w (Nx B E w0 N (σ.put o.dst z)) Q:=by
 obtain⟨x1,x2⟩:=r.ev eR
 have Ox:(lo.map a.eval=none/\l=0)\/∃k,lo.map a.eval=some (.int k l):=by
  rcases pt with⟨rfl,h⟩|⟨y,my,rfl,c1,c2⟩
  ·exact .inl ⟨rfl,h⟩
  ·obtain⟨k,hk⟩:=(r.ev c1).1.int c2
   exact .inr ⟨k,by simp[hk]⟩
 have Ol:(hi'.map a.eval=none/\hh=len)\/∃k,hi'.map a.eval=some (.int k hh):=by
  rcases ve with⟨rfl,h⟩|⟨y,my,rfl,c1,c2⟩
  ·exact .inl ⟨rfl,h⟩
  ·obtain⟨k,hk⟩:=(r.ev c1).1.int c2
   exact .inr ⟨k,by simp[hk]⟩
 rcases hz with⟨n,l0,e1,hs,rfl⟩|⟨xs,e1,rfl,rfl⟩
 ·rw[e1] at x1 x2
  have fC:eU (G.g n) sz l0 len (a.eval x):=(x1.dB (by simp)).1 (E9 hs)
  rcases fC with⟨aD,hv,rfl,rfl⟩|⟨aD,a',hv,gh,ha⟩
  ·have hr:=z8 (P:=P) (w:=w) (ya:=(G.g n).na) (len:=0) (cap:=(G.g n).cap) ht hi bn Ox Ol h0 h1 h2 (Nat.zero_le _)
   have fa:l.toNat=0:=by omega
   have hh0:(hh - l).toNat=0:=by omega
   refine gf r (v:=.slice (G.g n).na 0 (G.g n).cap) ?_ (RA.dS rfl fun _=>.inl ⟨aD,rfl,by omega,by omega⟩) (fun m hm=>x2 m hm) hN
   simp only[execOp,ho,hv,Option.map_none]
   simp only[fa,hh0,Nat.zero_mul] at hr
   have ha:(G.g n).na.map (fun x=>x.add 0)=(G.g n).na:=by
    cases (G.g n).na with
    |none=>rfl
    |some x=>simp[Addr.add]
   rw[ha] at hr
   simp[hr]
  ·have hr:=z8 (P:=P) (w:=w) (ya:=a') (len:=len) (cap:=(G.g n).cap - l0) ht hi bn Ox Ol h0 h1 h2 (by omega)
   refine gf r (by simp only[execOp,ho,hv,Option.map_none];simp[hr];rfl) (RA.dS rfl fun _=>.inr ⟨aD,_,by rw[Nat.sub_sub],by omega,fun hc=>?_⟩) (fun m hm=>x2 m hm) hN
   split
   ·rename_i bA
    have:l0=0/\l.toNat=0:=by omega
    rw[ha (.inr this.1),this.1,this.2]
   ·rename_i bA
    have bS:l0<(G.g n).cap:=by omega
    rw[ha (.inl bS)]
    simp only[Option.map_some,mY]
    rw[Nat.add_mul,Nat.add_assoc]
 ·rw[e1] at x1
  obtain⟨pc,p1,p2,p3,p4⟩:=x1.c
  cases pc with
  |int k n=>simp[PC.er] at p1
  |bool b=>simp[PC.er] at p1
  |list s' ya c py=>
   rw[PC.cN] at p1
   injection p1 with p0 p1
   subst p0
   have hlen:xs.length=py.length:=by rw[<-p1];simp
   have hv:a.eval x=.slice ya xs.length c:=by rw[<-p2,hlen];rfl
   have gh:xs.length<=c\/py=[]:=by
    cases p3 with
    |nil _ _ _ _=>exact .inr rfl
    |cons _ b oo _ _ g1 g2 g3 g4 g5 g6=>exact .inl (by rw[hlen];exact g2)
   have lr:xs.length<=c:=by
    rcases gh with hc|hc
    ·exact hc
    ·rw[hlen,hc];exact Nat.zero_le _
   have hr:=z8 (P:=P) (w:=w) (ya:=ya) (len:=xs.length) (cap:=c) ht hi bn Ox Ol h0 h1 h2 lr
   have afQ:((py.drop l.toNat).take (hh - l).toNat).length=(hh - l).toNat:=by simp;omega
   let cm:PC:=.list s' (if c=l.toNat then ya else ya.map (·.add (l.toNat*s'))) (c - l.toNat) ((py.drop l.toNat).take (hh - l).toNat)
   have eQ:Good w cm/\∀b,aK b cm->G.Im b:=by
    by_cases BT:(py.drop l.toNat).take (hh - l).toNat=[]
    ·constructor
     ·show Good w (.list _ _ _ _)
      rw[BT];exact .nil _ _ _ eC
     ·intro b hb
      rw[aK.jw,BT] at hb
      rcases hb with⟨hb,_⟩|⟨k,j,c,⟨e,he,_⟩,_⟩
      ·exact absurd rfl hb
      ·simp at he
    ·cases p3 with
     |nil _ _ _ _=>simp at BT
     |cons _ b oo _ _ g1 g2 g3 g4 g5 g6=>
      have dQ:0<(hh - l).toNat:=by
       rcases Nat.eq_zero_or_pos (hh - l).toNat with hz|hz
       ·rw[hz] at BT;simp at BT
       ·exact hz
      have av:c≠l.toNat:=by omega
      have aT:cm=.list s' (some (ad b (oo+l.toNat*s'))) (c - l.toNat) ((py.drop l.toNat).take (hh - l).toNat):=by
       show PC.list _ _ _ _=_
       rw[if_neg av];simp[mY]
      rw[aT]
      constructor
      ·refine .cons _ _ _ _ _ BT (by omega) g3 (fun e he=>g4 e (List.mem_of_mem_drop (List.mem_of_mem_take he))) (fun k j c' hk=>?_) (fun k j c' hk=>g6 _ _ _ (oW hk).1)
       have:=g5 _ _ _ (oW hk).1
       rw[Nat.add_mul] at this
       rw[<-this]
       congr 2
       omega
      ·intro x hx
       rw[aK.jw] at hx
       rcases hx with⟨_,o',ek⟩|⟨k,j,c',hk,hx⟩
       ·injection ek with ek
        rw[<-(jF ek).1]
        exact p4 b (.here _ _ _ _ g1)
       ·exact p4 x (.there _ _ _ _ _ _ c' (oW hk).1 hx)
   refine gf r (v:=cm.val) ?_ (RA.dS (PC.hY _) ⟨cm,?_,rfl,eQ.1,eQ.2⟩) (fun q hq=>absurd hq oH) hN
   ·simp only[execOp,ho,hv,Option.map_none]
    simp[hr,cm,PC.val,afQ]
   ·show PC.er (.list _ _ _ _)=_
    rw[PC.cN,List.map_take,List.map_drop,p1]
theorem yS {b x:Nat} {v:Value} {cur:Array Value} {e:TypeId} (hg:w.heap[b]? =some (.cells cur e (0,0))) (hc:w.cell? (ad b x)=some v):x<cur.size:=by
 have h2:w.cell? (ad b x)=cur[x]? :=by simp[World.cell?,ad,hg]
 rw[h2] at hc
 exact(Array.getElem?_eq_some_iff.1 hc).1
theorem adZ (r:R B E w0 N σ a w G) {t:TypeId} {i:TypeInfo} {x y:Operand} {mx my:MO} {sz n k au off:Nat} {ag:Bool} {vs cs:List ab} (ho:o.op=.store t x y) (hd:o.dst=none) (eR:bd x mx=true) (fo:bd y my=true)
  (hi:P.info? t=some i) (bn:i.size=sz) (eC:0<sz) (hp:σ.ev mx=.one (.ptr n k au off)) (hv:(σ.ev my).cells?=some (ag,vs)) (hl:vs.length=sz) (hn:σ.h n=some (.box cs)) (hk:k=0) (eP:off+sz<=cs.length):
  o.wp P a w (Nx B E w0 N (σ.cW n (.box (ci cs off vs)))) Q:=by
 obtain⟨x1,_⟩:=r.ev eR
 obtain⟨y1,y2⟩:=r.ev fo
 rw[hp] at x1
 subst hk
 obtain⟨p1,p2⟩:=(x1.dB (by simp)).1 (by rw[hn];simp)
 obtain⟨q1,⟨cur,et,q2⟩,q3⟩:=r.hr.box n cs hn
 have bA:=y1.cells hv
 have EM:(a.eval y).cells.toList.length=sz:=by rw[bA.1,hl]
 have zo:(G.g n).o+off+(a.eval y).cells.toList.length<=cur.size:=by
  obtain⟨v,v1,_⟩:=q3 (off+sz - 1) (cs[off+sz - 1]'(by omega)) (List.getElem?_eq_getElem _)
  have:=yS q2 v1
  omega
 have r':=r.amf hn bA (fun c hc m hm=>y2 m (ah.wO hv hc hm)) (by omega) q2 zo
 have aS:=FF (P:=P) (w:=w) (t:=t) (i:=i) (b:=(G.g n).b) (off:=(G.g n).o+off) (v:=a.eval y) (cur:=cur) (e:=et) hi (by rw[bn,<-EM];simp) q2 (by simpa using zo) (fun u hu=>by
  obtain⟨j,hj,Ey⟩:=List.getElem_of_mem hu
  have vf:j<vs.length:=by omega
  have:=(bA.2 j _ u (List.getElem?_eq_getElem vf) (by rw[List.getElem?_eq_getElem hj,Ey])).1
  exact this)
 refine Gu (w':=dY w (G.g n).b ((G.g n).o+off) (a.eval y).cells.toList cur) ?_ ⟨G,?_⟩
 ·simp only[execOp,ho,p2,Nat.zero_mul,Nat.add_zero]
  simp[Instr.storeAt,Instr.sureAddr,aS]
 ·rw[hd];exact r'
theorem ad3 (r:R B E w0 N σ a w G) {t:TypeId} {i:TypeInfo} {x y:Operand} {mx my:MO} {sz n k off:Nat} {ag gr:Bool} {m:Mode} {rs:Nat} {xs:List (List C)} {el:List C} {vs:List ab} {σ2:St} (ho:o.op=.store t x y) (hd:o.dst=none) (eR:bd x mx=true) (fo:bd y my=true)
  (hi:P.info? t=some i) (bn:i.size=sz) (eC:0<sz) (hp:σ.ev mx=.one (.ptr n k rs off)) (hv:(σ.ev my).cells?=some (ag,vs)) (hl:vs.length=sz) (hn:σ.h n=some (.row gr m rs xs)) (hk:xs[k]? =some el)
  (hx:mQ σ n gr m rs xs k off el vs=some σ2):o.wp P a w (Nx B E w0 N σ2) Q:=by
 obtain⟨x1,_⟩:=r.ev eR
 obtain⟨y1,y2⟩:=r.ev fo
 rw[hp] at x1
 obtain⟨p1,p2⟩:=(x1.dB (by simp)).1 (by rw[hn];simp)
 have hr:=r.hr.row n gr m rs xs hn
 obtain⟨⟨cur,et,q2⟩,l2,l3⟩:=hr.cZ p1
 have bA:=y1.cells hv
 have EM:(a.eval y).cells.toList.length=sz:=by rw[bA.1,hl]
 have mq:off+vs.length<=el.length:=by
  unfold mQ at hx
  split at hx
  ·cases hx
  ·rename_i f8 hs;exact(C9 hs).1
 have gN:∃pe,(G.g n).px[k]? =some pe/\pe.map PC.er=el:=by
  have bx:=hk
  rw[hr.er,List.getElem?_map] at bx
  cases hq:(G.g n).px[k]? with
  |none=>rw[hq] at bx;cases bx
  |some pe=>rw[hq] at bx;simp at bx;exact⟨pe,rfl,bx⟩
 obtain⟨pe,qM,tw⟩:=gN
 have vl:pe.length=el.length:=by rw[<-tw];simp
 have zo:(G.g n).o+k*rs+off+(a.eval y).cells.toList.length<=cur.size:=by
  have hc:=l2.2.1 k (off+sz - 1) (pe[off+sz - 1]'(by omega)) ⟨pe,qM,List.getElem?_eq_getElem _⟩
  have:=yS q2 hc
  omega
 obtain⟨G',r'⟩:=r.mQ hn p1 hk bA (fun c hc m hm=>y2 m (ah.wO hv hc hm)) hx q2 zo
 have aS:=FF (P:=P) (w:=w) (t:=t) (i:=i) (b:=(G.g n).b) (off:=(G.g n).o+k*rs+off) (v:=a.eval y) (cur:=cur) (e:=et) hi (by rw[bn,<-EM];simp) q2 (by simpa using zo) (fun u hu=>by
  obtain⟨j,hj,Ey⟩:=List.getElem_of_mem hu
  have vf:j<vs.length:=by omega
  exact(bA.2 j _ u (List.getElem?_eq_getElem vf) (by rw[List.getElem?_eq_getElem hj,Ey])).1)
 refine Gu (w':=dY w (G.g n).b ((G.g n).o+k*rs+off) (a.eval y).cells.toList cur) ?_ ⟨G',?_⟩
 ·simp only[execOp,ho,p2]
  simp[Instr.storeAt,Instr.sureAddr,aS]
 ·rw[hd];exact r'
def yT (places:List (Nat×Nat)):List (Nat×Operand)->List (Nat×Nat×MO)->Bool
 |[],[]=>true
 |(i,x)::ps,(off,sz,m)::ms=>(places[i]? ==some (off,sz))&&bd x m&&yT places ps ms
 |_,_=>false
theorem WM (r:R B E w0 N σ a w G) (places:List (Nat×Nat)):∀(ps:List (Nat×Operand)) (ms:List (Nat×Nat×MO)) (zs cs:List ab) (cur:Array Value),yT places ps ms=true->
  cb w G σ.h zs cur.toList->(∀c∈zs,∀m,c.ref m->σ.used m=true)->pZ σ.ev zs ms=some cs->
  ∃ie,Instr.fill (places.toArray[·]?) cur (ps.map fun p=>(p.1,a.eval p.2))=some ie/\cb w G σ.h cs ie.toList/\∀c∈cs,∀m,c.ref m->σ.used m=true
 |[],[],zs,cs,cur,_,hz,hr,hx=>by
  simp only[pZ] at hx
  injection hx with hx
  subst hx
  exact⟨cur,rfl,hz,hr⟩
 |(i,x)::ps,(off,sz,m)::ms,zs,cs,cur,hc,hz,hr,hx=>by
  simp only[yT,Bool.and_eq_true,beq_iff_eq] at hc
  obtain⟨⟨c1,c2⟩,c3⟩:=hc
  simp only[pZ] at hx
  split at hx
  ·rename_i ag vs hv
   split at hx
   ·rename_i bR
    obtain⟨h1,h2⟩:=bR
    obtain⟨y1,y2⟩:=r.ev c2
    have bA:=y1.cells hv
    have oq:(a.eval x).cells.size=sz:=by rw[<-Array.length_toList,bA.1,h1]
    have hzl:cur.size=zs.length:=by rw[<-Array.length_toList,hz.1]
    have zC:cb w G σ.h (ci zs off vs) (ci cur.toList off (a.eval x).cells.toList):=by
     have OV:(a.eval x).cells.toList.length=vs.length:=bA.1
     refine⟨?_,fun j c u hj hu=>?_⟩
     ·rw[KC (by rw[OV,hz.1];omega),KC (by omega),hz.1]
     ·rw[yg (by omega)] at hj
      rw[yg (by rw[OV,hz.1];omega),OV] at hu
      by_cases dw:off<=j/\j<off+vs.length
      ·rw[if_pos dw] at hj hu;exact bA.2 _ c u hj hu
      ·rw[if_neg dw] at hj hu;exact hz.2 _ c u hj hu
    obtain⟨ie,e1,e2,e3⟩:=WM r places ps ms (ci zs off vs) cs (ci cur.toList off (a.eval x).cells.toList).toArray c3 zC (fun c hc q hq=>by
     simp only[ci,List.mem_append] at hc
     rcases hc with(hc|hc)|hc
     ·exact hr c (List.mem_of_mem_take hc) q hq
     ·exact y2 q (ah.wO hv hc hq)
     ·exact hr c (List.mem_of_mem_drop hc) q hq) hx
    refine⟨ie,?_,e2,e3⟩
    simp only[List.getElem?_toArray] at e1
    simp only[List.map_cons,Instr.fill,List.getElem?_toArray,c1]
    rw[if_neg (by simp;omega),W7 _ _ _ (by omega)]
    exact e1
   ·cases hx
  ·cases hx
 |[],_::_,_,_,_,hc,_,_,_=>by simp[yT] at hc
 |(_,_)::_,[],_,_,_,hc,_,_,_=>by simp[yT] at hc
theorem adq (r:R B E w0 N σ a w G) {t:TypeId} {parts:Array (Nat×Operand)} {ms:List (Nat×Nat×MO)} {zs cs:List ab} {it:TypeInfo} {z:Value} {n7:Array Field} {places:List (Nat×Nat)} (ho:o.op=.build t parts) (hN:∀n,o.dst=some n->n<N)
  (xa:P.info? t=some it) (hz:it.zero=some z) (hu:P.underlying t=some (.struct n7)) (dz:n7.toList.mapM (fun f=>(P.info? f.type).map fun i=>(f.offset,i.size))=some places)
  (Yk:ta z.cells.toList zs=true) (hc:yT places parts.toList ms=true) (hx:pZ σ.ev zs ms=some cs):o.wp P a w (Nx B E w0 N (σ.put o.dst (.agg cs))) Q:=by
 obtain⟨z1,z2⟩:=Ia (w:=w) (G:=G) (h:=σ.h) Yk
 obtain⟨ie,e1,e2,e3⟩:=WM r places parts.toList ms zs cs z.cells hc z1 (fun c hc m hm=>absurd hm (z2 c hc m)) hx
 refine gf r (v:=.agg ie) ?_ ⟨ie.toList,by simp,e2⟩ (fun m hm=>by obtain⟨c,hc,hm⟩:=hm;exact e3 c hc m hm) hN
 have hb:P.built t (parts.map fun p=>(p.1,a.eval p.2)).toList=some ie:=by
  unfold Program.built
  simp only[xa,hu,hz,dz,Array.toList_map]
  exact e1
 have aS:=run_build (P:=P) w t _ ie hb
 simp only[execOp,ho]
 simp[aS]
theorem adP (r:R B E w0 N σ a w G) {f:FuncId} {xs:Array Operand} {ms:List MO} {cs:List ab} (ho:o.op=.makeFunc (.func f) #[] xs) (hN:∀n,o.dst=some n->n<N)
  (hc:ms.length=xs.size/\∀(j:Nat) (x:Operand) (m:MO),xs.toList[j]? =some x->ms[j]? =some m->bd x m=true)
  (hx:(ms.map σ.ev).mapM (fun v=>match v with|.one c=>if c.fR=true then none else some c|_=>none)=some cs) (hj:∀c∈cs,c≠ .aX):o.wp P a w (Nx B E w0 N (σ.put o.dst (.one (.fn f cs)))) Q:=by
 have bW:∀(ms:List MO) (xs:List Operand) (cs:List ab),ms.length=xs.length->(∀(j:Nat) (x:Operand) (m:MO),xs[j]? =some x->ms[j]? =some m->bd x m=true)->
   (ms.map σ.ev).mapM (fun v=>match v with|.one c=>if c.fR=true then none else some c|_=>none)=some cs->(∀c∈cs,c≠ .aX)->
   (xs.map a.eval).length=cs.length/\∀(j:Nat) (c:ab) (u:Value),cs[j]? =some c->(xs.map a.eval)[j]? =some u->(u.oneCell'=true/\fV w G σ.h c u)/\∀m,c.fL m->σ.used m=true:=by
  intro ms
  induction ms with
  |nil=>
   intro xs cs hl _ hx _
   have:xs=[]:=List.eq_nil_of_length_eq_zero (by simpa using hl.symm)
   subst this
   simp at hx
   subst hx
   simp
  |cons m ms ih=>
   intro xs cs hl dO hx hj
   match xs,hl with
   |x::xs,hl=>
    simp only[List.map_cons,List.mapM_cons,Option.bind_eq_bind,Option.pure_def] at hx
    cases hm:σ.ev m with
    |one c=>
     rw[hm] at hx
     by_cases hf:c.fR=true
     ·simp[hf] at hx
     ·simp only[hf,if_false,Bool.false_eq_true,Option.bind_some] at hx
      cases hr:(ms.map σ.ev).mapM (fun v=>match v with|.one c=>if c.fR=true then none else some c|_=>none) with
      |none=>rw[hr] at hx;simp at hx
      |some cs'=>
       rw[hr] at hx
       simp at hx
       subst hx
       obtain⟨i1,i2⟩:=ih xs cs' (by simpa using hl) (fun j x m h1 h2=>dO (j+1) x m h1 h2) hr (fun c hc=>hj c (by simp[hc]))
       refine⟨by simp[i1],fun j c' u iD hu=>?_⟩
       cases j with
       |zero=>
        simp at iD hu
        subst iD;subst hu
        obtain⟨e1,e2⟩:=r.ev (dO 0 x m rfl rfl)
        rw[hm] at e1 e2
        have w5:c.fR=false:=by simpa using hf
        have h1:=(e1.dB (hj c (by simp)))
        rw[qh _ _ _ _ _ w5] at h1
        exact⟨⟨h1.2,h1.1⟩,fun q hq=>e2 q (by show c.ref q;rw[ab.Rr c q w5];exact hq)⟩
       |succ j=>exact i2 j c' u (by simpa using iD) (by simpa using hu)
    |agg eO=>rw[hm] at hx;simp at hx
    |bk l=>rw[hm] at hx;simp at hx
 obtain⟨k1,k2⟩:=bW ms xs.toList cs (by simpa using hc.1) hc.2 hx hj
 have io:∀m,(ab.fn f cs).ref m->σ.used m=true:=fun m hm=>by
  obtain⟨c,ij,hm⟩:=hm
  obtain⟨j,iD,vf⟩:=List.getElem_of_mem ij
  have rU:j<(xs.toList.map a.eval).length:=by omega
  exact(k2 j c _ (by rw[List.getElem?_eq_getElem iD,vf]) (List.getElem?_eq_getElem rU)).2 m hm
 refine gf r (v:=.func (.func f) #[] (xs.toList.map a.eval).toArray) ?_ (RA.dS rfl ⟨xs.toList.map a.eval,rfl,k1,fun j c u h1 h2=>(k2 j c u h1 h2).1⟩) io hN
 simp only[execOp,ho,Instr.makeFunc]
 have:Array.map a.eval xs=(xs.toList.map a.eval).toArray:=by apply Array.ext';simp
 simp[this]
theorem rD {α:Type} {xs:List (List α)} {l k j:Nat} {c:α} (h:At (xs.drop l) k j c):At xs (l+k) j c:=by
 obtain⟨e,he,hj⟩:=h
 rw[List.getElem?_drop] at he
 exact⟨e,he,hj⟩
theorem Z9 {b l:Nat} {px:List (List PC)} (h:aP b (px.drop l)):aP b px:=by
 obtain⟨k,j,c,h1,h2⟩:=h
 exact⟨_,_,_,rD h1,h2⟩
theorem gF.drop {px:List (List PC)} (h:gF px) (l:Nat):gF (px.drop l):=
 ⟨fun k j c hk=>h.1 _ _ _ (rD hk),fun k j c k' j' c' b hk bx av=>h.2 _ _ _ _ _ _ b (rD hk) (rD bx) (fun e=>av (by injection e with e1 e2;rw[show k=k' by omega,e2]))⟩
theorem ad4 (r:R B E w0 N σ a w G) {n n0:Nat} {t e:TypeId} {i:TypeInfo} {x y:Operand} {mx my:MO} {sz:Nat} {l:Int} {m:Mode} {xs:List (List C)} {σ1:St} (ho:o.op=.slice t x (some y) none none) (hd:o.dst=some n) (hN:n<N)
  (eR:bd x mx=true) (fo:bd y my=true) (ht:P.underlying t=some (.slice e)) (hi:P.info? e=some i) (bn:i.size=sz) (eC:0<sz)
  (hx:σ.ev mx=.one (.sl n0 sz 0 xs.length)) (hl:(σ.ev my).cJ=some l) (h0:0<=l) (h1:l<=(xs.length:Int)) (hn:σ.h n0=some (.row true m sz xs)) (tp:(σ.del n0).ins n (.row true m sz (xs.drop l.toNat))=some σ1):
  o.wp P a w (Nx B E w0 N (σ1.put o.dst (.one (.sl n sz 0 (xs.length - l.toNat))))) Q:=by
 obtain⟨rY,rfl⟩:=iI tp
 obtain⟨x1,x2⟩:=r.ev eR
 rw[hx] at x1 x2
 obtain⟨kk,ey⟩:=(r.ev fo).1.int hl
 have bi:σ.h n0≠none:=by rw[hn];simp
 have fC:eU (G.g n0) sz 0 xs.length (a.eval x):=(x1.dB (by simp)).1 bi
 have H:=r.hr
 have hr:=H.row n0 true m sz xs hn
 have nq:xs.length=(G.g n0).px.length:=by rw[hr.er];simp
 have F:=jV.Fz H hn (fun _=>rfl)
 have hln:l.toNat<=xs.length:=by omega
 obtain⟨p,v,dC,aS,vm,dz,EL⟩:∃(p:PB) (v:Value),p.px=(G.g n0).px.drop l.toNat/\(execOp a.eval o).run P w=.ok (.value v) w/\(p.nl=true->p.px=[]/\p.cap=0)/\
   (p.nl=false->(G.g n0).nl=false/\p.b=(G.g n0).b/\p.o=(G.g n0).o+l.toNat*sz/\p.cap=(G.g n0).cap - l.toNat/\l.toNat<=(G.g n0).cap)/\eU p sz 0 (xs.length - l.toNat) v:=by
  rcases fC with⟨aD,hv,_,fa⟩|⟨aD,a',hv,gh,ha⟩
  ·have aS:=z8 (P:=P) (w:=w) (ya:=(G.g n0).na) (len:=0) (cap:=(G.g n0).cap) (lo:=some (.int kk l)) (hi':=none) (l:=l) (hh:=0) ht hi bn (.inr ⟨kk,rfl⟩) (.inl ⟨rfl,rfl⟩) h0 (by omega) (by omega) (Nat.zero_le _)
   obtain⟨vW,o7⟩:=hr.nl aD
   have o7:=o7 rfl
   have Oy:l.toNat=0:=by omega
   refine⟨⟨true,0,0,0,[],(G.g n0).na⟩,.slice (G.g n0).na 0 0,by rw[vW];simp,?_,fun _=>⟨rfl,rfl⟩,(fun h=>by cases h),.inl ⟨rfl,rfl,rfl,by omega⟩⟩
   simp only[execOp,ho,hv,Option.map_none,Option.map_some,ey]
   rw[o7,Oy] at aS
   simp only[if_true] at aS
   simp[aS,o7]
   omega
  ·have aS:=z8 (P:=P) (w:=w) (ya:=a') (len:=xs.length) (cap:=(G.g n0).cap - 0) (lo:=some (.int kk l)) (hi':=none) (l:=l) (hh:=xs.length) ht hi bn (.inr ⟨kk,rfl⟩) (.inl ⟨rfl,rfl⟩) h0 h1 (by omega) (by omega)
   have lm:=ha (.inr rfl)
   have e2:((xs.length:Int) - l).toNat=xs.length - l.toNat:=by omega
   rw[e2,Nat.sub_zero] at aS
   by_cases hc:(G.g n0).cap=l.toNat
   ·have e3:xs.length - l.toNat=0:=by omega
    rw[if_pos hc,e3] at aS
    refine⟨⟨true,0,0,0,[],a'⟩,.slice a' 0 0,?_,?_,fun _=>⟨rfl,rfl⟩,(fun h=>by cases h),.inl ⟨rfl,rfl,rfl,e3⟩⟩
    ·rw[List.drop_eq_nil_of_le (by omega)]
    ·simp only[execOp,ho,hv,Option.map_none,Option.map_some,ey,Nat.sub_zero]
     rw[hc,Nat.sub_self] at aS
     simp[aS,hc]
   ·rw[if_neg hc,lm] at aS
    simp only[Option.map_some,mY,Nat.zero_mul,Nat.add_zero] at aS
    refine⟨⟨false,(G.g n0).b,(G.g n0).o+l.toNat*sz,(G.g n0).cap - l.toNat,(G.g n0).px.drop l.toNat,none⟩,.slice (some (ad (G.g n0).b ((G.g n0).o+l.toNat*sz))) (xs.length - l.toNat) ((G.g n0).cap - l.toNat),rfl,?_,(fun h=>by cases h),fun _=>⟨aD,rfl,rfl,rfl,by omega⟩,.inr ⟨rfl,some (ad (G.g n0).b ((G.g n0).o+l.toNat*sz)),by simp,by simp;omega,fun _=>by simp⟩⟩
    simp only[execOp,ho,hv,Option.map_none,Option.map_some,ey,Nat.sub_zero,lm,Nat.zero_mul,Nat.add_zero]
    simp[aS]
 have dJ:∀b,aP b p.px->aP b (G.g n0).px:=fun b hb=>Z9 (by rw[<-dC];exact hb)
 have H1:HR B E w G (ao σ.h n0 none) σ.used []:=H.del n0
 have K1:aR w G σ.h (fun q=>σ.used q=true) w G (ao σ.h n0 none):=aR.del n0 _
 have Hn:HR B E w ⟨G.Im,ao G.g n p⟩ (ao (ao σ.h n0 none) n (some (.row true m sz (xs.drop l.toNat)))) (ao σ.used n true) []:=by
  refine H1.insert (w':=w) (p:=p) rY (fun _ _=>rfl) (Nat.le_refl _) (fun hf=>?_) (fun cs c q hb=>by cases hb) ?_ ?_ ?_ (fun gr m sz xs _ _ i pc b hi=>by simp at hi)
  ·obtain⟨q1,q2,q3,q4,q5⟩:=dz hf
   obtain⟨o1,o2,o3⟩:=H.own n0 bi q1
   rw[q2]
   refine⟨⟨o1,fun q hq rW=>?_,fun q gr m' ax ak hq hb=>?_⟩,o2,o3⟩
   ·obtain⟨d1,d2⟩:=tc hq
    exact H.inj q n0 d1 bi d2 rW q1
   ·exact H.nc bi q1 (kY hq).1 hb rfl
  ·refine⟨hr.pos,by rw[dC,hr.er,List.map_drop],fun h=>⟨(vm h).1,fun _=>(vm h).2⟩,fun hf=>?_,fun hf _=>?_,?_,fun _ hm k c hk=>hr.nr rfl hm _ _ (rD (by rw[<-dC];exact hk))⟩
   ·obtain⟨q1,q2,q3,q4,q5⟩:=dz hf
    obtain⟨l1,⟨l2,l3,l4⟩,l5⟩:=hr.cZ q1
    rw[q2,q3,q4,dC]
    refine⟨l1,⟨fun e he=>l2 e (List.mem_of_mem_drop he),fun k j c hk=>?_,fun k j c hk=>l4 _ _ _ (rD hk)⟩,by simp;omega⟩
    have:=l3 _ _ _ (rD hk)
    rw[<-this]
    congr 2
    rw[Nat.add_mul]
    omega
   ·obtain⟨q1,q2,q3,q4,q5⟩:=dz hf
    obtain⟨r2,cur,ee,r3,r4⟩:=hr.room q1 rfl
    unfold AY
    rw[q2,q3,q4]
    refine⟨by omega,cur,ee,r3,?_⟩
    rw[r4,Nat.add_assoc,<-Nat.add_mul]
    congr 2
    omega
   ·have hm:=hr.mode
    show yJ B E w _ p.px m
    cases m with
    |aG=>exact fun b hb=>hm b (dJ b hb)
    |af=>exact⟨fun b hb=>hm.1 b (dJ b hb),by rw[dC];exact hm.2.drop _⟩
    |live=>exact⟨fun b hb=>hm.1 b (dJ b hb),by rw[dC];exact hm.2.drop _⟩
  ·intro gr m' ax ak hb gi q aW mo gm eT h0 fY b bL
   injection hb with _ hb _ _
   subst hb
   exact F.eV gi q aW mo gm eT h0 fY b (dJ b bL)
  ·intro gr ax ak hb b bL
   injection hb with _ hb _ _
   exact⟨fun hf=>by rw[(dz hf).2.1];exact H.nc bi (dz hf).1 hn (dJ b bL),fun q h0 rW=>F.live hb b (dJ b bL) q h0 rW⟩
 have r':R B E w0 N {(σ.del n0) with h:=ao (σ.del n0).h n (some (.row true m sz (xs.drop l.toNat))),used:=ao (σ.del n0).used n true} a w ⟨G.Im,ao G.g n p⟩:=
  r.step rfl (fun q hq=>lQ n q hq) (aR.trans (u2:=fun q=>σ.used q=true) (fun _ h=>h) K1 (aR.insert H1 rY (fun _ _=>rfl))) Hn r.fr
 have lz:v.oneCell'=true:=by rcases EL with⟨_,h,_⟩|⟨_,_,h,_⟩<;>rw[h]<;>rfl
 have dc:RC w ⟨G.Im,ao G.g n p⟩ (ao (ao σ.h n0 none) n (some (.row true m sz (xs.drop l.toNat)))) (.sl n sz 0 (xs.length - l.toNat)) v:=fun _=>by simpa[bo] using EL
 refine jk (v:=v) (w':=w) aS ⟨_,r'.put (RA.dS lz dc) (fun q hq=>by have db:q=n:=hq;subst db;exact bo _ _ _) (fun q hq=>by rw[hd] at hq;injection hq with hq;omega)⟩
end
end Go.Am
