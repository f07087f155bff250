/- Am15: indexes, lengths, slices, stores, struct literals as operations. No condition. -/
import Derived.Test.YtbgmbplglejidaaAm14
set_option linter.unusedVariables false
namespace Go.Am
section
variable {B:Nat} {E:Ex} {w0 w w':World} {G G':Gh} {h h':Nat->Option ar} {used used':Nat->Bool} {tk:List PC} {N:Nat}
variable {P:Program} {o:Oper} {a:Act} {σ σ':St} {Q:Exit->Act->World->Prop}
theorem Kv {n:Nat} (hs:(h n).isSome=true):h n≠none:=by intro hh;rw[hh] at hs;cases hs
theorem UP {t e:TypeId} {i:TypeInfo} {sz b off len cap:Nat} {kk:IntKind} {q:Int} (ht:P.underlying t=some (.slice e)) (hi:P.info? e=some i) (bP:i.size=sz) (h0:0<=q) (h1:q<len):
  (Instr.indexAt t (.slice (some (ad b off)) len cap) (.int kk q)).run P w=.ok (.pointer (some (ad b (off+q.toNat*sz)))) w:=by
 simp[Instr.indexAt,run_underlying ht,asIntOf,h0,h1,sizeOf,typeInfo,hi,bP,oI]
theorem Zs (r:R B E w0 N σ a w G) {t e:TypeId} {i:TypeInfo} {x y:Operand} {mx my:MO} {sz:Nat} {q:Int} {z:ak} (ho:o.op=.indexAddr t x y) (hN:∀n,o.dst=some n->n<N) (iy:bF x mx=true) (ku:bF y my=true)
  (ht:P.underlying t=some (.slice e)) (hi:P.info? e=some i) (bP:i.size=sz) (hq:(σ.ev my).dn=some q) (h0:0<=q)
  (hz:(∃n lo len,σ.ev mx=.one (.sl n sz lo len)/\q<(len:Int)/\(σ.h n).isSome=true/\z=.one (.ptr n (lo+q.toNat) sz 0))\/(∃xs el,σ.ev mx=.one (.c (.list sz xs))/\xs[q.toNat]? =some el/\z=.one (.cH el 0))):
  o.wp P a w (Nx B E w0 N (σ.put o.dst z)) Q:=by
 obtain⟨x1,x2⟩:=r.ev iy
 obtain⟨kk,ey⟩:=(r.ev ku).1.int hq
 rcases hz with⟨n,lo,len,e1,h1,hs,rfl⟩|⟨xs,el,e1,h1,rfl⟩
 ·rw[e1] at x1 x2
  have gI:jO (G.g n) sz lo len (a.eval x):=(x1.fS (by simp)).1 (Kv hs)
  rcases gI with⟨_,_,_,hl⟩|⟨aN,a',hv,jQ,ha⟩
  ·omega
  ·have pN:=ha (.inl (by omega))
   subst pN
   refine gS r (v:=.pointer (some (ad (G.g n).b ((G.g n).o+lo*sz+q.toNat*sz)))) ?_ ?_ (fun m hm=>x2 m hm) hN
   ·simp only[execOp,ho,hv,ey]
    simp[UP ht hi bP h0 h1]
   ·exact RA.gD rfl fun _=>⟨aN,by rw[Nat.add_mul];congr 3;omega⟩
 ·rw[e1] at x1
  obtain⟨pc,p1,p2,p3,p4⟩:=x1.c
  cases pc with
  |int k n=>simp[PC.er] at p1
  |bool b=>simp[PC.er] at p1
  |list s' ya c py=>
   rw[PC.dR] at p1
   injection p1 with p0 p1
   subst p0
   have tz:∃pe,py[q.toNat]? =some pe/\pe.map PC.er=el:=by
    rw[<-p1,List.getElem?_map] at h1
    cases hp:py[q.toNat]? with
    |none=>rw[hp] at h1;cases h1
    |some pe=>rw[hp] at h1;simp at h1;exact⟨pe,rfl,h1⟩
   obtain⟨pe,vb,oQ⟩:=tz
   have bK:q.toNat<py.length:=(List.getElem?_eq_some_iff.1 vb).1
   cases p3 with
   |nil _ _ _ _=>simp at bK
   |cons _ b oo _ _ g1 g2 g3 g4 g5 g6=>
    have d9:q<(py.length:Int):=by omega
    refine gS r (v:=.pointer (some (ad b (oo+q.toNat*s')))) ?_ ?_ (fun m hm=>absurd hm (by simp[ak.ref,aj.ref,aj.iY])) hN
    ·simp only[execOp,ho,<-p2,PC.val,ey]
     simp[UP ht hi bP h0 d9]
    ·refine RA.gD rfl ⟨b,oo+q.toNat*s',pe,by simp,oQ,p4 b (.here _ _ _ _ g1),fun j c hj=>?_⟩
     exact⟨g5 _ _ _ ⟨pe,vb,hj⟩,g6 _ _ _ ⟨pe,vb,hj⟩,fun b' be=>p4 b' (.there _ _ _ _ _ _ c ⟨pe,vb,hj⟩ be)⟩
theorem JC (r:R B E w0 N σ a w G) {t e:TypeId} {x:Operand} {mx:MO} {len:Nat} (ho:o.op=.call {callee:=.builtin .len,args:=#[x],argTypes:=#[t]}) (hN:∀n,o.dst=some n->n<N) (hm:bF x mx=true)
  (ht:P.underlying t=some (.slice e))
  (hz:(∃n sz lo,σ.ev mx=.one (.sl n sz lo len)/\(σ.h n).isSome=true)\/(∃sz xs,σ.ev mx=.one (.c (.list sz xs))/\len=xs.length)\/(∃sz,σ.ev mx=.one (.nil sz)/\len=0)\/
   (∃n k aE off sz l s ys,σ.ev mx=.one (.bE n k aE off sz l)/\cq σ.h (.bE n k aE off sz l)=some (.list s ys)/\len=ys.length)):
  o.wp P a w (Nx B E w0 N (σ.put o.dst (.one (.c (.int .i64 len))))) Q:=by
 obtain⟨x1,x2⟩:=r.ev hm
 have hv:∃a' c,a.eval x=.slice a' len c:=by
  rcases hz with⟨n,sz,lo,e1,hs⟩|⟨sz,xs,e1,rfl⟩|⟨sz,e1,rfl⟩|⟨n,k,aE,off,sz,l,s,ys,e1,Qh,rfl⟩
  ·rw[e1] at x1
   have gI:jO (G.g n) sz lo len (a.eval x):=(x1.fS (by simp)).1 (Kv hs)
   rcases gI with⟨_,hv,_,rfl⟩|⟨_,a',hv,_,_⟩
   ·exact⟨_,_,hv⟩
   ·exact⟨_,_,hv⟩
  ·rw[e1] at x1
   obtain⟨pc,p1,p2,_⟩:=x1.c
   cases pc with
   |int k n=>simp[PC.er] at p1
   |bool b=>simp[PC.er] at p1
   |list s' ya c py=>
    rw[PC.dR] at p1
    injection p1 with _ p1
    refine⟨ya,c,?_⟩
    rw[<-p2,<-p1];simp[PC.val]
  ·rw[e1] at x1
   have eS:a.eval x=.slice none 0 0:=(x1.fS (by simp)).1
   exact⟨_,_,eS⟩
  ·rw[e1] at x1
   obtain⟨pc,p1,p2,_⟩:=r.hr.cq Qh (x1.fS (by simp)).1
   cases pc with
   |int k n=>simp[PC.er] at p1
   |bool b=>simp[PC.er] at p1
   |list s' ya c py=>
    rw[PC.dR] at p1
    injection p1 with _ p1
    refine⟨ya,c,?_⟩
    rw[<-p2,<-p1];simp[PC.val]
 obtain⟨a',c,hv⟩:=hv
 refine gS r (v:=.int .i64 len) ?_ (RA.of_int _ _) (fun q hq=>absurd hq rj) hN
 simp[execOp,ho,resolve,invoke,builtin,hv,Builtin.len_,run_underlying ht,goInt]
theorem Gc {t e:TypeId} {i:TypeInfo} {sz:Nat} {ya:Option Addr} {len cap:Nat} {lo hi':Option Value} {l hh:Int} (ht:P.underlying t=some (.slice e)) (hi:P.info? e=some i) (bP:i.size=sz)
  (wX:(lo=none/\l=0)\/∃k,lo=some (.int k l)) (u5:(hi'=none/\hh=len)\/∃k,hi'=some (.int k hh)) (h0:0<=l) (h1:l<=hh) (h2:hh<=len) (h3:len<=cap):
  (Instr.sliceAt t (.slice ya len cap) lo hi' none).run P w=.ok (.slice (if cap=l.toNat then ya else ya.map (·.add (l.toNat*sz))) (hh - l).toNat (cap - l.toNat)) w:=by
 have e1:(hh.toNat:Int)=hh:=Int.toNat_of_nonneg (by omega)
 have e2:(hh - l).toNat=hh.toNat - l.toNat:=by omega
 have h4:hh<=(cap:Int):=by omega
 have h5:0<=hh:=by omega
 rcases wX with⟨rfl,rfl⟩|⟨k,rfl⟩<;>rcases u5 with⟨rfl,rfl⟩|⟨k',rfl⟩<;>
  simp[Instr.sliceAt,Instr.slice,run_underlying ht,Instr.sliceBounds,Instr.sliceBound,asIntOf,sizeOf,typeInfo,hi,bP,h0,h1,h4,h5,e1,e2]<;>omega
theorem Zx (r:R B E w0 N σ a w G) {t e:TypeId} {i:TypeInfo} {x:Operand} {lo hi':Option Operand} {mx:MO} {sz:Nat} {l hh:Int} {z:ak} (ho:o.op=.slice t x lo hi' none) (hN:∀n,o.dst=some n->n<N) (iy:bF x mx=true)
  (ht:P.underlying t=some (.slice e)) (hi:P.info? e=some i) (bP:i.size=sz) (jB:0<sz) {len:Nat}
  (wX:(lo=none/\l=0)\/∃y my,lo=some y/\bF y my=true/\(σ.ev my).dn=some l) (u5:(hi'=none/\hh=len)\/∃y my,hi'=some y/\bF y my=true/\(σ.ev my).dn=some hh)
  (h0:0<=l) (h1:l<=hh) (h2:hh<=len)
  (hz:(∃n l0,σ.ev mx=.one (.sl n sz l0 len)/\(σ.h n).isSome=true/\z=.one (.sl n sz (l0+l.toNat) (hh - l).toNat))\/(∃xs,σ.ev mx=.one (.c (.list sz xs))/\len=xs.length/\z=.one (.c (.list sz ((xs.drop l.toNat).take (hh - l).toNat))))):
  o.wp P a w (Nx B E w0 N (σ.put o.dst z)) Q:=by
 obtain⟨x1,x2⟩:=r.ev iy
 have PU:(lo.map a.eval=none/\l=0)\/∃k,lo.map a.eval=some (.int k l):=by
  rcases wX with⟨rfl,h⟩|⟨y,my,rfl,c1,c2⟩
  ·exact .inl ⟨rfl,h⟩
  ·obtain⟨k,hk⟩:=(r.ev c1).1.int c2
   exact .inr ⟨k,by simp[hk]⟩
 have PJ:(hi'.map a.eval=none/\hh=len)\/∃k,hi'.map a.eval=some (.int k hh):=by
  rcases u5 with⟨rfl,h⟩|⟨y,my,rfl,c1,c2⟩
  ·exact .inl ⟨rfl,h⟩
  ·obtain⟨k,hk⟩:=(r.ev c1).1.int c2
   exact .inr ⟨k,by simp[hk]⟩
 rcases hz with⟨n,l0,e1,hs,rfl⟩|⟨xs,e1,rfl,rfl⟩
 ·rw[e1] at x1 x2
  have gI:jO (G.g n) sz l0 len (a.eval x):=(x1.fS (by simp)).1 (Kv hs)
  rcases gI with⟨aN,hv,rfl,rfl⟩|⟨aN,a',hv,jQ,ha⟩
  ·have hr:=Gc (P:=P) (w:=w) (ya:=(G.g n).na) (len:=0) (cap:=(G.g n).cap) ht hi bP PU PJ h0 h1 h2 (Nat.zero_le _)
   have lK:l.toNat=0:=by omega
   have hh0:(hh - l).toNat=0:=by omega
   refine gS r (v:=.slice (G.g n).na 0 (G.g n).cap) ?_ (RA.gD rfl fun _=>.inl ⟨aN,rfl,by omega,by omega⟩) (fun m hm=>x2 m hm) hN
   simp only[execOp,ho,hv,Option.map_none]
   simp only[lK,hh0,Nat.zero_mul] at hr
   have ha:(G.g n).na.map (fun x=>x.add 0)=(G.g n).na:=by
    cases (G.g n).na with
    |none=>rfl
    |some x=>simp[Addr.add]
   rw[ha] at hr
   simp[hr]
  ·have hr:=Gc (P:=P) (w:=w) (ya:=a') (len:=len) (cap:=(G.g n).cap - l0) ht hi bP PU PJ h0 h1 h2 (by omega)
   refine gS r (by simp only[execOp,ho,hv,Option.map_none];simp[hr];rfl) (RA.gD rfl fun _=>.inr ⟨aN,_,by rw[Nat.sub_sub],by omega,fun hc=>?_⟩) (fun m hm=>x2 m hm) hN
   split
   ·rename_i bT
    have:l0=0/\l.toNat=0:=by omega
    rw[ha (.inr this.1),this.1,this.2]
   ·rename_i bT
    have bK:l0<(G.g n).cap:=by omega
    rw[ha (.inl bK)]
    simp only[Option.map_some,oI]
    rw[Nat.add_mul,Nat.add_assoc]
 ·rw[e1] at x1
  obtain⟨pc,p1,p2,p3,p4⟩:=x1.c
  cases pc with
  |int k n=>simp[PC.er] at p1
  |bool b=>simp[PC.er] at p1
  |list s' ya c py=>
   rw[PC.dR] at p1
   injection p1 with p0 p1
   subst p0
   have hlen:xs.length=py.length:=by rw[<-p1];simp
   have hv:a.eval x=.slice ya xs.length c:=by rw[<-p2,hlen];rfl
   have jQ:xs.length<=c\/py=[]:=by
    cases p3 with
    |nil _ _ _ _=>exact .inr rfl
    |cons _ b oo _ _ g1 g2 g3 g4 g5 g6=>exact .inl (by rw[hlen];exact g2)
   have wR:xs.length<=c:=by
    rcases jQ with hc|hc
    ·exact hc
    ·rw[hlen,hc];exact Nat.zero_le _
   have hr:=Gc (P:=P) (w:=w) (ya:=ya) (len:=xs.length) (cap:=c) ht hi bP PU PJ h0 h1 h2 wR
   have ai5:((py.drop l.toNat).take (hh - l).toNat).length=(hh - l).toNat:=by simp;omega
   let dq:PC:=.list s' (if c=l.toNat then ya else ya.map (·.add (l.toNat*s'))) (c - l.toNat) ((py.drop l.toNat).take (hh - l).toNat)
   have ie:Good w dq/\∀b,aX b dq->G.Im b:=by
    by_cases B5:(py.drop l.toNat).take (hh - l).toNat=[]
    ·constructor
     ·show Good w (.list _ _ _ _)
      rw[B5];exact .nil _ _ _ jB
     ·intro b hb
      rw[aX.lm,B5] at hb
      rcases hb with⟨hb,_⟩|⟨k,j,c,⟨e,he,_⟩,_⟩
      ·exact absurd rfl hb
      ·simp at he
    ·cases p3 with
     |nil _ _ _ _=>simp at B5
     |cons _ b oo _ _ g1 g2 g3 g4 g5 g6=>
      have dU:0<(hh - l).toNat:=by
       rcases Nat.eq_zero_or_pos (hh - l).toNat with hz|hz
       ·rw[hz] at B5;simp at B5
       ·exact hz
      have aD:c≠l.toNat:=by omega
      have bc:dq=.list s' (some (ad b (oo+l.toNat*s'))) (c - l.toNat) ((py.drop l.toNat).take (hh - l).toNat):=by
       show PC.list _ _ _ _=_
       rw[if_neg aD];simp[oI]
      rw[bc]
      constructor
      ·refine .cons _ _ _ _ _ B5 (by omega) g3 (fun e he=>g4 e (List.mem_of_mem_drop (List.mem_of_mem_take he))) (fun k j c' hk=>?_) (fun k j c' hk=>g6 _ _ _ (pC hk).1)
       have:=g5 _ _ _ (pC hk).1
       rw[Nat.add_mul] at this
       rw[<-this]
       congr 2
       omega
      ·intro x hx
       rw[aX.lm] at hx
       rcases hx with⟨_,o',gU⟩|⟨k,j,c',hk,hx⟩
       ·injection gU with gU
        rw[<-(nG gU).1]
        exact p4 b (.here _ _ _ _ g1)
       ·exact p4 x (.there _ _ _ _ _ _ c' (pC hk).1 hx)
   refine gS r (v:=dq.val) ?_ (RA.gD (PC.lx _) ⟨dq,?_,rfl,ie.1,ie.2⟩) (fun q hq=>absurd hq rj) hN
   ·simp only[execOp,ho,hv,Option.map_none]
    simp[hr,dq,PC.val,ai5]
   ·show PC.er (.list _ _ _ _)=_
    rw[PC.dR,List.map_take,List.map_drop,p1]
theorem Em {b x:Nat} {v:Value} {cur:Array Value} {e:TypeId} (hg:w.heap[b]? =some (.cells cur e (0,0))) (hc:w.cell? (ad b x)=some v):x<cur.size:=by
 have h2:w.cell? (ad b x)=cur[x]? :=by simp[World.cell?,ad,hg]
 rw[h2] at hc
 exact(Array.getElem?_eq_some_iff.1 hc).1
theorem ag3 (r:R B E w0 N σ a w G) {t:TypeId} {i:TypeInfo} {x y:Operand} {mx my:MO} {sz n k aE off:Nat} {ag:Bool} {vs cs:List aj} (ho:o.op=.store t x y) (hd:o.dst=none) (iy:bF x mx=true) (ku:bF y my=true)
  (hi:P.info? t=some i) (bP:i.size=sz) (jB:0<sz) (hp:σ.ev mx=.one (.ptr n k aE off)) (hv:(σ.ev my).cells?=some (ag,vs)) (hl:vs.length=sz) (hn:σ.h n=some (.box cs)) (hk:k=0) (fW:off+sz<=cs.length):
  o.wp P a w (Nx B E w0 N (σ.dB n (.box (cv cs off vs)))) Q:=by
 obtain⟨x1,_⟩:=r.ev iy
 obtain⟨y1,y2⟩:=r.ev ku
 rw[hp] at x1
 subst hk
 obtain⟨p1,p2⟩:=(x1.fS (by simp)).1 (by rw[hn];simp)
 obtain⟨q1,⟨cur,et,q2⟩,q3⟩:=r.hr.box n cs hn
 have bT:=y1.cells hv
 have Ft:(a.eval y).cells.toList.length=sz:=by rw[bT.1,hl]
 have E1:(G.g n).o+off+(a.eval y).cells.toList.length<=cur.size:=by
  obtain⟨v,v1,_⟩:=q3 (off+sz - 1) (cs[off+sz - 1]'(by omega)) (List.getElem?_eq_getElem _)
  have:=Em q2 v1
  omega
 have r':=r.ast hn bT (fun c hc m hm=>y2 m (ak.yy hv hc hm)) (by omega) q2 E1
 have bY:=Lm (P:=P) (w:=w) (t:=t) (i:=i) (b:=(G.g n).b) (off:=(G.g n).o+off) (v:=a.eval y) (cur:=cur) (e:=et) hi (by rw[bP,<-Ft];simp) q2 (by simpa using E1) (fun u hu=>by
  obtain⟨j,hj,Fc⟩:=List.getElem_of_mem hu
  have u6:j<vs.length:=by omega
  have:=(bT.2 j _ u (List.getElem?_eq_getElem u6) (by rw[List.getElem?_eq_getElem hj,Fc])).1
  exact this)
 refine Mb (w':=eX w (G.g n).b ((G.g n).o+off) (a.eval y).cells.toList cur) ?_ ⟨G,?_⟩
 ·simp only[execOp,ho,p2,Nat.zero_mul,Nat.add_zero]
  simp[Instr.storeAt,Instr.sureAddr,bY]
 ·rw[hd];exact r'
theorem ag5 (r:R B E w0 N σ a w G) {t:TypeId} {i:TypeInfo} {x y:Operand} {mx my:MO} {sz n k off:Nat} {ag gr:Bool} {m:Mode} {rs:Nat} {xs:List (List C)} {el:List C} {vs:List aj} {σ2:St} (ho:o.op=.store t x y) (hd:o.dst=none) (iy:bF x mx=true) (ku:bF y my=true)
  (hi:P.info? t=some i) (bP:i.size=sz) (jB:0<sz) (hp:σ.ev mx=.one (.ptr n k rs off)) (hv:(σ.ev my).cells?=some (ag,vs)) (hl:vs.length=sz) (hn:σ.h n=some (.row gr m rs xs)) (hk:xs[k]? =some el)
  (hx:nC σ n gr m rs xs k off el vs=some σ2):o.wp P a w (Nx B E w0 N σ2) Q:=by
 obtain⟨x1,_⟩:=r.ev iy
 obtain⟨y1,y2⟩:=r.ev ku
 rw[hp] at x1
 obtain⟨p1,p2⟩:=(x1.fS (by simp)).1 (by rw[hn];simp)
 have hr:=r.hr.row n gr m rs xs hn
 obtain⟨⟨cur,et,q2⟩,l2,l3⟩:=hr.dW p1
 have bT:=y1.cells hv
 have Ft:(a.eval y).cells.toList.length=sz:=by rw[bT.1,hl]
 have Cd:off+vs.length<=el.length:=by
  unfold nC at hx
  split at hx
  ·cases hx
  ·rename_i fB hs;exact(GH hs).1
 have tz:∃pe,(G.g n).px[k]? =some pe/\pe.map PC.er=el:=by
  have cI:=hk
  rw[hr.er,List.getElem?_map] at cI
  cases hq:(G.g n).px[k]? with
  |none=>rw[hq] at cI;cases cI
  |some pe=>rw[hq] at cI;simp at cI;exact⟨pe,rfl,cI⟩
 obtain⟨pe,wZ,w4⟩:=tz
 have Kf:pe.length=el.length:=by rw[<-w4];simp
 have E1:(G.g n).o+k*rs+off+(a.eval y).cells.toList.length<=cur.size:=by
  have hc:=l2.2.1 k (off+sz - 1) (pe[off+sz - 1]'(by omega)) ⟨pe,wZ,List.getElem?_eq_getElem _⟩
  have:=Em q2 hc
  omega
 obtain⟨G',r'⟩:=r.nC hn p1 hk bT (fun c hc m hm=>y2 m (ak.yy hv hc hm)) hx q2 E1
 have bY:=Lm (P:=P) (w:=w) (t:=t) (i:=i) (b:=(G.g n).b) (off:=(G.g n).o+k*rs+off) (v:=a.eval y) (cur:=cur) (e:=et) hi (by rw[bP,<-Ft];simp) q2 (by simpa using E1) (fun u hu=>by
  obtain⟨j,hj,Fc⟩:=List.getElem_of_mem hu
  have u6:j<vs.length:=by omega
  exact(bT.2 j _ u (List.getElem?_eq_getElem u6) (by rw[List.getElem?_eq_getElem hj,Fc])).1)
 refine Mb (w':=eX w (G.g n).b ((G.g n).o+k*rs+off) (a.eval y).cells.toList cur) ?_ ⟨G',?_⟩
 ·simp only[execOp,ho,p2]
  simp[Instr.storeAt,Instr.sureAddr,bY]
 ·rw[hd];exact r'
def yz (places:List (Nat×Nat)):List (Nat×Operand)->List (Nat×Nat×MO)->Bool
 |[],[]=>true
 |(i,x)::ps,(off,sz,m)::ms=>(places[i]? ==some (off,sz))&&bF x m&&yz places ps ms
 |_,_=>false
theorem ZI (r:R B E w0 N σ a w G) (places:List (Nat×Nat)):∀(ps:List (Nat×Operand)) (ms:List (Nat×Nat×MO)) (zs cs:List aj) (cur:Array Value),yz places ps ms=true->
  cZ w G σ.h zs cur.toList->(∀c∈zs,∀m,c.ref m->σ.used m=true)->qp σ.ev zs ms=some cs->
  ∃jP,Instr.fill (places.toArray[·]?) cur (ps.map fun p=>(p.1,a.eval p.2))=some jP/\cZ w G σ.h cs jP.toList/\∀c∈cs,∀m,c.ref m->σ.used m=true
 |[],[],zs,cs,cur,_,hz,hr,hx=>by
  simp only[qp] at hx
  injection hx with hx
  subst hx
  exact⟨cur,rfl,hz,hr⟩
 |(i,x)::ps,(off,sz,m)::ms,zs,cs,cur,hc,hz,hr,hx=>by
  simp only[yz,Bool.and_eq_true,beq_iff_eq] at hc
  obtain⟨⟨c1,c2⟩,c3⟩:=hc
  simp only[qp] at hx
  split at hx
  ·rename_i ag vs hv
   split at hx
   ·rename_i cV
    obtain⟨h1,h2⟩:=cV
    obtain⟨y1,y2⟩:=r.ev c2
    have bT:=y1.cells hv
    have sn:(a.eval x).cells.size=sz:=by rw[<-Array.length_toList,bT.1,h1]
    have hzl:cur.size=zs.length:=by rw[<-Array.length_toList,hz.1]
    have zr:cZ w G σ.h (cv zs off vs) (cv cur.toList off (a.eval x).cells.toList):=by
     have Qf:(a.eval x).cells.toList.length=vs.length:=bT.1
     refine⟨?_,fun j c u hj hu=>?_⟩
     ·rw[LF (by rw[Qf,hz.1];omega),LF (by omega),hz.1]
     ·rw[xS (by omega)] at hj
      rw[xS (by rw[Qf,hz.1];omega),Qf] at hu
      by_cases gf:off<=j/\j<off+vs.length
      ·rw[if_pos gf] at hj hu;exact bT.2 _ c u hj hu
      ·rw[if_neg gf] at hj hu;exact hz.2 _ c u hj hu
    obtain⟨jP,e1,e2,e3⟩:=ZI r places ps ms (cv zs off vs) cs (cv cur.toList off (a.eval x).cells.toList).toArray c3 zr (fun c hc q hq=>by
     simp only[cv,List.mem_append] at hc
     rcases hc with(hc|hc)|hc
     ·exact hr c (List.mem_of_mem_take hc) q hq
     ·exact y2 q (ak.yy hv hc hq)
     ·exact hr c (List.mem_of_mem_drop hc) q hq) hx
    refine⟨jP,?_,e2,e3⟩
    simp only[List.getElem?_toArray] at e1
    simp only[List.map_cons,Instr.fill,List.getElem?_toArray,c1]
    rw[if_neg (by simp;omega),Z0 _ _ _ (by omega)]
    exact e1
   ·cases hx
  ·cases hx
 |[],_::_,_,_,_,hc,_,_,_=>by simp[yz] at hc
 |(_,_)::_,[],_,_,_,hc,_,_,_=>by simp[yz] at hc
theorem agF (r:R B E w0 N σ a w G) {t:TypeId} {parts:Array (Nat×Operand)} {ms:List (Nat×Nat×MO)} {zs cs:List aj} {it:TypeInfo} {z:Value} {oL:Array Field} {places:List (Nat×Nat)} (ho:o.op=.build t parts) (hN:∀n,o.dst=some n->n<N)
  (wV:P.info? t=some it) (hz:it.zero=some z) (hu:P.underlying t=some (.struct oL)) (fY:oL.toList.mapM (fun f=>(P.info? f.type).map fun i=>(f.offset,i.size))=some places)
  (hzc:tc z.cells.toList zs=true) (hc:yz places parts.toList ms=true) (hx:qp σ.ev zs ms=some cs):o.wp P a w (Nx B E w0 N (σ.put o.dst (.agg cs))) Q:=by
 obtain⟨z1,z2⟩:=Ja (w:=w) (G:=G) (h:=σ.h) hzc
 obtain⟨jP,e1,e2,e3⟩:=ZI r places parts.toList ms zs cs z.cells hc z1 (fun c hc m hm=>absurd hm (z2 c hc m)) hx
 refine gS r (v:=.agg jP) ?_ ⟨jP.toList,by simp,e2⟩ (fun m hm=>by obtain⟨c,hc,hm⟩:=hm;exact e3 c hc m hm) hN
 have hb:P.built t (parts.map fun p=>(p.1,a.eval p.2)).toList=some jP:=by
  unfold Program.built
  simp only[wV,hu,hz,fY,Array.toList_map]
  exact e1
 have bY:=run_build (P:=P) w t _ jP hb
 simp only[execOp,ho]
 simp[bY]
theorem agW (r:R B E w0 N σ a w G) {f:FuncId} {xs:Array Operand} {ms:List MO} {cs:List aj} (ho:o.op=.makeFunc (.func f) #[] xs) (hN:∀n,o.dst=some n->n<N)
  (hc:ms.length=xs.size/\∀(j:Nat) (x:Operand) (m:MO),xs.toList[j]? =some x->ms[j]? =some m->bF x m=true)
  (hx:(ms.map σ.ev).mapM (fun v=>match v with|.one c=>if c.lO=true then none else some c|_=>none)=some cs) (hj:∀c∈cs,c≠ .bq):o.wp P a w (Nx B E w0 N (σ.put o.dst (.one (.fn f cs)))) Q:=by
 have bZ:∀(ms:List MO) (xs:List Operand) (cs:List aj),ms.length=xs.length->(∀(j:Nat) (x:Operand) (m:MO),xs[j]? =some x->ms[j]? =some m->bF x m=true)->
   (ms.map σ.ev).mapM (fun v=>match v with|.one c=>if c.lO=true then none else some c|_=>none)=some cs->(∀c∈cs,c≠ .bq)->
   (xs.map a.eval).length=cs.length/\∀(j:Nat) (c:aj) (u:Value),cs[j]? =some c->(xs.map a.eval)[j]? =some u->(u.oneCell'=true/\jM w G σ.h c u)/\∀m,c.iY m->σ.used m=true:=by
  intro ms
  induction ms with
  |nil=>
   intro xs cs hl _ hx _
   have:xs=[]:=List.eq_nil_of_length_eq_zero (by simpa using hl.symm)
   subst this
   simp at hx
   subst hx
   simp
  |cons m ms ih=>
   intro xs cs hl dF hx hj
   match xs,hl with
   |x::xs,hl=>
    simp only[List.map_cons,List.mapM_cons,Option.bind_eq_bind,Option.pure_def] at hx
    cases hm:σ.ev m with
    |one c=>
     rw[hm] at hx
     by_cases hf:c.lO=true
     ·simp[hf] at hx
     ·simp only[hf,if_false,Bool.false_eq_true,Option.bind_some] at hx
      cases hr:(ms.map σ.ev).mapM (fun v=>match v with|.one c=>if c.lO=true then none else some c|_=>none) with
      |none=>rw[hr] at hx;simp at hx
      |some cs'=>
       rw[hr] at hx
       simp at hx
       subst hx
       obtain⟨i1,i2⟩:=ih xs cs' (by simpa using hl) (fun j x m h1 h2=>dF (j+1) x m h1 h2) hr (fun c hc=>hj c (by simp[hc]))
       refine⟨by simp[i1],fun j c' u iO hu=>?_⟩
       cases j with
       |zero=>
        simp at iO hu
        subst iO;subst hu
        obtain⟨e1,e2⟩:=r.ev (dF 0 x m rfl rfl)
        rw[hm] at e1 e2
        have E5:c.lO=false:=by simpa using hf
        have h1:=(e1.fS (hj c (by simp)))
        rw[yq _ _ _ _ _ E5] at h1
        exact⟨⟨h1.2,h1.1⟩,fun q hq=>e2 q (by show c.ref q;rw[aj.acV c q E5];exact hq)⟩
       |succ j=>exact i2 j c' u (by simpa using iO) (by simpa using hu)
    |agg io=>rw[hm] at hx;simp at hx
    |br l=>rw[hm] at hx;simp at hx
 obtain⟨k1,k2⟩:=bZ ms xs.toList cs (by simpa using hc.1) hc.2 hx hj
 have je:∀m,(aj.fn f cs).ref m->σ.used m=true:=fun m hm=>by
  obtain⟨c,nQ,hm⟩:=hm
  obtain⟨j,iO,u6⟩:=List.getElem_of_mem nQ
  have m7:j<(xs.toList.map a.eval).length:=by omega
  exact(k2 j c _ (by rw[List.getElem?_eq_getElem iO,u6]) (List.getElem?_eq_getElem m7)).2 m hm
 refine gS r (v:=.func (.func f) #[] (xs.toList.map a.eval).toArray) ?_ (RA.gD rfl ⟨xs.toList.map a.eval,rfl,k1,fun j c u h1 h2=>(k2 j c u h1 h2).1⟩) je hN
 simp only[execOp,ho,Instr.makeFunc]
 have:Array.map a.eval xs=(xs.toList.map a.eval).toArray:=by apply Array.ext';simp
 simp[this]
theorem Br {α:Type} {xs:List (List α)} {l k j:Nat} {c:α} (h:At (xs.drop l) k j c):At xs (l+k) j c:=by
 obtain⟨e,he,hj⟩:=h
 rw[List.getElem?_drop] at he
 exact⟨e,he,hj⟩
theorem aqZ {b l:Nat} {px:List (List PC)} (h:aZ b (px.drop l)):aZ b px:=by
 obtain⟨k,j,c,h1,h2⟩:=h
 exact⟨_,_,_,Br h1,h2⟩
theorem iI.drop {px:List (List PC)} (h:iI px) (l:Nat):iI (px.drop l):=
 ⟨fun k j c hk=>h.1 _ _ _ (Br hk),fun k j c k' j' c' b hk cI aD=>h.2 _ _ _ _ _ _ b (Br hk) (Br cI) (fun e=>aD (by injection e with e1 e2;rw[show k=k' by omega,e2]))⟩
theorem ag6 (r:R B E w0 N σ a w G) {n n0:Nat} {t e:TypeId} {i:TypeInfo} {x y:Operand} {mx my:MO} {sz:Nat} {l:Int} {m:Mode} {xs:List (List C)} {σ1:St} (ho:o.op=.slice t x (some y) none none) (hd:o.dst=some n) (hN:n<N)
  (iy:bF x mx=true) (ku:bF y my=true) (ht:P.underlying t=some (.slice e)) (hi:P.info? e=some i) (bP:i.size=sz) (jB:0<sz)
  (hx:σ.ev mx=.one (.sl n0 sz 0 xs.length)) (hl:(σ.ev my).dn=some l) (h0:0<=l) (h1:l<=(xs.length:Int)) (hn:σ.h n0=some (.row true m sz xs)) (hi1:(σ.del n0).ins n (.row true m sz (xs.drop l.toNat))=some σ1):
  o.wp P a w (Nx B E w0 N (σ1.put o.dst (.one (.sl n sz 0 (xs.length - l.toNat))))) Q:=by
 obtain⟨Fk,rfl⟩:=mN hi1
 obtain⟨x1,x2⟩:=r.ev iy
 rw[hx] at x1 x2
 obtain⟨kk,ey⟩:=(r.ev ku).1.int hl
 have bS:σ.h n0≠none:=by rw[hn];simp
 have gI:jO (G.g n0) sz 0 xs.length (a.eval x):=(x1.fS (by simp)).1 bS
 have H:=r.hr
 have hr:=H.row n0 true m sz xs hn
 have oS:xs.length=(G.g n0).px.length:=by rw[hr.er];simp
 have F:=mg.Ta H hn
 have hln:l.toNat<=xs.length:=by omega
 obtain⟨p,v,fZ,bY,Ce,fY,hsv⟩:∃(p:PB) (v:Value),p.px=(G.g n0).px.drop l.toNat/\(execOp a.eval o).run P w=.ok (.value v) w/\(p.nl=true->p.px=[]/\p.cap=0)/\
   (p.nl=false->(G.g n0).nl=false/\p.b=(G.g n0).b/\p.o=(G.g n0).o+l.toNat*sz/\p.cap=(G.g n0).cap - l.toNat/\l.toNat<=(G.g n0).cap)/\jO p sz 0 (xs.length - l.toNat) v:=by
  rcases gI with⟨aN,hv,_,lK⟩|⟨aN,a',hv,jQ,ha⟩
  ·have bY:=Gc (P:=P) (w:=w) (ya:=(G.g n0).na) (len:=0) (cap:=(G.g n0).cap) (lo:=some (.int kk l)) (hi':=none) (l:=l) (hh:=0) ht hi bP (.inr ⟨kk,rfl⟩) (.inl ⟨rfl,rfl⟩) h0 (by omega) (by omega) (Nat.zero_le _)
   obtain⟨Af,ww⟩:=hr.nl aN
   have ww:=ww rfl
   have hlz:l.toNat=0:=by omega
   refine⟨⟨true,0,0,0,[],(G.g n0).na⟩,.slice (G.g n0).na 0 0,by rw[Af];simp,?_,fun _=>⟨rfl,rfl⟩,(fun h=>by cases h),.inl ⟨rfl,rfl,rfl,by omega⟩⟩
   simp only[execOp,ho,hv,Option.map_none,Option.map_some,ey]
   rw[ww,hlz] at bY
   simp only[if_true] at bY
   simp[bY,ww]
   omega
  ·have bY:=Gc (P:=P) (w:=w) (ya:=a') (len:=xs.length) (cap:=(G.g n0).cap - 0) (lo:=some (.int kk l)) (hi':=none) (l:=l) (hh:=xs.length) ht hi bP (.inr ⟨kk,rfl⟩) (.inl ⟨rfl,rfl⟩) h0 h1 (by omega) (by omega)
   have pN:=ha (.inr rfl)
   have e2:((xs.length:Int) - l).toNat=xs.length - l.toNat:=by omega
   rw[e2,Nat.sub_zero] at bY
   by_cases hc:(G.g n0).cap=l.toNat
   ·have e3:xs.length - l.toNat=0:=by omega
    rw[if_pos hc,e3] at bY
    refine⟨⟨true,0,0,0,[],a'⟩,.slice a' 0 0,?_,?_,fun _=>⟨rfl,rfl⟩,(fun h=>by cases h),.inl ⟨rfl,rfl,rfl,e3⟩⟩
    ·rw[List.drop_eq_nil_of_le (by omega)]
    ·simp only[execOp,ho,hv,Option.map_none,Option.map_some,ey,Nat.sub_zero]
     rw[hc,Nat.sub_self] at bY
     simp[bY,hc]
   ·rw[if_neg hc,pN] at bY
    simp only[Option.map_some,oI,Nat.zero_mul,Nat.add_zero] at bY
    refine⟨⟨false,(G.g n0).b,(G.g n0).o+l.toNat*sz,(G.g n0).cap - l.toNat,(G.g n0).px.drop l.toNat,none⟩,.slice (some (ad (G.g n0).b ((G.g n0).o+l.toNat*sz))) (xs.length - l.toNat) ((G.g n0).cap - l.toNat),rfl,?_,(fun h=>by cases h),fun _=>⟨aN,rfl,rfl,rfl,by omega⟩,.inr ⟨rfl,some (ad (G.g n0).b ((G.g n0).o+l.toNat*sz)),by simp,by simp;omega,fun _=>by simp⟩⟩
    simp only[execOp,ho,hv,Option.map_none,Option.map_some,ey,Nat.sub_zero,pN,Nat.zero_mul,Nat.add_zero]
    simp[bY]
 have fq:∀b,aZ b p.px->aZ b (G.g n0).px:=fun b hb=>aqZ (by rw[<-fZ];exact hb)
 have H1:HR B E w G (aA σ.h n0 none) σ.used []:=H.del n0
 have K1:bf w G σ.h (fun q=>σ.used q=true) w G (aA σ.h n0 none):=bf.del n0 _
 have Hn:HR B E w ⟨G.Im,aA G.g n p⟩ (aA (aA σ.h n0 none) n (some (.row true m sz (xs.drop l.toNat)))) (aA σ.used n true) []:=by
  refine H1.insert (w':=w) (p:=p) Fk (fun _ _=>rfl) (Nat.le_refl _) (fun hf=>?_) (fun cs c q hb=>by cases hb) ?_ ?_ ?_ (fun gr m sz xs _ _ i pc b hi=>by simp at hi)
  ·obtain⟨q1,q2,q3,q4,q5⟩:=fY hf
   obtain⟨o1,o2,o3⟩:=H.own n0 bS q1
   rw[q2]
   refine⟨⟨o1,fun q hq PV=>?_,fun q gr m' aJ au hq hb=>?_⟩,o2,o3⟩
   ·obtain⟨d1,d2⟩:=BK hq
    exact H.inj q n0 d1 bS d2 PV q1
   ·exact H.tm bS q1 (qH hq).1 hb rfl
  ·refine⟨hr.pos,by rw[fZ,hr.er,List.map_drop],fun h=>⟨(Ce h).1,fun _=>(Ce h).2⟩,fun hf=>?_,fun hf _=>?_,?_⟩
   ·obtain⟨q1,q2,q3,q4,q5⟩:=fY hf
    obtain⟨l1,⟨l2,l3,l4⟩,l5⟩:=hr.dW q1
    rw[q2,q3,q4,fZ]
    refine⟨l1,⟨fun e he=>l2 e (List.mem_of_mem_drop he),fun k j c hk=>?_,fun k j c hk=>l4 _ _ _ (Br hk)⟩,by simp;omega⟩
    have:=l3 _ _ _ (Br hk)
    rw[<-this]
    congr 2
    rw[Nat.add_mul]
    omega
   ·obtain⟨q1,q2,q3,q4,q5⟩:=fY hf
    obtain⟨r2,cur,ee,r3,r4⟩:=hr.room q1 rfl
    unfold HD
    rw[q2,q3,q4]
    refine⟨by omega,cur,ee,r3,?_⟩
    rw[r4,Nat.add_assoc,<-Nat.add_mul]
    congr 2
    omega
   ·have hm:=hr.mode
    show D5 B E w _ p.px m
    cases m with
    |aG=>exact fun b hb=>hm b (fq b hb)
    |ae=>exact⟨fun b hb=>hm.1 b (fq b hb),by rw[fZ];exact hm.2.drop _⟩
    |live=>exact⟨fun b hb=>hm.1 b (fq b hb),by rw[fZ];exact hm.2.drop _⟩
  ·intro gr m' aJ au hb iz q bo mo kL iH h0 jz b cR
   injection hb with _ hb _ _
   subst hb
   exact F.fV iz q bo mo kL iH h0 jz b (fq b cR)
  ·intro gr aJ au hb b cR
   injection hb with _ hb _ _
   exact⟨fun hf=>by rw[(fY hf).2.1];exact H.tm bS (fY hf).1 hn (fq b cR),fun q h0 PV=>F.live hb b (fq b cR) q h0 PV⟩
 have r':R B E w0 N {(σ.del n0) with h:=aA (σ.del n0).h n (some (.row true m sz (xs.drop l.toNat))),used:=aA (σ.del n0).used n true} a w ⟨G.Im,aA G.g n p⟩:=
  r.step rfl (fun q hq=>rI n q hq) (bf.trans (u2:=fun q=>σ.used q=true) (fun _ h=>h) K1 (bf.insert H1 Fk (fun _ _=>rfl))) Hn r.fr
 have Fl:v.oneCell'=true:=by rcases hsv with⟨_,h,_⟩|⟨_,_,h,_⟩<;>rw[h]<;>rfl
 have dV:RC w ⟨G.Im,aA G.g n p⟩ (aA (aA σ.h n0 none) n (some (.row true m sz (xs.drop l.toNat)))) (.sl n sz 0 (xs.length - l.toNat)) v:=fun _=>by simpa[bN] using hsv
 refine oC (v:=v) (w':=w) bY ⟨_,r'.put (RA.gD Fl dV) (fun q hq=>by have d9:q=n:=hq;subst d9;exact bN _ _ _) (fun q hq=>by rw[hd] at hq;injection hq with hq;omega)⟩
end
end Go.Am
