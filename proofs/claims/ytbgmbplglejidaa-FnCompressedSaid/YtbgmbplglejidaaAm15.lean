/- Am15: indexes, lengths, slices, stores, struct literals as operations. No condition. -/
import Derived.Test.YtbgmbplglejidaaAm14
set_option linter.unusedVariables false
namespace Go.Am
section
variable {B:Nat} {E:Ex} {w0 w w':World} {G G':Gh} {h h':Nat->Option ao} {used used':Nat->Bool} {tk:List PC} {N:Nat}
variable {P:Program} {o:Oper} {a:Act} {σ σ':St} {Q:Exit->Act->World->Prop}
theorem JW {n:Nat} (hs:(h n).isSome=true):h n≠none:=by intro hh;rw[hh] at hs;cases hs
theorem TN {t e:TypeId} {i:TypeInfo} {sz b off len cap:Nat} {kk:IntKind} {q:Int} (ht:P.underlying t=some (.slice e)) (hi:P.info? e=some i) (bI:i.size=sz) (h0:0<=q) (h1:q<len):
  (Instr.indexAt t (.slice (some (ad b off)) len cap) (.int kk q)).run P w=.ok (.pointer (some (ad b (off+q.toNat*sz)))) w:=by
 simp[Instr.indexAt,run_underlying ht,asIntOf,h0,h1,sizeOf,typeInfo,hi,bI,ou]
theorem Yl (r:R B E w0 N σ a w G) {t e:TypeId} {i:TypeInfo} {x y:Operand} {mx my:MO} {sz:Nat} {q:Int} {z:aj} (ho:o.op=.indexAddr t x y) (hN:∀n,o.dst=some n->n<N) (ij:bz x mx=true) (jY:bz y my=true)
  (ht:P.underlying t=some (.slice e)) (hi:P.info? e=some i) (bI:i.size=sz) (hq:(σ.ev my).dj=some q) (h0:0<=q)
  (hz:(∃n lo len,σ.ev mx=.one (.sl n sz lo len)/\q<(len:Int)/\(σ.h n).isSome=true/\z=.one (.ptr n (lo+q.toNat) sz 0))\/(∃xs el,σ.ev mx=.one (.c (.list sz xs))/\xs[q.toNat]? =some el/\z=.one (.cB el 0))):
  o.wp P a w (Nx B E w0 N (σ.put o.dst z)) Q:=by
 obtain⟨x1,x2⟩:=r.ev ij
 obtain⟨kk,ey⟩:=(r.ev jY).1.int hq
 rcases hz with⟨n,lo,len,e1,h1,hs,rfl⟩|⟨xs,el,e1,h1,rfl⟩
 ·rw[e1] at x1 x2
  have gA:jA (G.g n) sz lo len (a.eval x):=(x1.fH (by simp)).1 (JW hs)
  rcases gA with⟨_,_,_,hl⟩|⟨aL,a',hv,jE,ha⟩
  ·omega
  ·have pC:=ha (.inl (by omega))
   subst pC
   refine gI r (v:=.pointer (some (ad (G.g n).b ((G.g n).o+lo*sz+q.toNat*sz)))) ?_ ?_ (fun m hm=>x2 m hm) hN
   ·simp only[execOp,ho,hv,ey]
    simp[TN ht hi bI h0 h1]
   ·exact RA.gu rfl fun _=>⟨aL,by rw[Nat.add_mul];congr 3;omega⟩
 ·rw[e1] at x1
  obtain⟨pc,p1,p2,p3,p4⟩:=x1.c
  cases pc with
  |int k n=>simp[PC.er] at p1
  |bool b=>simp[PC.er] at p1
  |list s' ya c py=>
   rw[PC.dO] at p1
   injection p1 with p0 p1
   subst p0
   have tj:∃pe,py[q.toNat]? =some pe/\pe.map PC.er=el:=by
    rw[<-p1,List.getElem?_map] at h1
    cases hp:py[q.toNat]? with
    |none=>rw[hp] at h1;cases h1
    |some pe=>rw[hp] at h1;simp at h1;exact⟨pe,rfl,h1⟩
   obtain⟨pe,uJ,m4⟩:=tj
   have bH:q.toNat<py.length:=(List.getElem?_eq_some_iff.1 uJ).1
   cases p3 with
   |nil _ _ _ _=>simp at bH
   |cons _ b oo _ _ g1 g2 g3 g4 g5 g6=>
    have eD:q<(py.length:Int):=by omega
    refine gI r (v:=.pointer (some (ad b (oo+q.toNat*s')))) ?_ ?_ (fun m hm=>absurd hm (by simp[aj.ref,ah.ref,ah.iH])) hN
    ·simp only[execOp,ho,<-p2,PC.val,ey]
     simp[TN ht hi bI h0 eD]
    ·refine RA.gu rfl ⟨b,oo+q.toNat*s',pe,by simp,m4,p4 b (.here _ _ _ _ g1),fun j c hj=>?_⟩
     exact⟨g5 _ _ _ ⟨pe,uJ,hj⟩,g6 _ _ _ ⟨pe,uJ,hj⟩,fun b' aY=>p4 b' (.there _ _ _ _ _ _ c ⟨pe,uJ,hj⟩ aY)⟩
theorem IZ (r:R B E w0 N σ a w G) {t e:TypeId} {x:Operand} {mx:MO} {len:Nat} (ho:o.op=.call {callee:=.builtin .len,args:=#[x],argTypes:=#[t]}) (hN:∀n,o.dst=some n->n<N) (hm:bz x mx=true)
  (ht:P.underlying t=some (.slice e))
  (hz:(∃n sz lo,σ.ev mx=.one (.sl n sz lo len)/\(σ.h n).isSome=true)\/(∃sz xs,σ.ev mx=.one (.c (.list sz xs))/\len=xs.length)\/(∃sz,σ.ev mx=.one (.nil sz)/\len=0)\/
   (∃n k aA off sz l s ys,σ.ev mx=.one (.bx n k aA off sz l)/\cq σ.h (.bx n k aA off sz l)=some (.list s ys)/\len=ys.length)):
  o.wp P a w (Nx B E w0 N (σ.put o.dst (.one (.c (.int .i64 len))))) Q:=by
 obtain⟨x1,x2⟩:=r.ev hm
 have hv:∃a' c,a.eval x=.slice a' len c:=by
  rcases hz with⟨n,sz,lo,e1,hs⟩|⟨sz,xs,e1,rfl⟩|⟨sz,e1,rfl⟩|⟨n,k,aA,off,sz,l,s,ys,e1,PP,rfl⟩
  ·rw[e1] at x1
   have gA:jA (G.g n) sz lo len (a.eval x):=(x1.fH (by simp)).1 (JW hs)
   rcases gA with⟨_,hv,_,rfl⟩|⟨_,a',hv,_,_⟩
   ·exact⟨_,_,hv⟩
   ·exact⟨_,_,hv⟩
  ·rw[e1] at x1
   obtain⟨pc,p1,p2,_⟩:=x1.c
   cases pc with
   |int k n=>simp[PC.er] at p1
   |bool b=>simp[PC.er] at p1
   |list s' ya c py=>
    rw[PC.dO] at p1
    injection p1 with _ p1
    refine⟨ya,c,?_⟩
    rw[<-p2,<-p1];simp[PC.val]
  ·rw[e1] at x1
   have dS:a.eval x=.slice none 0 0:=(x1.fH (by simp)).1
   exact⟨_,_,dS⟩
  ·rw[e1] at x1
   obtain⟨pc,p1,p2,_⟩:=r.hr.cq PP (x1.fH (by simp)).1
   cases pc with
   |int k n=>simp[PC.er] at p1
   |bool b=>simp[PC.er] at p1
   |list s' ya c py=>
    rw[PC.dO] at p1
    injection p1 with _ p1
    refine⟨ya,c,?_⟩
    rw[<-p2,<-p1];simp[PC.val]
 obtain⟨a',c,hv⟩:=hv
 refine gI r (v:=.int .i64 len) ?_ (RA.of_int _ _) (fun q hq=>absurd hq rb) hN
 simp[execOp,ho,resolve,invoke,builtin,hv,Builtin.len_,run_underlying ht,goInt]
theorem Fx {t e:TypeId} {i:TypeInfo} {sz:Nat} {ya:Option Addr} {len cap:Nat} {lo hi':Option Value} {l hh:Int} (ht:P.underlying t=some (.slice e)) (hi:P.info? e=some i) (bI:i.size=sz)
  (ww:(lo=none/\l=0)\/∃k,lo=some (.int k l)) (uF:(hi'=none/\hh=len)\/∃k,hi'=some (.int k hh)) (h0:0<=l) (h1:l<=hh) (h2:hh<=len) (h3:len<=cap):
  (Instr.sliceAt t (.slice ya len cap) lo hi' none).run P w=.ok (.slice (if cap=l.toNat then ya else ya.map (·.add (l.toNat*sz))) (hh - l).toNat (cap - l.toNat)) w:=by
 have e1:(hh.toNat:Int)=hh:=Int.toNat_of_nonneg (by omega)
 have e2:(hh - l).toNat=hh.toNat - l.toNat:=by omega
 have h4:hh<=(cap:Int):=by omega
 have h5:0<=hh:=by omega
 rcases ww with⟨rfl,rfl⟩|⟨k,rfl⟩<;>rcases uF with⟨rfl,rfl⟩|⟨k',rfl⟩<;>
  simp[Instr.sliceAt,Instr.slice,run_underlying ht,Instr.sliceBounds,Instr.sliceBound,asIntOf,sizeOf,typeInfo,hi,bI,h0,h1,h4,h5,e1,e2]<;>omega
theorem Yq (r:R B E w0 N σ a w G) {t e:TypeId} {i:TypeInfo} {x:Operand} {lo hi':Option Operand} {mx:MO} {sz:Nat} {l hh:Int} {z:aj} (ho:o.op=.slice t x lo hi' none) (hN:∀n,o.dst=some n->n<N) (ij:bz x mx=true)
  (ht:P.underlying t=some (.slice e)) (hi:P.info? e=some i) (bI:i.size=sz) (ji:0<sz) {len:Nat}
  (ww:(lo=none/\l=0)\/∃y my,lo=some y/\bz y my=true/\(σ.ev my).dj=some l) (uF:(hi'=none/\hh=len)\/∃y my,hi'=some y/\bz y my=true/\(σ.ev my).dj=some hh)
  (h0:0<=l) (h1:l<=hh) (h2:hh<=len)
  (hz:(∃n l0,σ.ev mx=.one (.sl n sz l0 len)/\(σ.h n).isSome=true/\z=.one (.sl n sz (l0+l.toNat) (hh - l).toNat))\/(∃xs,σ.ev mx=.one (.c (.list sz xs))/\len=xs.length/\z=.one (.c (.list sz ((xs.drop l.toNat).take (hh - l).toNat))))):
  o.wp P a w (Nx B E w0 N (σ.put o.dst z)) Q:=by
 obtain⟨x1,x2⟩:=r.ev ij
 have Pq:(lo.map a.eval=none/\l=0)\/∃k,lo.map a.eval=some (.int k l):=by
  rcases ww with⟨rfl,h⟩|⟨y,my,rfl,c1,c2⟩
  ·exact .inl ⟨rfl,h⟩
  ·obtain⟨k,hk⟩:=(r.ev c1).1.int c2
   exact .inr ⟨k,by simp[hk]⟩
 have Pa:(hi'.map a.eval=none/\hh=len)\/∃k,hi'.map a.eval=some (.int k hh):=by
  rcases uF with⟨rfl,h⟩|⟨y,my,rfl,c1,c2⟩
  ·exact .inl ⟨rfl,h⟩
  ·obtain⟨k,hk⟩:=(r.ev c1).1.int c2
   exact .inr ⟨k,by simp[hk]⟩
 rcases hz with⟨n,l0,e1,hs,rfl⟩|⟨xs,e1,rfl,rfl⟩
 ·rw[e1] at x1 x2
  have gA:jA (G.g n) sz l0 len (a.eval x):=(x1.fH (by simp)).1 (JW hs)
  rcases gA with⟨aL,hv,rfl,rfl⟩|⟨aL,a',hv,jE,ha⟩
  ·have hr:=Fx (P:=P) (w:=w) (ya:=(G.g n).na) (len:=0) (cap:=(G.g n).cap) ht hi bI Pq Pa h0 h1 h2 (Nat.zero_le _)
   have lm:l.toNat=0:=by omega
   have hh0:(hh - l).toNat=0:=by omega
   refine gI r (v:=.slice (G.g n).na 0 (G.g n).cap) ?_ (RA.gu rfl fun _=>.inl ⟨aL,rfl,by omega,by omega⟩) (fun m hm=>x2 m hm) hN
   simp only[execOp,ho,hv,Option.map_none]
   simp only[lm,hh0,Nat.zero_mul] at hr
   have ha:(G.g n).na.map (fun x=>x.add 0)=(G.g n).na:=by
    cases (G.g n).na with
    |none=>rfl
    |some x=>simp[Addr.add]
   rw[ha] at hr
   simp[hr]
  ·have hr:=Fx (P:=P) (w:=w) (ya:=a') (len:=len) (cap:=(G.g n).cap - l0) ht hi bI Pq Pa h0 h1 h2 (by omega)
   refine gI r (by simp only[execOp,ho,hv,Option.map_none];simp[hr];rfl) (RA.gu rfl fun _=>.inr ⟨aL,_,by rw[Nat.sub_sub],by omega,fun hc=>?_⟩) (fun m hm=>x2 m hm) hN
   split
   ·rename_i bO
    have:l0=0/\l.toNat=0:=by omega
    rw[ha (.inr this.1),this.1,this.2]
   ·rename_i bO
    have bH:l0<(G.g n).cap:=by omega
    rw[ha (.inl bH)]
    simp only[Option.map_some,ou]
    rw[Nat.add_mul,Nat.add_assoc]
 ·rw[e1] at x1
  obtain⟨pc,p1,p2,p3,p4⟩:=x1.c
  cases pc with
  |int k n=>simp[PC.er] at p1
  |bool b=>simp[PC.er] at p1
  |list s' ya c py=>
   rw[PC.dO] at p1
   injection p1 with p0 p1
   subst p0
   have hlen:xs.length=py.length:=by rw[<-p1];simp
   have hv:a.eval x=.slice ya xs.length c:=by rw[<-p2,hlen];rfl
   have jE:xs.length<=c\/py=[]:=by
    cases p3 with
    |nil _ _ _ _=>exact .inr rfl
    |cons _ b oo _ _ g1 g2 g3 g4 g5 g6=>exact .inl (by rw[hlen];exact g2)
   have wj:xs.length<=c:=by
    rcases jE with hc|hc
    ·exact hc
    ·rw[hlen,hc];exact Nat.zero_le _
   have hr:=Fx (P:=P) (w:=w) (ya:=ya) (len:=xs.length) (cap:=c) ht hi bI Pq Pa h0 h1 h2 wj
   have ahX:((py.drop l.toNat).take (hh - l).toNat).length=(hh - l).toNat:=by simp;omega
   let dn:PC:=.list s' (if c=l.toNat then ya else ya.map (·.add (l.toNat*s'))) (c - l.toNat) ((py.drop l.toNat).take (hh - l).toNat)
   have hJ:Good w dn/\∀b,aT b dn->G.Im b:=by
    by_cases Bt:(py.drop l.toNat).take (hh - l).toNat=[]
    ·constructor
     ·show Good w (.list _ _ _ _)
      rw[Bt];exact .nil _ _ _ ji
     ·intro b hb
      rw[aT.kI,Bt] at hb
      rcases hb with⟨hb,_⟩|⟨k,j,c,⟨e,he,_⟩,_⟩
      ·exact absurd rfl hb
      ·simp at he
    ·cases p3 with
     |nil _ _ _ _=>simp at Bt
     |cons _ b oo _ _ g1 g2 g3 g4 g5 g6=>
      have dR:0<(hh - l).toNat:=by
       rcases Nat.eq_zero_or_pos (hh - l).toNat with hz|hz
       ·rw[hz] at Bt;simp at Bt
       ·exact hz
      have aC:c≠l.toNat:=by omega
      have aU:dn=.list s' (some (ad b (oo+l.toNat*s'))) (c - l.toNat) ((py.drop l.toNat).take (hh - l).toNat):=by
       show PC.list _ _ _ _=_
       rw[if_neg aC];simp[ou]
      rw[aU]
      constructor
      ·refine .cons _ _ _ _ _ Bt (by omega) g3 (fun e he=>g4 e (List.mem_of_mem_drop (List.mem_of_mem_take he))) (fun k j c' hk=>?_) (fun k j c' hk=>g6 _ _ _ (pi hk).1)
       have:=g5 _ _ _ (pi hk).1
       rw[Nat.add_mul] at this
       rw[<-this]
       congr 2
       omega
      ·intro x hx
       rw[aT.kI] at hx
       rcases hx with⟨_,o',gJ⟩|⟨k,j,c',hk,hx⟩
       ·injection gJ with gJ
        rw[<-(nD gJ).1]
        exact p4 b (.here _ _ _ _ g1)
       ·exact p4 x (.there _ _ _ _ _ _ c' (pi hk).1 hx)
   refine gI r (v:=dn.val) ?_ (RA.gu (PC.kN _) ⟨dn,?_,rfl,hJ.1,hJ.2⟩) (fun q hq=>absurd hq rb) hN
   ·simp only[execOp,ho,hv,Option.map_none]
    simp[hr,dn,PC.val,ahX]
   ·show PC.er (.list _ _ _ _)=_
    rw[PC.dO,List.map_take,List.map_drop,p1]
theorem Dy {b x:Nat} {v:Value} {cur:Array Value} {e:TypeId} (hg:w.heap[b]? =some (.cells cur e (0,0))) (hc:w.cell? (ad b x)=some v):x<cur.size:=by
 have h2:w.cell? (ad b x)=cur[x]? :=by simp[World.cell?,ad,hg]
 rw[h2] at hc
 exact(Array.getElem?_eq_some_iff.1 hc).1
theorem af8 (r:R B E w0 N σ a w G) {t:TypeId} {i:TypeInfo} {x y:Operand} {mx my:MO} {sz n k aA off:Nat} {ag:Bool} {vs cs:List ah} (ho:o.op=.store t x y) (hd:o.dst=none) (ij:bz x mx=true) (jY:bz y my=true)
  (hi:P.info? t=some i) (bI:i.size=sz) (ji:0<sz) (hp:σ.ev mx=.one (.ptr n k aA off)) (hv:(σ.ev my).cells?=some (ag,vs)) (hl:vs.length=sz) (hn:σ.h n=some (.box cs)) (hk:k=0) (fJ:off+sz<=cs.length):
  o.wp P a w (Nx B E w0 N (σ.dB n (.box (cu cs off vs)))) Q:=by
 obtain⟨x1,_⟩:=r.ev ij
 obtain⟨y1,y2⟩:=r.ev jY
 rw[hp] at x1
 subst hk
 obtain⟨p1,p2⟩:=(x1.fH (by simp)).1 (by rw[hn];simp)
 obtain⟨q1,⟨cur,et,q2⟩,q3⟩:=r.hr.box n cs hn
 have bO:=y1.cells hv
 have EI:(a.eval y).cells.toList.length=sz:=by rw[bO.1,hl]
 have Ek:(G.g n).o+off+(a.eval y).cells.toList.length<=cur.size:=by
  obtain⟨v,v1,_⟩:=q3 (off+sz - 1) (cs[off+sz - 1]'(by omega)) (List.getElem?_eq_getElem _)
  have:=Dy q2 v1
  omega
 have r':=r.app hn bO (fun c hc m hm=>y2 m (aj.xY hv hc hm)) (by omega) q2 Ek
 have bX:=KN (P:=P) (w:=w) (t:=t) (i:=i) (b:=(G.g n).b) (off:=(G.g n).o+off) (v:=a.eval y) (cur:=cur) (e:=et) hi (by rw[bI,<-EI];simp) q2 (by simpa using Ek) (fun u hu=>by
  obtain⟨j,hj,Ev⟩:=List.getElem_of_mem hu
  have uG:j<vs.length:=by omega
  have:=(bO.2 j _ u (List.getElem?_eq_getElem uG) (by rw[List.getElem?_eq_getElem hj,Ev])).1
  exact this)
 refine Lz (w':=eS w (G.g n).b ((G.g n).o+off) (a.eval y).cells.toList cur) ?_ ⟨G,?_⟩
 ·simp only[execOp,ho,p2,Nat.zero_mul,Nat.add_zero]
  simp[Instr.storeAt,Instr.sureAddr,bX]
 ·rw[hd];exact r'
theorem aga (r:R B E w0 N σ a w G) {t:TypeId} {i:TypeInfo} {x y:Operand} {mx my:MO} {sz n k off:Nat} {ag gr:Bool} {m:Mode} {rs:Nat} {xs:List (List C)} {el:List C} {vs:List ah} {σ2:St} (ho:o.op=.store t x y) (hd:o.dst=none) (ij:bz x mx=true) (jY:bz y my=true)
  (hi:P.info? t=some i) (bI:i.size=sz) (ji:0<sz) (hp:σ.ev mx=.one (.ptr n k rs off)) (hv:(σ.ev my).cells?=some (ag,vs)) (hl:vs.length=sz) (hn:σ.h n=some (.row gr m rs xs)) (hk:xs[k]? =some el)
  (hx:nw σ n gr m rs xs k off el vs=some σ2):o.wp P a w (Nx B E w0 N σ2) Q:=by
 obtain⟨x1,_⟩:=r.ev ij
 obtain⟨y1,y2⟩:=r.ev jY
 rw[hp] at x1
 obtain⟨p1,p2⟩:=(x1.fH (by simp)).1 (by rw[hn];simp)
 have hr:=r.hr.row n gr m rs xs hn
 obtain⟨⟨cur,et,q2⟩,l2,l3⟩:=hr.dV p1
 have bO:=y1.cells hv
 have EI:(a.eval y).cells.toList.length=sz:=by rw[bO.1,hl]
 have BB:off+vs.length<=el.length:=by
  unfold nw at hx
  split at hx
  ·cases hx
  ·rename_i fu hs;exact(F4 hs).1
 have tj:∃pe,(G.g n).px[k]? =some pe/\pe.map PC.er=el:=by
  have cO:=hk
  rw[hr.er,List.getElem?_map] at cO
  cases hq:(G.g n).px[k]? with
  |none=>rw[hq] at cO;cases cO
  |some pe=>rw[hq] at cO;simp at cO;exact⟨pe,rfl,cO⟩
 obtain⟨pe,wA,wB⟩:=tj
 have JC:pe.length=el.length:=by rw[<-wB];simp
 have Ek:(G.g n).o+k*rs+off+(a.eval y).cells.toList.length<=cur.size:=by
  have hc:=l2.2.1 k (off+sz - 1) (pe[off+sz - 1]'(by omega)) ⟨pe,wA,List.getElem?_eq_getElem _⟩
  have:=Dy q2 hc
  omega
 obtain⟨G',r'⟩:=r.nw hn p1 hk bO (fun c hc m hm=>y2 m (aj.xY hv hc hm)) hx q2 Ek
 have bX:=KN (P:=P) (w:=w) (t:=t) (i:=i) (b:=(G.g n).b) (off:=(G.g n).o+k*rs+off) (v:=a.eval y) (cur:=cur) (e:=et) hi (by rw[bI,<-EI];simp) q2 (by simpa using Ek) (fun u hu=>by
  obtain⟨j,hj,Ev⟩:=List.getElem_of_mem hu
  have uG:j<vs.length:=by omega
  exact(bO.2 j _ u (List.getElem?_eq_getElem uG) (by rw[List.getElem?_eq_getElem hj,Ev])).1)
 refine Lz (w':=eS w (G.g n).b ((G.g n).o+k*rs+off) (a.eval y).cells.toList cur) ?_ ⟨G',?_⟩
 ·simp only[execOp,ho,p2]
  simp[Instr.storeAt,Instr.sureAddr,bX]
 ·rw[hd];exact r'
def xZ (places:List (Nat×Nat)):List (Nat×Operand)->List (Nat×Nat×MO)->Bool
 |[],[]=>true
 |(i,x)::ps,(off,sz,m)::ms=>(places[i]? ==some (off,sz))&&bz x m&&xZ places ps ms
 |_,_=>false
theorem YC (r:R B E w0 N σ a w G) (places:List (Nat×Nat)):∀(ps:List (Nat×Operand)) (ms:List (Nat×Nat×MO)) (zs cs:List ah) (cur:Array Value),xZ places ps ms=true->
  cT w G σ.h zs cur.toList->(∀c∈zs,∀m,c.ref m->σ.used m=true)->qf σ.ev zs ms=some cs->
  ∃jC,Instr.fill (places.toArray[·]?) cur (ps.map fun p=>(p.1,a.eval p.2))=some jC/\cT w G σ.h cs jC.toList/\∀c∈cs,∀m,c.ref m->σ.used m=true
 |[],[],zs,cs,cur,_,hz,hr,hx=>by
  simp only[qf] at hx
  injection hx with hx
  subst hx
  exact⟨cur,rfl,hz,hr⟩
 |(i,x)::ps,(off,sz,m)::ms,zs,cs,cur,hc,hz,hr,hx=>by
  simp only[xZ,Bool.and_eq_true,beq_iff_eq] at hc
  obtain⟨⟨c1,c2⟩,c3⟩:=hc
  simp only[qf] at hx
  split at hx
  ·rename_i ag vs hv
   split at hx
   ·rename_i cM
    obtain⟨h1,h2⟩:=cM
    obtain⟨y1,y2⟩:=r.ev c2
    have bO:=y1.cells hv
    have si:(a.eval x).cells.size=sz:=by rw[<-Array.length_toList,bO.1,h1]
    have hzl:cur.size=zs.length:=by rw[<-Array.length_toList,hz.1]
    have yP:cT w G σ.h (cu zs off vs) (cu cur.toList off (a.eval x).cells.toList):=by
     have PN:(a.eval x).cells.toList.length=vs.length:=bO.1
     refine⟨?_,fun j c u hj hu=>?_⟩
     ·rw[K7 (by rw[PN,hz.1];omega),K7 (by omega),hz.1]
     ·rw[xn (by omega)] at hj
      rw[xn (by rw[PN,hz.1];omega),PN] at hu
      by_cases fT:off<=j/\j<off+vs.length
      ·rw[if_pos fT] at hj hu;exact bO.2 _ c u hj hu
      ·rw[if_neg fT] at hj hu;exact hz.2 _ c u hj hu
    obtain⟨jC,e1,e2,e3⟩:=YC r places ps ms (cu zs off vs) cs (cu cur.toList off (a.eval x).cells.toList).toArray c3 yP (fun c hc q hq=>by
     simp only[cu,List.mem_append] at hc
     rcases hc with(hc|hc)|hc
     ·exact hr c (List.mem_of_mem_take hc) q hq
     ·exact y2 q (aj.xY hv hc hq)
     ·exact hr c (List.mem_of_mem_drop hc) q hq) hx
    refine⟨jC,?_,e2,e3⟩
    simp only[List.getElem?_toArray] at e1
    simp only[List.map_cons,Instr.fill,List.getElem?_toArray,c1]
    rw[if_neg (by simp;omega),YT _ _ _ (by omega)]
    exact e1
   ·cases hx
  ·cases hx
 |[],_::_,_,_,_,hc,_,_,_=>by simp[xZ] at hc
 |(_,_)::_,[],_,_,_,hc,_,_,_=>by simp[xZ] at hc
theorem afK (r:R B E w0 N σ a w G) {t:TypeId} {parts:Array (Nat×Operand)} {ms:List (Nat×Nat×MO)} {zs cs:List ah} {it:TypeInfo} {z:Value} {oy:Array Field} {places:List (Nat×Nat)} (ho:o.op=.build t parts) (hN:∀n,o.dst=some n->n<N)
  (wu:P.info? t=some it) (hz:it.zero=some z) (hu:P.underlying t=some (.struct oy)) (fK:oy.toList.mapM (fun f=>(P.info? f.type).map fun i=>(f.offset,i.size))=some places)
  (hzc:sV z.cells.toList zs=true) (hc:xZ places parts.toList ms=true) (hx:qf σ.ev zs ms=some cs):o.wp P a w (Nx B E w0 N (σ.put o.dst (.agg cs))) Q:=by
 obtain⟨z1,z2⟩:=Ir (w:=w) (G:=G) (h:=σ.h) hzc
 obtain⟨jC,e1,e2,e3⟩:=YC r places parts.toList ms zs cs z.cells hc z1 (fun c hc m hm=>absurd hm (z2 c hc m)) hx
 refine gI r (v:=.agg jC) ?_ ⟨jC.toList,by simp,e2⟩ (fun m hm=>by obtain⟨c,hc,hm⟩:=hm;exact e3 c hc m hm) hN
 have hb:P.built t (parts.map fun p=>(p.1,a.eval p.2)).toList=some jC:=by
  unfold Program.built
  simp only[wu,hu,hz,fK,Array.toList_map]
  exact e1
 have bX:=run_build (P:=P) w t _ jC hb
 simp only[execOp,ho]
 simp[bX]
theorem af1 (r:R B E w0 N σ a w G) {f:FuncId} {xs:Array Operand} {ms:List MO} {cs:List ah} (ho:o.op=.makeFunc (.func f) #[] xs) (hN:∀n,o.dst=some n->n<N)
  (hc:ms.length=xs.size/\∀(j:Nat) (x:Operand) (m:MO),xs.toList[j]? =some x->ms[j]? =some m->bz x m=true)
  (hx:(ms.map σ.ev).mapM (fun v=>match v with|.one c=>if c.lv=true then none else some c|_=>none)=some cs) (hj:∀c∈cs,c≠ .bn):o.wp P a w (Nx B E w0 N (σ.put o.dst (.one (.fn f cs)))) Q:=by
 have ca:∀(ms:List MO) (xs:List Operand) (cs:List ah),ms.length=xs.length->(∀(j:Nat) (x:Operand) (m:MO),xs[j]? =some x->ms[j]? =some m->bz x m=true)->
   (ms.map σ.ev).mapM (fun v=>match v with|.one c=>if c.lv=true then none else some c|_=>none)=some cs->(∀c∈cs,c≠ .bn)->
   (xs.map a.eval).length=cs.length/\∀(j:Nat) (c:ah) (u:Value),cs[j]? =some c->(xs.map a.eval)[j]? =some u->(u.oneCell'=true/\jw w G σ.h c u)/\∀m,c.iH m->σ.used m=true:=by
  intro ms
  induction ms with
  |nil=>
   intro xs cs hl _ hx _
   have:xs=[]:=List.eq_nil_of_length_eq_zero (by simpa using hl.symm)
   subst this
   simp at hx
   subst hx
   simp
  |cons m ms ih=>
   intro xs cs hl dr hx hj
   match xs,hl with
   |x::xs,hl=>
    simp only[List.map_cons,List.mapM_cons,Option.bind_eq_bind,Option.pure_def] at hx
    cases hm:σ.ev m with
    |one c=>
     rw[hm] at hx
     by_cases hf:c.lv=true
     ·simp[hf] at hx
     ·simp only[hf,if_false,Bool.false_eq_true,Option.bind_some] at hx
      cases hr:(ms.map σ.ev).mapM (fun v=>match v with|.one c=>if c.lv=true then none else some c|_=>none) with
      |none=>rw[hr] at hx;simp at hx
      |some cs'=>
       rw[hr] at hx
       simp at hx
       subst hx
       obtain⟨i1,i2⟩:=ih xs cs' (by simpa using hl) (fun j x m h1 h2=>dr (j+1) x m h1 h2) hr (fun c hc=>hj c (by simp[hc]))
       refine⟨by simp[i1],fun j c' u iC hu=>?_⟩
       cases j with
       |zero=>
        simp at iC hu
        subst iC;subst hu
        obtain⟨e1,e2⟩:=r.ev (dr 0 x m rfl rfl)
        rw[hm] at e1 e2
        have Eo:c.lv=false:=by simpa using hf
        have h1:=(e1.fH (hj c (by simp)))
        rw[xR _ _ _ _ _ Eo] at h1
        exact⟨⟨h1.2,h1.1⟩,fun q hq=>e2 q (by show c.ref q;rw[ah.ab3 c q Eo];exact hq)⟩
       |succ j=>exact i2 j c' u (by simpa using iC) (by simpa using hu)
    |agg ic=>rw[hm] at hx;simp at hx
    |bq l=>rw[hm] at hx;simp at hx
 obtain⟨k1,k2⟩:=ca ms xs.toList cs (by simpa using hc.1) hc.2 hx hj
 have iN:∀m,(ah.fn f cs).ref m->σ.used m=true:=fun m hm=>by
  obtain⟨c,nI,hm⟩:=hm
  obtain⟨j,iC,uG⟩:=List.getElem_of_mem nI
  have mX:j<(xs.toList.map a.eval).length:=by omega
  exact(k2 j c _ (by rw[List.getElem?_eq_getElem iC,uG]) (List.getElem?_eq_getElem mX)).2 m hm
 refine gI r (v:=.func (.func f) #[] (xs.toList.map a.eval).toArray) ?_ (RA.gu rfl ⟨xs.toList.map a.eval,rfl,k1,fun j c u h1 h2=>(k2 j c u h1 h2).1⟩) iN hN
 simp only[execOp,ho,Instr.makeFunc]
 have:Array.map a.eval xs=(xs.toList.map a.eval).toArray:=by apply Array.ext';simp
 simp[this]
theorem AB {α:Type} {xs:List (List α)} {l k j:Nat} {c:α} (h:At (xs.drop l) k j c):At xs (l+k) j c:=by
 obtain⟨e,he,hj⟩:=h
 rw[List.getElem?_drop] at he
 exact⟨e,he,hj⟩
theorem an3 {b l:Nat} {px:List (List PC)} (h:aX b (px.drop l)):aX b px:=by
 obtain⟨k,j,c,h1,h2⟩:=h
 exact⟨_,_,_,AB h1,h2⟩
theorem iy.drop {px:List (List PC)} (h:iy px) (l:Nat):iy (px.drop l):=
 ⟨fun k j c hk=>h.1 _ _ _ (AB hk),fun k j c k' j' c' b hk cO aC=>h.2 _ _ _ _ _ _ b (AB hk) (AB cO) (fun e=>aC (by injection e with e1 e2;rw[show k=k' by omega,e2]))⟩
theorem agb (r:R B E w0 N σ a w G) {n n0:Nat} {t e:TypeId} {i:TypeInfo} {x y:Operand} {mx my:MO} {sz:Nat} {l:Int} {m:Mode} {xs:List (List C)} {σ1:St} (ho:o.op=.slice t x (some y) none none) (hd:o.dst=some n) (hN:n<N)
  (ij:bz x mx=true) (jY:bz y my=true) (ht:P.underlying t=some (.slice e)) (hi:P.info? e=some i) (bI:i.size=sz) (ji:0<sz)
  (hx:σ.ev mx=.one (.sl n0 sz 0 xs.length)) (hl:(σ.ev my).dj=some l) (h0:0<=l) (h1:l<=(xs.length:Int)) (hn:σ.h n0=some (.row true m sz xs)) (Pc:(σ.del n0).ins n (.row true m sz (xs.drop l.toNat))=some σ1):
  o.wp P a w (Nx B E w0 N (σ1.put o.dst (.one (.sl n sz 0 (xs.length - l.toNat))))) Q:=by
 obtain⟨EC,rfl⟩:=mE Pc
 obtain⟨x1,x2⟩:=r.ev ij
 rw[hx] at x1 x2
 obtain⟨kk,ey⟩:=(r.ev jY).1.int hl
 have bP:σ.h n0≠none:=by rw[hn];simp
 have gA:jA (G.g n0) sz 0 xs.length (a.eval x):=(x1.fH (by simp)).1 bP
 have H:=r.hr
 have hr:=H.row n0 true m sz xs hn
 have qR:xs.length=(G.g n0).px.length:=by rw[hr.er];simp
 have F:=lR.Sa H hn
 have hln:l.toNat<=xs.length:=by omega
 obtain⟨p,v,fL,bX,yM,fK,Z0⟩:∃(p:PB) (v:Value),p.px=(G.g n0).px.drop l.toNat/\(execOp a.eval o).run P w=.ok (.value v) w/\(p.nl=true->p.px=[]/\p.cap=0)/\
   (p.nl=false->(G.g n0).nl=false/\p.b=(G.g n0).b/\p.o=(G.g n0).o+l.toNat*sz/\p.cap=(G.g n0).cap - l.toNat/\l.toNat<=(G.g n0).cap)/\jA p sz 0 (xs.length - l.toNat) v:=by
  rcases gA with⟨aL,hv,_,lm⟩|⟨aL,a',hv,jE,ha⟩
  ·have bX:=Fx (P:=P) (w:=w) (ya:=(G.g n0).na) (len:=0) (cap:=(G.g n0).cap) (lo:=some (.int kk l)) (hi':=none) (l:=l) (hh:=0) ht hi bI (.inr ⟨kk,rfl⟩) (.inl ⟨rfl,rfl⟩) h0 (by omega) (by omega) (Nat.zero_le _)
   obtain⟨zy,vU⟩:=hr.nl aL
   have vU:=vU rfl
   have hlz:l.toNat=0:=by omega
   refine⟨⟨true,0,0,0,[],(G.g n0).na⟩,.slice (G.g n0).na 0 0,by rw[zy];simp,?_,fun _=>⟨rfl,rfl⟩,(fun h=>by cases h),.inl ⟨rfl,rfl,rfl,by omega⟩⟩
   simp only[execOp,ho,hv,Option.map_none,Option.map_some,ey]
   rw[vU,hlz] at bX
   simp only[if_true] at bX
   simp[bX,vU]
   omega
  ·have bX:=Fx (P:=P) (w:=w) (ya:=a') (len:=xs.length) (cap:=(G.g n0).cap - 0) (lo:=some (.int kk l)) (hi':=none) (l:=l) (hh:=xs.length) ht hi bI (.inr ⟨kk,rfl⟩) (.inl ⟨rfl,rfl⟩) h0 h1 (by omega) (by omega)
   have pC:=ha (.inr rfl)
   have e2:((xs.length:Int) - l).toNat=xs.length - l.toNat:=by omega
   rw[e2,Nat.sub_zero] at bX
   by_cases hc:(G.g n0).cap=l.toNat
   ·have e3:xs.length - l.toNat=0:=by omega
    rw[if_pos hc,e3] at bX
    refine⟨⟨true,0,0,0,[],a'⟩,.slice a' 0 0,?_,?_,fun _=>⟨rfl,rfl⟩,(fun h=>by cases h),.inl ⟨rfl,rfl,rfl,e3⟩⟩
    ·rw[List.drop_eq_nil_of_le (by omega)]
    ·simp only[execOp,ho,hv,Option.map_none,Option.map_some,ey,Nat.sub_zero]
     rw[hc,Nat.sub_self] at bX
     simp[bX,hc]
   ·rw[if_neg hc,pC] at bX
    simp only[Option.map_some,ou,Nat.zero_mul,Nat.add_zero] at bX
    refine⟨⟨false,(G.g n0).b,(G.g n0).o+l.toNat*sz,(G.g n0).cap - l.toNat,(G.g n0).px.drop l.toNat,none⟩,.slice (some (ad (G.g n0).b ((G.g n0).o+l.toNat*sz))) (xs.length - l.toNat) ((G.g n0).cap - l.toNat),rfl,?_,(fun h=>by cases h),fun _=>⟨aL,rfl,rfl,rfl,by omega⟩,.inr ⟨rfl,some (ad (G.g n0).b ((G.g n0).o+l.toNat*sz)),by simp,by simp;omega,fun _=>by simp⟩⟩
    simp only[execOp,ho,hv,Option.map_none,Option.map_some,ey,Nat.sub_zero,pC,Nat.zero_mul,Nat.add_zero]
    simp[bX]
 have eX:∀b,aX b p.px->aX b (G.g n0).px:=fun b hb=>an3 (by rw[<-fL];exact hb)
 have H1:HR B E w G (av σ.h n0 none) σ.used []:=H.del n0
 have K1:bf w G σ.h (fun q=>σ.used q=true) w G (av σ.h n0 none):=bf.del n0 _
 have Hn:HR B E w ⟨G.Im,av G.g n p⟩ (av (av σ.h n0 none) n (some (.row true m sz (xs.drop l.toNat)))) (av σ.used n true) []:=by
  refine H1.insert (w':=w) (p:=p) EC (fun _ _=>rfl) (Nat.le_refl _) (fun hf=>?_) (fun cs c q hb=>by cases hb) ?_ ?_ ?_ (fun gr m sz xs _ _ i pc b hi=>by simp at hi)
  ·obtain⟨q1,q2,q3,q4,q5⟩:=fK hf
   obtain⟨o1,o2,o3⟩:=H.own n0 bP q1
   rw[q2]
   refine⟨⟨o1,fun q hq Pr=>?_,fun q gr m' aJ aq hq hb=>?_⟩,o2,o3⟩
   ·obtain⟨d1,d2⟩:=AZ hq
    exact H.inj q n0 d1 bP d2 Pr q1
   ·exact H.s9 bP q1 (qz hq).1 hb rfl
  ·refine⟨hr.pos,by rw[fL,hr.er,List.map_drop],fun h=>⟨(yM h).1,fun _=>(yM h).2⟩,fun hf=>?_,fun hf _=>?_,?_⟩
   ·obtain⟨q1,q2,q3,q4,q5⟩:=fK hf
    obtain⟨l1,⟨l2,l3,l4⟩,l5⟩:=hr.dV q1
    rw[q2,q3,q4,fL]
    refine⟨l1,⟨fun e he=>l2 e (List.mem_of_mem_drop he),fun k j c hk=>?_,fun k j c hk=>l4 _ _ _ (AB hk)⟩,by simp;omega⟩
    have:=l3 _ _ _ (AB hk)
    rw[<-this]
    congr 2
    rw[Nat.add_mul]
    omega
   ·obtain⟨q1,q2,q3,q4,q5⟩:=fK hf
    obtain⟨r2,cur,ee,r3,r4⟩:=hr.room q1 rfl
    unfold GV
    rw[q2,q3,q4]
    refine⟨by omega,cur,ee,r3,?_⟩
    rw[r4,Nat.add_assoc,<-Nat.add_mul]
    congr 2
    omega
   ·have hm:=hr.mode
    show Dg B E w _ p.px m
    cases m with
    |aF=>exact fun b hb=>hm b (eX b hb)
    |ab=>exact⟨fun b hb=>hm.1 b (eX b hb),by rw[fL];exact hm.2.drop _⟩
    |live=>exact⟨fun b hb=>hm.1 b (eX b hb),by rw[fL];exact hm.2.drop _⟩
  ·intro gr m' aJ aq hb ik q bm mo ko iw h0 jg b cH
   injection hb with _ hb _ _
   subst hb
   exact F.fI ik q bm mo ko iw h0 jg b (eX b cH)
  ·intro gr aJ aq hb b cH
   injection hb with _ hb _ _
   exact⟨fun hf=>by rw[(fK hf).2.1];exact H.s9 bP (fK hf).1 hn (eX b cH),fun q h0 Pr=>F.live hb b (eX b cH) q h0 Pr⟩
 have r':R B E w0 N {(σ.del n0) with h:=av (σ.del n0).h n (some (.row true m sz (xs.drop l.toNat))),used:=av (σ.del n0).used n true} a w ⟨G.Im,av G.g n p⟩:=
  r.step rfl (fun q hq=>rE n q hq) (bf.trans (u2:=fun q=>σ.used q=true) (fun _ h=>h) K1 (bf.insert H1 EC (fun _ _=>rfl))) Hn r.fr
 have ED:v.oneCell'=true:=by rcases Z0 with⟨_,h,_⟩|⟨_,_,h,_⟩<;>rw[h]<;>rfl
 have dJ:RC w ⟨G.Im,av G.g n p⟩ (av (av σ.h n0 none) n (some (.row true m sz (xs.drop l.toNat)))) (.sl n sz 0 (xs.length - l.toNat)) v:=fun _=>by simpa[bG] using Z0
 refine oe (v:=v) (w':=w) bX ⟨_,r'.put (RA.gu ED dJ) (fun q hq=>by have eD:q=n:=hq;subst eD;exact bG _ _ _) (fun q hq=>by rw[hd] at hq;injection hq with hq;omega)⟩
end
end Go.Am
