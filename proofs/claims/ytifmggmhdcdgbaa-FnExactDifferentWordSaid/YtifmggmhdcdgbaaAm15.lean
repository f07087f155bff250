/- Am15: indexes, lengths, slices, stores, struct literals as operations. No condition. -/
import Derived.Test.YtifmggmhdcdgbaaAm14
set_option linter.unusedVariables false
namespace Go.Am
section
variable {B:Nat} {E:Ex} {w0 w w':World} {G G':Gh} {h h':Nat->Option ar} {used used':Nat->Bool} {tk:List PC} {N:Nat}
variable {P:Program} {o:Oper} {a:Act} {σ σ':St} {Q:Exit->Act->World->Prop}
theorem Jd {n:Nat} (hs:(h n).isSome=true):h n≠none:=by intro hh;rw[hh] at hs;cases hs
theorem Sr {t e:TypeId} {i:TypeInfo} {sz b off len cap:Nat} {kk:IntKind} {q:Int} (ht:P.underlying t=some (.slice e)) (hi:P.info? e=some i) (bA:i.size=sz) (h0:0<=q) (h1:q<len):
  (Instr.indexAt t (.slice (some (ad b off)) len cap) (.int kk q)).run P w=.ok (.pointer (some (ad b (off+q.toNat*sz)))) w:=by
 simp[Instr.indexAt,run_underlying ht,asIntOf,h0,h1,sizeOf,typeInfo,hi,bA,nb]
theorem Wi (r:R B E w0 N σ a w G) {t e:TypeId} {i:TypeInfo} {x y:Operand} {mx my:MO} {sz:Nat} {q:Int} {z:ai} (ho:o.op=.indexAddr t x y) (hN:∀n,o.dst=some n->n<N) (ir:bq x mx=true) (gY:bq y my=true)
  (ht:P.underlying t=some (.slice e)) (hi:P.info? e=some i) (bA:i.size=sz) (hq:(σ.ev my).cN=some q) (h0:0<=q)
  (hz:(∃n lo len,σ.ev mx=.one (.sl n sz lo len)/\q<(len:Int)/\(σ.h n).isSome=true/\z=.one (.ptr n (lo+q.toNat) sz 0))\/(∃xs el,σ.ev mx=.one (.c (.list sz xs))/\xs[q.toNat]? =some el/\z=.one (.bT el 0))):
  o.wp P a w (Nx B E w0 N (σ.put o.dst z)) Q:=by
 obtain⟨x1,x2⟩:=r.ev ir
 obtain⟨kk,ey⟩:=(r.ev gY).1.int hq
 rcases hz with⟨n,lo,len,e1,h1,hs,rfl⟩|⟨xs,el,e1,h1,rfl⟩
 ·rw[e1] at x1 x2
  have gh:jc (G.g n) sz lo len (a.eval x):=(x1.eX (by simp)).1 (Jd hs)
  rcases gh with⟨_,_,_,hl⟩|⟨aL,a',hv,jA,ha⟩
  ·omega
  ·have rU:=ha (.inl (by omega))
   subst rU
   refine fT r (v:=.pointer (some (ad (G.g n).b ((G.g n).o+lo*sz+q.toNat*sz)))) ?_ ?_ (fun m hm=>x2 m hm) hN
   ·simp only[execOp,ho,hv,ey]
    simp[Sr ht hi bA h0 h1]
   ·exact RA.fQ rfl fun _=>⟨aL,by rw[Nat.add_mul];congr 3;omega⟩
 ·rw[e1] at x1
  obtain⟨pc,p1,p2,p3,p4⟩:=x1.c
  cases pc with
  |int k n=>simp[PC.er] at p1
  |bool b=>simp[PC.er] at p1
  |list s' ya c py=>
   rw[PC.df] at p1
   injection p1 with p0 p1
   subst p0
   have tR:∃pe,py[q.toNat]? =some pe/\pe.map PC.er=el:=by
    rw[<-p1,List.getElem?_map] at h1
    cases hp:py[q.toNat]? with
    |none=>rw[hp] at h1;cases h1
    |some pe=>rw[hp] at h1;simp at h1;exact⟨pe,rfl,h1⟩
   obtain⟨pe,tQ,qQ⟩:=tR
   have bN:q.toNat<py.length:=(List.getElem?_eq_some_iff.1 tQ).1
   cases p3 with
   |nil _ _ _ _=>simp at bN
   |cons _ b oo _ _ g1 g2 g3 g4 g5 g6=>
    have dH:q<(py.length:Int):=by omega
    refine fT r (v:=.pointer (some (ad b (oo+q.toNat*s')))) ?_ ?_ (fun m hm=>absurd hm (by simp[ai.ref,ah.ref,ah.gU])) hN
    ·simp only[execOp,ho,<-p2,PC.val,ey]
     simp[Sr ht hi bA h0 dH]
    ·refine RA.fQ rfl ⟨b,oo+q.toNat*s',pe,by simp,qQ,p4 b (.here _ _ _ _ g1),fun j c hj=>?_⟩
     exact⟨g5 _ _ _ ⟨pe,tQ,hj⟩,g6 _ _ _ ⟨pe,tQ,hj⟩,fun b' aU=>p4 b' (.there _ _ _ _ _ _ c ⟨pe,tQ,hj⟩ aU)⟩
theorem Hz (r:R B E w0 N σ a w G) {t e:TypeId} {x:Operand} {mx:MO} {len:Nat} (ho:o.op=.call {callee:=.builtin .len,args:=#[x],argTypes:=#[t]}) (hN:∀n,o.dst=some n->n<N) (hm:bq x mx=true)
  (ht:P.underlying t=some (.slice e))
  (hz:(∃n sz lo,σ.ev mx=.one (.sl n sz lo len)/\(σ.h n).isSome=true)\/(∃sz xs,σ.ev mx=.one (.c (.list sz xs))/\len=xs.length)\/(∃sz,σ.ev mx=.one (.nil sz)/\len=0)\/
   (∃n k ax off sz l s ys,σ.ev mx=.one (.br n k ax off sz l)/\bM σ.h (.br n k ax off sz l)=some (.list s ys)/\len=ys.length)):
  o.wp P a w (Nx B E w0 N (σ.put o.dst (.one (.c (.int .i64 len))))) Q:=by
 obtain⟨x1,x2⟩:=r.ev hm
 have hv:∃a' c,a.eval x=.slice a' len c:=by
  rcases hz with⟨n,sz,lo,e1,hs⟩|⟨sz,xs,e1,rfl⟩|⟨sz,e1,rfl⟩|⟨n,k,ax,off,sz,l,s,ys,e1,Oi,rfl⟩
  ·rw[e1] at x1
   have gh:jc (G.g n) sz lo len (a.eval x):=(x1.eX (by simp)).1 (Jd hs)
   rcases gh with⟨_,hv,_,rfl⟩|⟨_,a',hv,_,_⟩
   ·exact⟨_,_,hv⟩
   ·exact⟨_,_,hv⟩
  ·rw[e1] at x1
   obtain⟨pc,p1,p2,_⟩:=x1.c
   cases pc with
   |int k n=>simp[PC.er] at p1
   |bool b=>simp[PC.er] at p1
   |list s' ya c py=>
    rw[PC.df] at p1
    injection p1 with _ p1
    refine⟨ya,c,?_⟩
    rw[<-p2,<-p1];simp[PC.val]
  ·rw[e1] at x1
   have fi:a.eval x=.slice none 0 0:=(x1.eX (by simp)).1
   exact⟨_,_,fi⟩
  ·rw[e1] at x1
   obtain⟨pc,p1,p2,_⟩:=r.hr.bM Oi (x1.eX (by simp)).1
   cases pc with
   |int k n=>simp[PC.er] at p1
   |bool b=>simp[PC.er] at p1
   |list s' ya c py=>
    rw[PC.df] at p1
    injection p1 with _ p1
    refine⟨ya,c,?_⟩
    rw[<-p2,<-p1];simp[PC.val]
 obtain⟨a',c,hv⟩:=hv
 refine fT r (v:=.int .i64 len) ?_ (RA.of_int _ _) (fun q hq=>absurd hq pU) hN
 simp[execOp,ho,resolve,invoke,builtin,hv,Builtin.len_,run_underlying ht,goInt]
theorem EB {t e:TypeId} {i:TypeInfo} {sz:Nat} {ya:Option Addr} {len cap:Nat} {lo hi':Option Value} {l hh:Int} (ht:P.underlying t=some (.slice e)) (hi:P.info? e=some i) (bA:i.size=sz)
  (vF:(lo=none/\l=0)\/∃k,lo=some (.int k l)) (tM:(hi'=none/\hh=len)\/∃k,hi'=some (.int k hh)) (h0:0<=l) (h1:l<=hh) (h2:hh<=len) (h3:len<=cap):
  (Instr.sliceAt t (.slice ya len cap) lo hi' none).run P w=.ok (.slice (if cap=l.toNat then ya else ya.map (·.add (l.toNat*sz))) (hh - l).toNat (cap - l.toNat)) w:=by
 have e1:(hh.toNat:Int)=hh:=Int.toNat_of_nonneg (by omega)
 have e2:(hh - l).toNat=hh.toNat - l.toNat:=by omega
 have h4:hh<=(cap:Int):=by omega
 have h5:0<=hh:=by omega
 rcases vF with⟨rfl,rfl⟩|⟨k,rfl⟩<;>rcases tM with⟨rfl,rfl⟩|⟨k',rfl⟩<;>
  simp[Instr.sliceAt,Instr.slice,run_underlying ht,Instr.sliceBounds,Instr.sliceBound,asIntOf,sizeOf,typeInfo,hi,bA,h0,h1,h4,h5,e1,e2]<;>omega
theorem Wn (r:R B E w0 N σ a w G) {t e:TypeId} {i:TypeInfo} {x:Operand} {lo hi':Option Operand} {mx:MO} {sz:Nat} {l hh:Int} {z:ai} (ho:o.op=.slice t x lo hi' none) (hN:∀n,o.dst=some n->n<N) (ir:bq x mx=true)
  (ht:P.underlying t=some (.slice e)) (hi:P.info? e=some i) (bA:i.size=sz) (iw:0<sz) {len:Nat}
  (vF:(lo=none/\l=0)\/∃y my,lo=some y/\bq y my=true/\(σ.ev my).cN=some l) (tM:(hi'=none/\hh=len)\/∃y my,hi'=some y/\bq y my=true/\(σ.ev my).cN=some hh)
  (h0:0<=l) (h1:l<=hh) (h2:hh<=len)
  (hz:(∃n l0,σ.ev mx=.one (.sl n sz l0 len)/\(σ.h n).isSome=true/\z=.one (.sl n sz (l0+l.toNat) (hh - l).toNat))\/(∃xs,σ.ev mx=.one (.c (.list sz xs))/\len=xs.length/\z=.one (.c (.list sz ((xs.drop l.toNat).take (hh - l).toNat))))):
  o.wp P a w (Nx B E w0 N (σ.put o.dst z)) Q:=by
 obtain⟨x1,x2⟩:=r.ev ir
 have NV:(lo.map a.eval=none/\l=0)\/∃k,lo.map a.eval=some (.int k l):=by
  rcases vF with⟨rfl,h⟩|⟨y,my,rfl,c1,c2⟩
  ·exact .inl ⟨rfl,h⟩
  ·obtain⟨k,hk⟩:=(r.ev c1).1.int c2
   exact .inr ⟨k,by simp[hk]⟩
 have NL:(hi'.map a.eval=none/\hh=len)\/∃k,hi'.map a.eval=some (.int k hh):=by
  rcases tM with⟨rfl,h⟩|⟨y,my,rfl,c1,c2⟩
  ·exact .inl ⟨rfl,h⟩
  ·obtain⟨k,hk⟩:=(r.ev c1).1.int c2
   exact .inr ⟨k,by simp[hk]⟩
 rcases hz with⟨n,l0,e1,hs,rfl⟩|⟨xs,e1,rfl,rfl⟩
 ·rw[e1] at x1 x2
  have gh:jc (G.g n) sz l0 len (a.eval x):=(x1.eX (by simp)).1 (Jd hs)
  rcases gh with⟨aL,hv,rfl,rfl⟩|⟨aL,a',hv,jA,ha⟩
  ·have hr:=EB (P:=P) (w:=w) (ya:=(G.g n).na) (len:=0) (cap:=(G.g n).cap) ht hi bA NV NL h0 h1 h2 (Nat.zero_le _)
   have kb:l.toNat=0:=by omega
   have hh0:(hh - l).toNat=0:=by omega
   refine fT r (v:=.slice (G.g n).na 0 (G.g n).cap) ?_ (RA.fQ rfl fun _=>.inl ⟨aL,rfl,by omega,by omega⟩) (fun m hm=>x2 m hm) hN
   simp only[execOp,ho,hv,Option.map_none]
   simp only[kb,hh0,Nat.zero_mul] at hr
   have ha:(G.g n).na.map (fun x=>x.add 0)=(G.g n).na:=by
    cases (G.g n).na with
    |none=>rfl
    |some x=>simp[Addr.add]
   rw[ha] at hr
   simp[hr]
  ·have hr:=EB (P:=P) (w:=w) (ya:=a') (len:=len) (cap:=(G.g n).cap - l0) ht hi bA NV NL h0 h1 h2 (by omega)
   refine fT r (by simp only[execOp,ho,hv,Option.map_none];simp[hr];rfl) (RA.fQ rfl fun _=>.inr ⟨aL,_,by rw[Nat.sub_sub],by omega,fun hc=>?_⟩) (fun m hm=>x2 m hm) hN
   split
   ·rename_i bI
    have:l0=0/\l.toNat=0:=by omega
    rw[ha (.inr this.1),this.1,this.2]
   ·rename_i bI
    have bN:l0<(G.g n).cap:=by omega
    rw[ha (.inl bN)]
    simp only[Option.map_some,nb]
    rw[Nat.add_mul,Nat.add_assoc]
 ·rw[e1] at x1
  obtain⟨pc,p1,p2,p3,p4⟩:=x1.c
  cases pc with
  |int k n=>simp[PC.er] at p1
  |bool b=>simp[PC.er] at p1
  |list s' ya c py=>
   rw[PC.df] at p1
   injection p1 with p0 p1
   subst p0
   have hlen:xs.length=py.length:=by rw[<-p1];simp
   have hv:a.eval x=.slice ya xs.length c:=by rw[<-p2,hlen];rfl
   have jA:xs.length<=c\/py=[]:=by
    cases p3 with
    |nil _ _ _ _=>exact .inr rfl
    |cons _ b oo _ _ g1 g2 g3 g4 g5 g6=>exact .inl (by rw[hlen];exact g2)
   have Da:xs.length<=c:=by
    rcases jA with hc|hc
    ·exact hc
    ·rw[hlen,hc];exact Nat.zero_le _
   have hr:=EB (P:=P) (w:=w) (ya:=ya) (len:=xs.length) (cap:=c) ht hi bA NV NL h0 h1 h2 Da
   have afH:((py.drop l.toNat).take (hh - l).toNat).length=(hh - l).toNat:=by simp;omega
   let cR:PC:=.list s' (if c=l.toNat then ya else ya.map (·.add (l.toNat*s'))) (c - l.toNat) ((py.drop l.toNat).take (hh - l).toNat)
   have gd:Good w cR/\∀b,aN b cR->G.Im b:=by
    by_cases Aa:(py.drop l.toNat).take (hh - l).toNat=[]
    ·constructor
     ·show Good w (.list _ _ _ _)
      rw[Aa];exact .nil _ _ _ iw
     ·intro b hb
      rw[aN.jP,Aa] at hb
      rcases hb with⟨hb,_⟩|⟨k,j,c,⟨e,he,_⟩,_⟩
      ·exact absurd rfl hb
      ·simp at he
    ·cases p3 with
     |nil _ _ _ _=>simp at Aa
     |cons _ b oo _ _ g1 g2 g3 g4 g5 g6=>
      have d9:0<(hh - l).toNat:=by
       rcases Nat.eq_zero_or_pos (hh - l).toNat with hz|hz
       ·rw[hz] at Aa;simp at Aa
       ·exact hz
      have aA:c≠l.toNat:=by omega
      have aZ:cR=.list s' (some (ad b (oo+l.toNat*s'))) (c - l.toNat) ((py.drop l.toNat).take (hh - l).toNat):=by
       show PC.list _ _ _ _=_
       rw[if_neg aA];simp[nb]
      rw[aZ]
      constructor
      ·refine .cons _ _ _ _ _ Aa (by omega) g3 (fun e he=>g4 e (List.mem_of_mem_drop (List.mem_of_mem_take he))) (fun k j c' hk=>?_) (fun k j c' hk=>g6 _ _ _ (n7 hk).1)
       have:=g5 _ _ _ (n7 hk).1
       rw[Nat.add_mul] at this
       rw[<-this]
       congr 2
       omega
      ·intro x hx
       rw[aN.jP] at hx
       rcases hx with⟨_,o',fU⟩|⟨k,j,c',hk,hx⟩
       ·injection fU with fU
        rw[<-(nc fU).1]
        exact p4 b (.here _ _ _ _ g1)
       ·exact p4 x (.there _ _ _ _ _ _ c' (n7 hk).1 hx)
   refine fT r (v:=cR.val) ?_ (RA.fQ (PC.jU _) ⟨cR,?_,rfl,gd.1,gd.2⟩) (fun q hq=>absurd hq pU) hN
   ·simp only[execOp,ho,hv,Option.map_none]
    simp[hr,cR,PC.val,afH]
   ·show PC.er (.list _ _ _ _)=_
    rw[PC.df,List.map_take,List.map_drop,p1]
theorem Cv {b x:Nat} {v:Value} {cur:Array Value} {e:TypeId} (hg:w.heap[b]? =some (.cells cur e (0,0))) (hc:w.cell? (ad b x)=some v):x<cur.size:=by
 have h2:w.cell? (ad b x)=cur[x]? :=by simp[World.cell?,ad,hg]
 rw[h2] at hc
 exact(Array.getElem?_eq_some_iff.1 hc).1
theorem adQ (r:R B E w0 N σ a w G) {t:TypeId} {i:TypeInfo} {x y:Operand} {mx my:MO} {sz n k ax off:Nat} {ag:Bool} {vs cs:List ah} (ho:o.op=.store t x y) (hd:o.dst=none) (ir:bq x mx=true) (gY:bq y my=true)
  (hi:P.info? t=some i) (bA:i.size=sz) (iw:0<sz) (hp:σ.ev mx=.one (.ptr n k ax off)) (hv:(σ.ev my).cells?=some (ag,vs)) (hl:vs.length=sz) (hn:σ.h n=some (.box cs)) (hk:k=0) (gz:off+sz<=cs.length):
  o.wp P a w (Nx B E w0 N (σ.cX n (.box (bP cs off vs)))) Q:=by
 obtain⟨x1,_⟩:=r.ev ir
 obtain⟨y1,y2⟩:=r.ev gY
 rw[hp] at x1
 subst hk
 obtain⟨p1,p2⟩:=(x1.eX (by simp)).1 (by rw[hn];simp)
 obtain⟨q1,⟨cur,et,q2⟩,q3⟩:=r.hr.box n cs hn
 have bI:=y1.cells hv
 have Dy:(a.eval y).cells.toList.length=sz:=by rw[bI.1,hl]
 have C6:(G.g n).o+off+(a.eval y).cells.toList.length<=cur.size:=by
  obtain⟨v,v1,_⟩:=q3 (off+sz - 1) (cs[off+sz - 1]'(by omega)) (List.getElem?_eq_getElem _)
  have:=Cv q2 v1
  omega
 have r':=r.anV hn bI (fun c hc m hm=>y2 m (ai.zI hv hc hm)) (by omega) q2 C6
 have bm:=J7 (P:=P) (w:=w) (t:=t) (i:=i) (b:=(G.g n).b) (off:=(G.g n).o+off) (v:=a.eval y) (cur:=cur) (e:=et) hi (by rw[bA,<-Dy];simp) q2 (by simpa using C6) (fun u hu=>by
  obtain⟨j,hj,Dg⟩:=List.getElem_of_mem hu
  have tN:j<vs.length:=by omega
  have:=(bI.2 j _ u (List.getElem?_eq_getElem tN) (by rw[List.getElem?_eq_getElem hj,Dg])).1
  exact this)
 refine KM (w':=dS w (G.g n).b ((G.g n).o+off) (a.eval y).cells.toList cur) ?_ ⟨G,?_⟩
 ·simp only[execOp,ho,p2,Nat.zero_mul,Nat.add_zero]
  simp[Instr.storeAt,Instr.sureAddr,bm]
 ·rw[hd];exact r'
theorem adS (r:R B E w0 N σ a w G) {t:TypeId} {i:TypeInfo} {x y:Operand} {mx my:MO} {sz n k off:Nat} {ag gr:Bool} {m:Mode} {rs:Nat} {xs:List (List C)} {el:List C} {vs:List ah} {σ2:St} (ho:o.op=.store t x y) (hd:o.dst=none) (ir:bq x mx=true) (gY:bq y my=true)
  (hi:P.info? t=some i) (bA:i.size=sz) (iw:0<sz) (hp:σ.ev mx=.one (.ptr n k rs off)) (hv:(σ.ev my).cells?=some (ag,vs)) (hl:vs.length=sz) (hn:σ.h n=some (.row gr m rs xs)) (hk:xs[k]? =some el)
  (hx:ma σ n gr m rs xs k off el vs=some σ2):o.wp P a w (Nx B E w0 N σ2) Q:=by
 obtain⟨x1,_⟩:=r.ev ir
 obtain⟨y1,y2⟩:=r.ev gY
 rw[hp] at x1
 obtain⟨p1,p2⟩:=(x1.eX (by simp)).1 (by rw[hn];simp)
 have hr:=r.hr.row n gr m rs xs hn
 obtain⟨⟨cur,et,q2⟩,l2,l3⟩:=hr.dq p1
 have bI:=y1.cells hv
 have Dy:(a.eval y).cells.toList.length=sz:=by rw[bI.1,hl]
 have Ib:off+vs.length<=el.length:=by
  unfold ma at hx
  split at hx
  ·cases hx
  ·rename_i fB hs;exact(EZ hs).1
 have tR:∃pe,(G.g n).px[k]? =some pe/\pe.map PC.er=el:=by
  have cM:=hk
  rw[hr.er,List.getElem?_map] at cM
  cases hq:(G.g n).px[k]? with
  |none=>rw[hq] at cM;cases cM
  |some pe=>rw[hq] at cM;simp at cM;exact⟨pe,rfl,cM⟩
 obtain⟨pe,vH,vI⟩:=tR
 have Ic:pe.length=el.length:=by rw[<-vI];simp
 have C6:(G.g n).o+k*rs+off+(a.eval y).cells.toList.length<=cur.size:=by
  have hc:=l2.2.1 k (off+sz - 1) (pe[off+sz - 1]'(by omega)) ⟨pe,vH,List.getElem?_eq_getElem _⟩
  have:=Cv q2 hc
  omega
 obtain⟨G',r'⟩:=r.ma hn p1 hk bI (fun c hc m hm=>y2 m (ai.zI hv hc hm)) hx q2 C6
 have bm:=J7 (P:=P) (w:=w) (t:=t) (i:=i) (b:=(G.g n).b) (off:=(G.g n).o+k*rs+off) (v:=a.eval y) (cur:=cur) (e:=et) hi (by rw[bA,<-Dy];simp) q2 (by simpa using C6) (fun u hu=>by
  obtain⟨j,hj,Dg⟩:=List.getElem_of_mem hu
  have tN:j<vs.length:=by omega
  exact(bI.2 j _ u (List.getElem?_eq_getElem tN) (by rw[List.getElem?_eq_getElem hj,Dg])).1)
 refine KM (w':=dS w (G.g n).b ((G.g n).o+k*rs+off) (a.eval y).cells.toList cur) ?_ ⟨G',?_⟩
 ·simp only[execOp,ho,p2]
  simp[Instr.storeAt,Instr.sureAddr,bm]
 ·rw[hd];exact r'
def xx (places:List (Nat×Nat)):List (Nat×Operand)->List (Nat×Nat×MO)->Bool
 |[],[]=>true
 |(i,x)::ps,(off,sz,m)::ms=>(places[i]? ==some (off,sz))&&bq x m&&xx places ps ms
 |_,_=>false
theorem Wy (r:R B E w0 N σ a w G) (places:List (Nat×Nat)):∀(ps:List (Nat×Operand)) (ms:List (Nat×Nat×MO)) (zs cs:List ah) (cur:Array Value),xx places ps ms=true->
  cj w G σ.h zs cur.toList->(∀c∈zs,∀m,c.ref m->σ.used m=true)->oW σ.ev zs ms=some cs->
  ∃iK,Instr.fill (places.toArray[·]?) cur (ps.map fun p=>(p.1,a.eval p.2))=some iK/\cj w G σ.h cs iK.toList/\∀c∈cs,∀m,c.ref m->σ.used m=true
 |[],[],zs,cs,cur,_,hz,hr,hx=>by
  simp only[oW] at hx
  injection hx with hx
  subst hx
  exact⟨cur,rfl,hz,hr⟩
 |(i,x)::ps,(off,sz,m)::ms,zs,cs,cur,hc,hz,hr,hx=>by
  simp only[xx,Bool.and_eq_true,beq_iff_eq] at hc
  obtain⟨⟨c1,c2⟩,c3⟩:=hc
  simp only[oW] at hx
  split at hx
  ·rename_i ag vs hv
   split at hx
   ·rename_i cd
    obtain⟨h1,h2⟩:=cd
    obtain⟨y1,y2⟩:=r.ev c2
    have bI:=y1.cells hv
    have qT:(a.eval x).cells.size=sz:=by rw[<-Array.length_toList,bI.1,h1]
    have hzl:cur.size=zs.length:=by rw[<-Array.length_toList,hz.1]
    have yg:cj w G σ.h (bP zs off vs) (bP cur.toList off (a.eval x).cells.toList):=by
     have Og:(a.eval x).cells.toList.length=vs.length:=bI.1
     refine⟨?_,fun j c u hj hu=>?_⟩
     ·rw[Kl (by rw[Og,hz.1];omega),Kl (by omega),hz.1]
     ·rw[wP (by omega)] at hj
      rw[wP (by rw[Og,hz.1];omega),Og] at hu
      by_cases fH:off<=j/\j<off+vs.length
      ·rw[if_pos fH] at hj hu;exact bI.2 _ c u hj hu
      ·rw[if_neg fH] at hj hu;exact hz.2 _ c u hj hu
    obtain⟨iK,e1,e2,e3⟩:=Wy r places ps ms (bP zs off vs) cs (bP cur.toList off (a.eval x).cells.toList).toArray c3 yg (fun c hc q hq=>by
     simp only[bP,List.mem_append] at hc
     rcases hc with(hc|hc)|hc
     ·exact hr c (List.mem_of_mem_take hc) q hq
     ·exact y2 q (ai.zI hv hc hq)
     ·exact hr c (List.mem_of_mem_drop hc) q hq) hx
    refine⟨iK,?_,e2,e3⟩
    simp only[List.getElem?_toArray] at e1
    simp only[List.map_cons,Instr.fill,List.getElem?_toArray,c1]
    rw[if_neg (by simp;omega),WO _ _ _ (by omega)]
    exact e1
   ·cases hx
  ·cases hx
 |[],_::_,_,_,_,hc,_,_,_=>by simp[xx] at hc
 |(_,_)::_,[],_,_,_,hc,_,_,_=>by simp[xx] at hc
theorem adw (r:R B E w0 N σ a w G) {t:TypeId} {parts:Array (Nat×Operand)} {ms:List (Nat×Nat×MO)} {zs cs:List ah} {it:TypeInfo} {z:Value} {nj:Array Field} {places:List (Nat×Nat)} (ho:o.op=.build t parts) (hN:∀n,o.dst=some n->n<N)
  (vD:P.info? t=some it) (hz:it.zero=some z) (hu:P.underlying t=some (.struct nj)) (fK:nj.toList.mapM (fun f=>(P.info? f.type).map fun i=>(f.offset,i.size))=some places)
  (XT:rK z.cells.toList zs=true) (hc:xx places parts.toList ms=true) (hx:oW σ.ev zs ms=some cs):o.wp P a w (Nx B E w0 N (σ.put o.dst (.agg cs))) Q:=by
 obtain⟨z1,z2⟩:=GZ (w:=w) (G:=G) (h:=σ.h) XT
 obtain⟨iK,e1,e2,e3⟩:=Wy r places parts.toList ms zs cs z.cells hc z1 (fun c hc m hm=>absurd hm (z2 c hc m)) hx
 refine fT r (v:=.agg iK) ?_ ⟨iK.toList,by simp,e2⟩ (fun m hm=>by obtain⟨c,hc,hm⟩:=hm;exact e3 c hc m hm) hN
 have hb:P.built t (parts.map fun p=>(p.1,a.eval p.2)).toList=some iK:=by
  unfold Program.built
  simp only[vD,hu,hz,fK,Array.toList_map]
  exact e1
 have bm:=run_build (P:=P) w t _ iK hb
 simp only[execOp,ho]
 simp[bm]
theorem adM (r:R B E w0 N σ a w G) {f:FuncId} {xs:Array Operand} {ms:List MO} {cs:List ah} (ho:o.op=.makeFunc (.func f) #[] xs) (hN:∀n,o.dst=some n->n<N)
  (hc:ms.length=xs.size/\∀(j:Nat) (x:Operand) (m:MO),xs.toList[j]? =some x->ms[j]? =some m->bq x m=true)
  (hx:(ms.map σ.ev).mapM (fun v=>match v with|.one c=>if c.kl=true then none else some c|_=>none)=some cs) (hj:∀c∈cs,c≠ .bg):o.wp P a w (Nx B E w0 N (σ.put o.dst (.one (.fn f cs)))) Q:=by
 have cq:∀(ms:List MO) (xs:List Operand) (cs:List ah),ms.length=xs.length->(∀(j:Nat) (x:Operand) (m:MO),xs[j]? =some x->ms[j]? =some m->bq x m=true)->
   (ms.map σ.ev).mapM (fun v=>match v with|.one c=>if c.kl=true then none else some c|_=>none)=some cs->(∀c∈cs,c≠ .bg)->
   (xs.map a.eval).length=cs.length/\∀(j:Nat) (c:ah) (u:Value),cs[j]? =some c->(xs.map a.eval)[j]? =some u->(u.oneCell'=true/\iG w G σ.h c u)/\∀m,c.gU m->σ.used m=true:=by
  intro ms
  induction ms with
  |nil=>
   intro xs cs hl _ hx _
   have:xs=[]:=List.eq_nil_of_length_eq_zero (by simpa using hl.symm)
   subst this
   simp at hx
   subst hx
   simp
  |cons m ms ih=>
   intro xs cs hl dg hx hj
   match xs,hl with
   |x::xs,hl=>
    simp only[List.map_cons,List.mapM_cons,Option.bind_eq_bind,Option.pure_def] at hx
    cases hm:σ.ev m with
    |one c=>
     rw[hm] at hx
     by_cases hf:c.kl=true
     ·simp[hf] at hx
     ·simp only[hf,if_false,Bool.false_eq_true,Option.bind_some] at hx
      cases hr:(ms.map σ.ev).mapM (fun v=>match v with|.one c=>if c.kl=true then none else some c|_=>none) with
      |none=>rw[hr] at hx;simp at hx
      |some cs'=>
       rw[hr] at hx
       simp at hx
       subst hx
       obtain⟨i1,i2⟩:=ih xs cs' (by simpa using hl) (fun j x m h1 h2=>dg (j+1) x m h1 h2) hr (fun c hc=>hj c (by simp[hc]))
       refine⟨by simp[i1],fun j c' u jD hu=>?_⟩
       cases j with
       |zero=>
        simp at jD hu
        subst jD;subst hu
        obtain⟨e1,e2⟩:=r.ev (dg 0 x m rfl rfl)
        rw[hm] at e1 e2
        have Db:c.kl=false:=by simpa using hf
        have h1:=(e1.eX (hj c (by simp)))
        rw[xp _ _ _ _ _ Db] at h1
        exact⟨⟨h1.2,h1.1⟩,fun q hq=>e2 q (by show c.ref q;rw[ah.aao c q Db];exact hq)⟩
       |succ j=>exact i2 j c' u (by simpa using jD) (by simpa using hu)
    |agg gu=>rw[hm] at hx;simp at hx
    |bj l=>rw[hm] at hx;simp at hx
 obtain⟨k1,k2⟩:=cq ms xs.toList cs (by simpa using hc.1) hc.2 hx hj
 have g0:∀m,(ah.fn f cs).ref m->σ.used m=true:=fun m hm=>by
  obtain⟨c,mC,hm⟩:=hm
  obtain⟨j,jD,tN⟩:=List.getElem_of_mem mC
  have tO:j<(xs.toList.map a.eval).length:=by omega
  exact(k2 j c _ (by rw[List.getElem?_eq_getElem jD,tN]) (List.getElem?_eq_getElem tO)).2 m hm
 refine fT r (v:=.func (.func f) #[] (xs.toList.map a.eval).toArray) ?_ (RA.fQ rfl ⟨xs.toList.map a.eval,rfl,k1,fun j c u h1 h2=>(k2 j c u h1 h2).1⟩) g0 hN
 simp only[execOp,ho,Instr.makeFunc]
 have:Array.map a.eval xs=(xs.toList.map a.eval).toArray:=by apply Array.ext';simp
 simp[this]
theorem zz {α:Type} {xs:List (List α)} {l k j:Nat} {c:α} (h:At (xs.drop l) k j c):At xs (l+k) j c:=by
 obtain⟨e,he,hj⟩:=h
 rw[List.getElem?_drop] at he
 exact⟨e,he,hj⟩
theorem amW {b l:Nat} {px:List (List PC)} (h:aR b (px.drop l)):aR b px:=by
 obtain⟨k,j,c,h1,h2⟩:=h
 exact⟨_,_,_,zz h1,h2⟩
theorem gI.drop {px:List (List PC)} (h:gI px) (l:Nat):gI (px.drop l):=
 ⟨fun k j c hk=>h.1 _ _ _ (zz hk),fun k j c k' j' c' b hk cM aA=>h.2 _ _ _ _ _ _ b (zz hk) (zz cM) (fun e=>aA (by injection e with e1 e2;rw[show k=k' by omega,e2]))⟩
theorem adT (r:R B E w0 N σ a w G) {n n0:Nat} {t e:TypeId} {i:TypeInfo} {x y:Operand} {mx my:MO} {sz:Nat} {l:Int} {m:Mode} {xs:List (List C)} {σ1:St} (ho:o.op=.slice t x (some y) none none) (hd:o.dst=some n) (hN:n<N)
  (ir:bq x mx=true) (gY:bq y my=true) (ht:P.underlying t=some (.slice e)) (hi:P.info? e=some i) (bA:i.size=sz) (iw:0<sz)
  (hx:σ.ev mx=.one (.sl n0 sz 0 xs.length)) (hl:(σ.ev my).cN=some l) (h0:0<=l) (h1:l<=(xs.length:Int)) (hn:σ.h n0=some (.row true m sz xs)) (hi1:(σ.del n0).ins n (.row true m sz (xs.drop l.toNat))=some σ1):
  o.wp P a w (Nx B E w0 N (σ1.put o.dst (.one (.sl n sz 0 (xs.length - l.toNat))))) Q:=by
 obtain⟨Dn,rfl⟩:=lO hi1
 obtain⟨x1,x2⟩:=r.ev ir
 rw[hx] at x1 x2
 obtain⟨kk,ey⟩:=(r.ev gY).1.int hl
 have bF:σ.h n0≠none:=by rw[hn];simp
 have gh:jc (G.g n0) sz 0 xs.length (a.eval x):=(x1.eX (by simp)).1 bF
 have H:=r.hr
 have hr:=H.row n0 true m sz xs hn
 have pE:xs.length=(G.g n0).px.length:=by rw[hr.er];simp
 have F:=kH.QX H hn
 have hln:l.toNat<=xs.length:=by omega
 obtain⟨p,v,e8,bm,Ai,fK,XG⟩:∃(p:PB) (v:Value),p.px=(G.g n0).px.drop l.toNat/\(execOp a.eval o).run P w=.ok (.value v) w/\(p.nl=true->p.px=[]/\p.cap=0)/\
   (p.nl=false->(G.g n0).nl=false/\p.b=(G.g n0).b/\p.o=(G.g n0).o+l.toNat*sz/\p.cap=(G.g n0).cap - l.toNat/\l.toNat<=(G.g n0).cap)/\jc p sz 0 (xs.length - l.toNat) v:=by
  rcases gh with⟨aL,hv,_,kb⟩|⟨aL,a',hv,jA,ha⟩
  ·have bm:=EB (P:=P) (w:=w) (ya:=(G.g n0).na) (len:=0) (cap:=(G.g n0).cap) (lo:=some (.int kk l)) (hi':=none) (l:=l) (hh:=0) ht hi bA (.inr ⟨kk,rfl⟩) (.inl ⟨rfl,rfl⟩) h0 (by omega) (by omega) (Nat.zero_le _)
   obtain⟨yP,vi⟩:=hr.nl aL
   have vi:=vi rfl
   have hlz:l.toNat=0:=by omega
   refine⟨⟨true,0,0,0,[],(G.g n0).na⟩,.slice (G.g n0).na 0 0,by rw[yP];simp,?_,fun _=>⟨rfl,rfl⟩,(fun h=>by cases h),.inl ⟨rfl,rfl,rfl,by omega⟩⟩
   simp only[execOp,ho,hv,Option.map_none,Option.map_some,ey]
   rw[vi,hlz] at bm
   simp only[if_true] at bm
   simp[bm,vi]
   omega
  ·have bm:=EB (P:=P) (w:=w) (ya:=a') (len:=xs.length) (cap:=(G.g n0).cap - 0) (lo:=some (.int kk l)) (hi':=none) (l:=l) (hh:=xs.length) ht hi bA (.inr ⟨kk,rfl⟩) (.inl ⟨rfl,rfl⟩) h0 h1 (by omega) (by omega)
   have rU:=ha (.inr rfl)
   have e2:((xs.length:Int) - l).toNat=xs.length - l.toNat:=by omega
   rw[e2,Nat.sub_zero] at bm
   by_cases hc:(G.g n0).cap=l.toNat
   ·have e3:xs.length - l.toNat=0:=by omega
    rw[if_pos hc,e3] at bm
    refine⟨⟨true,0,0,0,[],a'⟩,.slice a' 0 0,?_,?_,fun _=>⟨rfl,rfl⟩,(fun h=>by cases h),.inl ⟨rfl,rfl,rfl,e3⟩⟩
    ·rw[List.drop_eq_nil_of_le (by omega)]
    ·simp only[execOp,ho,hv,Option.map_none,Option.map_some,ey,Nat.sub_zero]
     rw[hc,Nat.sub_self] at bm
     simp[bm,hc]
   ·rw[if_neg hc,rU] at bm
    simp only[Option.map_some,nb,Nat.zero_mul,Nat.add_zero] at bm
    refine⟨⟨false,(G.g n0).b,(G.g n0).o+l.toNat*sz,(G.g n0).cap - l.toNat,(G.g n0).px.drop l.toNat,none⟩,.slice (some (ad (G.g n0).b ((G.g n0).o+l.toNat*sz))) (xs.length - l.toNat) ((G.g n0).cap - l.toNat),rfl,?_,(fun h=>by cases h),fun _=>⟨aL,rfl,rfl,rfl,by omega⟩,.inr ⟨rfl,some (ad (G.g n0).b ((G.g n0).o+l.toNat*sz)),by simp,by simp;omega,fun _=>by simp⟩⟩
    simp only[execOp,ho,hv,Option.map_none,Option.map_some,ey,Nat.sub_zero,rU,Nat.zero_mul,Nat.add_zero]
    simp[bm]
 have eT:∀b,aR b p.px->aR b (G.g n0).px:=fun b hb=>amW (by rw[<-e8];exact hb)
 have H1:HR B E w G (av σ.h n0 none) σ.used []:=H.del n0
 have K1:aV w G σ.h (fun q=>σ.used q=true) w G (av σ.h n0 none):=aV.del n0 _
 have Hn:HR B E w ⟨G.Im,av G.g n p⟩ (av (av σ.h n0 none) n (some (.row true m sz (xs.drop l.toNat)))) (av σ.used n true) []:=by
  refine H1.insert (w':=w) (p:=p) Dn (fun _ _=>rfl) (Nat.le_refl _) (fun hf=>?_) (fun cs c q hb=>by cases hb) ?_ ?_ ?_ (fun gr m sz xs _ _ i pc b hi=>by simp at hi)
  ·obtain⟨q1,q2,q3,q4,q5⟩:=fK hf
   obtain⟨o1,o2,o3⟩:=H.own n0 bF q1
   rw[q2]
   refine⟨⟨o1,fun q hq NW=>?_,fun q gr m' aK au hq hb=>?_⟩,o2,o3⟩
   ·obtain⟨d1,d2⟩:=zP hq
    exact H.inj q n0 d1 bF d2 NW q1
   ·exact H.rR bF q1 (ph hq).1 hb rfl
  ·refine⟨hr.pos,by rw[e8,hr.er,List.map_drop],fun h=>⟨(Ai h).1,fun _=>(Ai h).2⟩,fun hf=>?_,fun hf _=>?_,?_⟩
   ·obtain⟨q1,q2,q3,q4,q5⟩:=fK hf
    obtain⟨l1,⟨l2,l3,l4⟩,l5⟩:=hr.dq q1
    rw[q2,q3,q4,e8]
    refine⟨l1,⟨fun e he=>l2 e (List.mem_of_mem_drop he),fun k j c hk=>?_,fun k j c hk=>l4 _ _ _ (zz hk)⟩,by simp;omega⟩
    have:=l3 _ _ _ (zz hk)
    rw[<-this]
    congr 2
    rw[Nat.add_mul]
    omega
   ·obtain⟨q1,q2,q3,q4,q5⟩:=fK hf
    obtain⟨r2,cur,ee,r3,r4⟩:=hr.room q1 rfl
    unfold FH
    rw[q2,q3,q4]
    refine⟨by omega,cur,ee,r3,?_⟩
    rw[r4,Nat.add_assoc,<-Nat.add_mul]
    congr 2
    omega
   ·have hm:=hr.mode
    show Ch B E w _ p.px m
    cases m with
    |aE=>exact fun b hb=>hm b (eT b hb)
    |aa=>exact⟨fun b hb=>hm.1 b (eT b hb),by rw[e8];exact hm.2.drop _⟩
    |live=>exact⟨fun b hb=>hm.1 b (eT b hb),by rw[e8];exact hm.2.drop _⟩
  ·intro gr m' aK au hb gA q bf mo jS gH h0 iu b bW
   injection hb with _ hb _ _
   subst hb
   exact F.e7 gA q bf mo jS gH h0 iu b (eT b bW)
  ·intro gr aK au hb b bW
   injection hb with _ hb _ _
   exact⟨fun hf=>by rw[(fK hf).2.1];exact H.rR bF (fK hf).1 hn (eT b bW),fun q h0 NW=>F.live hb b (eT b bW) q h0 NW⟩
 have r':R B E w0 N {(σ.del n0) with h:=av (σ.del n0).h n (some (.row true m sz (xs.drop l.toNat))),used:=av (σ.del n0).used n true} a w ⟨G.Im,av G.g n p⟩:=
  r.step rfl (fun q hq=>qj n q hq) (aV.trans (u2:=fun q=>σ.used q=true) (fun _ h=>h) K1 (aV.insert H1 Dn (fun _ _=>rfl))) Hn r.fr
 have Dp:v.oneCell'=true:=by rcases XG with⟨_,h,_⟩|⟨_,_,h,_⟩<;>rw[h]<;>rfl
 have di:RC w ⟨G.Im,av G.g n p⟩ (av (av σ.h n0 none) n (some (.row true m sz (xs.drop l.toNat)))) (.sl n sz 0 (xs.length - l.toNat)) v:=fun _=>by simpa[bw] using XG
 refine m6 (v:=v) (w':=w) bm ⟨_,r'.put (RA.fQ Dp di) (fun q hq=>by have dH:q=n:=hq;subst dH;exact bw _ _ _) (fun q hq=>by rw[hd] at hq;injection hq with hq;omega)⟩
end
end Go.Am
