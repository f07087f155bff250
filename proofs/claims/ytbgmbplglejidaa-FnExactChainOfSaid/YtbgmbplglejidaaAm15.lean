/- Am15: indexes, lengths, slices, stores, struct literals as operations. No condition. -/
import Derived.Test.YtbgmbplglejidaaAm14
set_option linter.unusedVariables false
namespace Go.Am
section
variable {B:Nat} {E:Ex} {w0 w w':World} {G G':Gh} {h h':Nat->Option aq} {used used':Nat->Bool} {tk:List PC} {N:Nat}
variable {P:Program} {o:Oper} {a:Act} {σ σ':St} {Q:Exit->Act->World->Prop}
theorem Jj {n:Nat} (hs:(h n).isSome=true):h n≠none:=by intro hh;rw[hh] at hs;cases hs
theorem T1 {t e:TypeId} {i:TypeInfo} {sz b off len cap:Nat} {kk:IntKind} {q:Int} (ht:P.underlying t=some (.slice e)) (hi:P.info? e=some i) (bF:i.size=sz) (h0:0<=q) (h1:q<len):
  (Instr.indexAt t (.slice (some (ad b off)) len cap) (.int kk q)).run P w=.ok (.pointer (some (ad b (off+q.toNat*sz)))) w:=by
 simp[Instr.indexAt,run_underlying ht,asIntOf,h0,h1,sizeOf,typeInfo,hi,bF,nK]
theorem Yz (r:R B E w0 N σ a w G) {t e:TypeId} {i:TypeInfo} {x y:Operand} {mx my:MO} {sz:Nat} {q:Int} {z:aj} (ho:o.op=.indexAddr t x y) (hN:∀n,o.dst=some n->n<N) (fR:bz x mx=true) (jO:bz y my=true)
  (ht:P.underlying t=some (.slice e)) (hi:P.info? e=some i) (bF:i.size=sz) (hq:(σ.ev my).dh=some q) (h0:0<=q)
  (hz:(∃n lo len,σ.ev mx=.one (.sl n sz lo len)/\q<(len:Int)/\(σ.h n).isSome=true/\z=.one (.ptr n (lo+q.toNat) sz 0))\/(∃xs el,σ.ev mx=.one (.c (.list sz xs))/\xs[q.toNat]? =some el/\z=.one (.cj el 0))):
  o.wp P a w (Nx B E w0 N (σ.put o.dst z)) Q:=by
 obtain⟨x1,x2⟩:=r.ev fR
 obtain⟨kk,ey⟩:=(r.ev jO).1.int hq
 rcases hz with⟨n,lo,len,e1,h1,hs,rfl⟩|⟨xs,el,e1,h1,rfl⟩
 ·rw[e1] at x1 x2
  have fV:jg (G.g n) sz lo len (a.eval x):=(x1.fz (by simp)).1 (Jj hs)
  rcases fV with⟨_,_,_,hl⟩|⟨aR,a',hv,jk,ha⟩
  ·omega
  ·have oQ:=ha (.inl (by omega))
   subst oQ
   refine gk r (v:=.pointer (some (ad (G.g n).b ((G.g n).o+lo*sz+q.toNat*sz)))) ?_ ?_ (fun m hm=>x2 m hm) hN
   ·simp only[execOp,ho,hv,ey]
    simp[T1 ht hi bF h0 h1]
   ·exact RA.fZ rfl fun _=>⟨aR,by rw[Nat.add_mul];congr 3;omega⟩
 ·rw[e1] at x1
  obtain⟨pc,p1,p2,p3,p4⟩:=x1.c
  cases pc with
  |int k n=>simp[PC.er] at p1
  |bool b=>simp[PC.er] at p1
  |list s' ya c py=>
   rw[PC.dG] at p1
   injection p1 with p0 p1
   subst p0
   have sU:∃pe,py[q.toNat]? =some pe/\pe.map PC.er=el:=by
    rw[<-p1,List.getElem?_map] at h1
    cases hp:py[q.toNat]? with
    |none=>rw[hp] at h1;cases h1
    |some pe=>rw[hp] at h1;simp at h1;exact⟨pe,rfl,h1⟩
   obtain⟨pe,uB,jo⟩:=sU
   have bB:q.toNat<py.length:=(List.getElem?_eq_some_iff.1 uB).1
   cases p3 with
   |nil _ _ _ _=>simp at bB
   |cons _ b oo _ _ g1 g2 g3 g4 g5 g6=>
    have ez:q<(py.length:Int):=by omega
    refine gk r (v:=.pointer (some (ad b (oo+q.toNat*s')))) ?_ ?_ (fun m hm=>absurd hm (by simp[aj.ref,ah.ref,ah.iu])) hN
    ·simp only[execOp,ho,<-p2,PC.val,ey]
     simp[T1 ht hi bF h0 ez]
    ·refine RA.fZ rfl ⟨b,oo+q.toNat*s',pe,by simp,jo,p4 b (.here _ _ _ _ g1),fun j c hj=>?_⟩
     exact⟨g5 _ _ _ ⟨pe,uB,hj⟩,g6 _ _ _ ⟨pe,uB,hj⟩,fun b' aW=>p4 b' (.there _ _ _ _ _ _ c ⟨pe,uB,hj⟩ aW)⟩
theorem Ir (r:R B E w0 N σ a w G) {t e:TypeId} {x:Operand} {mx:MO} {len:Nat} (ho:o.op=.call {callee:=.builtin .len,args:=#[x],argTypes:=#[t]}) (hN:∀n,o.dst=some n->n<N) (hm:bz x mx=true)
  (ht:P.underlying t=some (.slice e))
  (hz:(∃n sz lo,σ.ev mx=.one (.sl n sz lo len)/\(σ.h n).isSome=true)\/(∃sz xs,σ.ev mx=.one (.c (.list sz xs))/\len=xs.length)\/(∃sz,σ.ev mx=.one (.nil sz)/\len=0)\/
   (∃n k aD off sz l s ys,σ.ev mx=.one (.bx n k aD off sz l)/\bU σ.h (.bx n k aD off sz l)=some (.list s ys)/\len=ys.length)):
  o.wp P a w (Nx B E w0 N (σ.put o.dst (.one (.c (.int .i64 len))))) Q:=by
 obtain⟨x1,x2⟩:=r.ev hm
 have hv:∃a' c,a.eval x=.slice a' len c:=by
  rcases hz with⟨n,sz,lo,e1,hs⟩|⟨sz,xs,e1,rfl⟩|⟨sz,e1,rfl⟩|⟨n,k,aD,off,sz,l,s,ys,e1,Pz,rfl⟩
  ·rw[e1] at x1
   have fV:jg (G.g n) sz lo len (a.eval x):=(x1.fz (by simp)).1 (Jj hs)
   rcases fV with⟨_,hv,_,rfl⟩|⟨_,a',hv,_,_⟩
   ·exact⟨_,_,hv⟩
   ·exact⟨_,_,hv⟩
  ·rw[e1] at x1
   obtain⟨pc,p1,p2,_⟩:=x1.c
   cases pc with
   |int k n=>simp[PC.er] at p1
   |bool b=>simp[PC.er] at p1
   |list s' ya c py=>
    rw[PC.dG] at p1
    injection p1 with _ p1
    refine⟨ya,c,?_⟩
    rw[<-p2,<-p1];simp[PC.val]
  ·rw[e1] at x1
   have fK:a.eval x=.slice none 0 0:=(x1.fz (by simp)).1
   exact⟨_,_,fK⟩
  ·rw[e1] at x1
   obtain⟨pc,p1,p2,_⟩:=r.hr.bU Pz (x1.fz (by simp)).1
   cases pc with
   |int k n=>simp[PC.er] at p1
   |bool b=>simp[PC.er] at p1
   |list s' ya c py=>
    rw[PC.dG] at p1
    injection p1 with _ p1
    refine⟨ya,c,?_⟩
    rw[<-p2,<-p1];simp[PC.val]
 obtain⟨a',c,hv⟩:=hv
 refine gk r (v:=.int .i64 len) ?_ (RA.of_int _ _) (fun q hq=>absurd hq qC) hN
 simp[execOp,ho,resolve,invoke,builtin,hv,Builtin.len_,run_underlying ht,goInt]
theorem EV {t e:TypeId} {i:TypeInfo} {sz:Nat} {ya:Option Addr} {len cap:Nat} {lo hi':Option Value} {l hh:Int} (ht:P.underlying t=some (.slice e)) (hi:P.info? e=some i) (bF:i.size=sz)
  (wg:(lo=none/\l=0)\/∃k,lo=some (.int k l)) (uw:(hi'=none/\hh=len)\/∃k,hi'=some (.int k hh)) (h0:0<=l) (h1:l<=hh) (h2:hh<=len) (h3:len<=cap):
  (Instr.sliceAt t (.slice ya len cap) lo hi' none).run P w=.ok (.slice (if cap=l.toNat then ya else ya.map (·.add (l.toNat*sz))) (hh - l).toNat (cap - l.toNat)) w:=by
 have e1:(hh.toNat:Int)=hh:=Int.toNat_of_nonneg (by omega)
 have e2:(hh - l).toNat=hh.toNat - l.toNat:=by omega
 have h4:hh<=(cap:Int):=by omega
 have h5:0<=hh:=by omega
 rcases wg with⟨rfl,rfl⟩|⟨k,rfl⟩<;>rcases uw with⟨rfl,rfl⟩|⟨k',rfl⟩<;>
  simp[Instr.sliceAt,Instr.slice,run_underlying ht,Instr.sliceBounds,Instr.sliceBound,asIntOf,sizeOf,typeInfo,hi,bF,h0,h1,h4,h5,e1,e2]<;>omega
theorem YE (r:R B E w0 N σ a w G) {t e:TypeId} {i:TypeInfo} {x:Operand} {lo hi':Option Operand} {mx:MO} {sz:Nat} {l hh:Int} {z:aj} (ho:o.op=.slice t x lo hi' none) (hN:∀n,o.dst=some n->n<N) (fR:bz x mx=true)
  (ht:P.underlying t=some (.slice e)) (hi:P.info? e=some i) (bF:i.size=sz) (iY:0<sz) {len:Nat}
  (wg:(lo=none/\l=0)\/∃y my,lo=some y/\bz y my=true/\(σ.ev my).dh=some l) (uw:(hi'=none/\hh=len)\/∃y my,hi'=some y/\bz y my=true/\(σ.ev my).dh=some hh)
  (h0:0<=l) (h1:l<=hh) (h2:hh<=len)
  (hz:(∃n l0,σ.ev mx=.one (.sl n sz l0 len)/\(σ.h n).isSome=true/\z=.one (.sl n sz (l0+l.toNat) (hh - l).toNat))\/(∃xs,σ.ev mx=.one (.c (.list sz xs))/\len=xs.length/\z=.one (.c (.list sz ((xs.drop l.toNat).take (hh - l).toNat))))):
  o.wp P a w (Nx B E w0 N (σ.put o.dst z)) Q:=by
 obtain⟨x1,x2⟩:=r.ev fR
 have Pc:(lo.map a.eval=none/\l=0)\/∃k,lo.map a.eval=some (.int k l):=by
  rcases wg with⟨rfl,h⟩|⟨y,my,rfl,c1,c2⟩
  ·exact .inl ⟨rfl,h⟩
  ·obtain⟨k,hk⟩:=(r.ev c1).1.int c2
   exact .inr ⟨k,by simp[hk]⟩
 have O2:(hi'.map a.eval=none/\hh=len)\/∃k,hi'.map a.eval=some (.int k hh):=by
  rcases uw with⟨rfl,h⟩|⟨y,my,rfl,c1,c2⟩
  ·exact .inl ⟨rfl,h⟩
  ·obtain⟨k,hk⟩:=(r.ev c1).1.int c2
   exact .inr ⟨k,by simp[hk]⟩
 rcases hz with⟨n,l0,e1,hs,rfl⟩|⟨xs,e1,rfl,rfl⟩
 ·rw[e1] at x1 x2
  have fV:jg (G.g n) sz l0 len (a.eval x):=(x1.fz (by simp)).1 (Jj hs)
  rcases fV with⟨aR,hv,rfl,rfl⟩|⟨aR,a',hv,jk,ha⟩
  ·have hr:=EV (P:=P) (w:=w) (ya:=(G.g n).na) (len:=0) (cap:=(G.g n).cap) ht hi bF Pc O2 h0 h1 h2 (Nat.zero_le _)
   have kF:l.toNat=0:=by omega
   have hh0:(hh - l).toNat=0:=by omega
   refine gk r (v:=.slice (G.g n).na 0 (G.g n).cap) ?_ (RA.fZ rfl fun _=>.inl ⟨aR,rfl,by omega,by omega⟩) (fun m hm=>x2 m hm) hN
   simp only[execOp,ho,hv,Option.map_none]
   simp only[kF,hh0,Nat.zero_mul] at hr
   have ha:(G.g n).na.map (fun x=>x.add 0)=(G.g n).na:=by
    cases (G.g n).na with
    |none=>rfl
    |some x=>simp[Addr.add]
   rw[ha] at hr
   simp[hr]
  ·have hr:=EV (P:=P) (w:=w) (ya:=a') (len:=len) (cap:=(G.g n).cap - l0) ht hi bF Pc O2 h0 h1 h2 (by omega)
   refine gk r (by simp only[execOp,ho,hv,Option.map_none];simp[hr];rfl) (RA.fZ rfl fun _=>.inr ⟨aR,_,by rw[Nat.sub_sub],by omega,fun hc=>?_⟩) (fun m hm=>x2 m hm) hN
   split
   ·rename_i bG
    have:l0=0/\l.toNat=0:=by omega
    rw[ha (.inr this.1),this.1,this.2]
   ·rename_i bG
    have bB:l0<(G.g n).cap:=by omega
    rw[ha (.inl bB)]
    simp only[Option.map_some,nK]
    rw[Nat.add_mul,Nat.add_assoc]
 ·rw[e1] at x1
  obtain⟨pc,p1,p2,p3,p4⟩:=x1.c
  cases pc with
  |int k n=>simp[PC.er] at p1
  |bool b=>simp[PC.er] at p1
  |list s' ya c py=>
   rw[PC.dG] at p1
   injection p1 with p0 p1
   subst p0
   have hlen:xs.length=py.length:=by rw[<-p1];simp
   have hv:a.eval x=.slice ya xs.length c:=by rw[<-p2,hlen];rfl
   have jk:xs.length<=c\/py=[]:=by
    cases p3 with
    |nil _ _ _ _=>exact .inr rfl
    |cons _ b oo _ _ g1 g2 g3 g4 g5 g6=>exact .inl (by rw[hlen];exact g2)
   have DK:xs.length<=c:=by
    rcases jk with hc|hc
    ·exact hc
    ·rw[hlen,hc];exact Nat.zero_le _
   have hr:=EV (P:=P) (w:=w) (ya:=ya) (len:=xs.length) (cap:=c) ht hi bF Pc O2 h0 h1 h2 DK
   have ah3:((py.drop l.toNat).take (hh - l).toNat).length=(hh - l).toNat:=by simp;omega
   let di:PC:=.list s' (if c=l.toNat then ya else ya.map (·.add (l.toNat*s'))) (c - l.toNat) ((py.drop l.toNat).take (hh - l).toNat)
   have gH:Good w di/\∀b,aT b di->G.Im b:=by
    by_cases AW:(py.drop l.toNat).take (hh - l).toNat=[]
    ·constructor
     ·show Good w (.list _ _ _ _)
      rw[AW];exact .nil _ _ _ iY
     ·intro b hb
      rw[aT.ko,AW] at hb
      rcases hb with⟨hb,_⟩|⟨k,j,c,⟨e,he,_⟩,_⟩
      ·exact absurd rfl hb
      ·simp at he
    ·cases p3 with
     |nil _ _ _ _=>simp at AW
     |cons _ b oo _ _ g1 g2 g3 g4 g5 g6=>
      have ed:0<(hh - l).toNat:=by
       rcases Nat.eq_zero_or_pos (hh - l).toNat with hz|hz
       ·rw[hz] at AW;simp at AW
       ·exact hz
      have aE:c≠l.toNat:=by omega
      have aY:di=.list s' (some (ad b (oo+l.toNat*s'))) (c - l.toNat) ((py.drop l.toNat).take (hh - l).toNat):=by
       show PC.list _ _ _ _=_
       rw[if_neg aE];simp[nK]
      rw[aY]
      constructor
      ·refine .cons _ _ _ _ _ AW (by omega) g3 (fun e he=>g4 e (List.mem_of_mem_drop (List.mem_of_mem_take he))) (fun k j c' hk=>?_) (fun k j c' hk=>g6 _ _ _ (oF hk).1)
       have:=g5 _ _ _ (oF hk).1
       rw[Nat.add_mul] at this
       rw[<-this]
       congr 2
       omega
      ·intro x hx
       rw[aT.ko] at hx
       rcases hx with⟨_,o',gm⟩|⟨k,j,c',hk,hx⟩
       ·injection gm with gm
        rw[<-(mX gm).1]
        exact p4 b (.here _ _ _ _ g1)
       ·exact p4 x (.there _ _ _ _ _ _ c' (oF hk).1 hx)
   refine gk r (v:=di.val) ?_ (RA.fZ (PC.kv _) ⟨di,?_,rfl,gH.1,gH.2⟩) (fun q hq=>absurd hq qC) hN
   ·simp only[execOp,ho,hv,Option.map_none]
    simp[hr,di,PC.val,ah3]
   ·show PC.er (.list _ _ _ _)=_
    rw[PC.dG,List.map_take,List.map_drop,p1]
theorem CY {b x:Nat} {v:Value} {cur:Array Value} {e:TypeId} (hg:w.heap[b]? =some (.cells cur e (0,0))) (hc:w.cell? (ad b x)=some v):x<cur.size:=by
 have h2:w.cell? (ad b x)=cur[x]? :=by simp[World.cell?,ad,hg]
 rw[h2] at hc
 exact(Array.getElem?_eq_some_iff.1 hc).1
theorem af1 (r:R B E w0 N σ a w G) {t:TypeId} {i:TypeInfo} {x y:Operand} {mx my:MO} {sz n k aD off:Nat} {ag:Bool} {vs cs:List ah} (ho:o.op=.store t x y) (hd:o.dst=none) (fR:bz x mx=true) (jO:bz y my=true)
  (hi:P.info? t=some i) (bF:i.size=sz) (iY:0<sz) (hp:σ.ev mx=.one (.ptr n k aD off)) (hv:(σ.ev my).cells?=some (ag,vs)) (hl:vs.length=sz) (hn:σ.h n=some (.box cs)) (hk:k=0) (g0:off+sz<=cs.length):
  o.wp P a w (Nx B E w0 N (σ.du n (.box (bX cs off vs)))) Q:=by
 obtain⟨x1,_⟩:=r.ev fR
 obtain⟨y1,y2⟩:=r.ev jO
 rw[hp] at x1
 subst hk
 obtain⟨p1,p2⟩:=(x1.fz (by simp)).1 (by rw[hn];simp)
 obtain⟨q1,⟨cur,et,q2⟩,q3⟩:=r.hr.box n cs hn
 have bG:=y1.cells hv
 have D9:(a.eval y).cells.toList.length=sz:=by rw[bG.1,hl]
 have DG:(G.g n).o+off+(a.eval y).cells.toList.length<=cur.size:=by
  obtain⟨v,v1,_⟩:=q3 (off+sz - 1) (cs[off+sz - 1]'(by omega)) (List.getElem?_eq_getElem _)
  have:=CY q2 v1
  omega
 have r':=r.ap5 hn bG (fun c hc m hm=>y2 m (aj.xX hv hc hm)) (by omega) q2 DG
 have bO:=J8 (P:=P) (w:=w) (t:=t) (i:=i) (b:=(G.g n).b) (off:=(G.g n).o+off) (v:=a.eval y) (cur:=cur) (e:=et) hi (by rw[bF,<-D9];simp) q2 (by simpa using DG) (fun u hu=>by
  obtain⟨j,hj,DR⟩:=List.getElem_of_mem hu
  have uz:j<vs.length:=by omega
  have:=(bG.2 j _ u (List.getElem?_eq_getElem uz) (by rw[List.getElem?_eq_getElem hj,DR])).1
  exact this)
 refine KT (w':=eG w (G.g n).b ((G.g n).o+off) (a.eval y).cells.toList cur) ?_ ⟨G,?_⟩
 ·simp only[execOp,ho,p2,Nat.zero_mul,Nat.add_zero]
  simp[Instr.storeAt,Instr.sureAddr,bO]
 ·rw[hd];exact r'
theorem af3 (r:R B E w0 N σ a w G) {t:TypeId} {i:TypeInfo} {x y:Operand} {mx my:MO} {sz n k off:Nat} {ag gr:Bool} {m:Mode} {rs:Nat} {xs:List (List C)} {el:List C} {vs:List ah} {σ2:St} (ho:o.op=.store t x y) (hd:o.dst=none) (fR:bz x mx=true) (jO:bz y my=true)
  (hi:P.info? t=some i) (bF:i.size=sz) (iY:0<sz) (hp:σ.ev mx=.one (.ptr n k rs off)) (hv:(σ.ev my).cells?=some (ag,vs)) (hl:vs.length=sz) (hn:σ.h n=some (.row gr m rs xs)) (hk:xs[k]? =some el)
  (hx:mU σ n gr m rs xs k off el vs=some σ2):o.wp P a w (Nx B E w0 N σ2) Q:=by
 obtain⟨x1,_⟩:=r.ev fR
 obtain⟨y1,y2⟩:=r.ev jO
 rw[hp] at x1
 obtain⟨p1,p2⟩:=(x1.fz (by simp)).1 (by rw[hn];simp)
 have hr:=r.hr.row n gr m rs xs hn
 obtain⟨⟨cur,et,q2⟩,l2,l3⟩:=hr.dT p1
 have bG:=y1.cells hv
 have D9:(a.eval y).cells.toList.length=sz:=by rw[bG.1,hl]
 have I5:off+vs.length<=el.length:=by
  unfold mU at hx
  split at hx
  ·cases hx
  ·rename_i f0 hs;exact(Ft hs).1
 have sU:∃pe,(G.g n).px[k]? =some pe/\pe.map PC.er=el:=by
  have cY:=hk
  rw[hr.er,List.getElem?_map] at cY
  cases hq:(G.g n).px[k]? with
  |none=>rw[hq] at cY;cases cY
  |some pe=>rw[hq] at cY;simp at cY;exact⟨pe,rfl,cY⟩
 obtain⟨pe,wi,wj⟩:=sU
 have I6:pe.length=el.length:=by rw[<-wj];simp
 have DG:(G.g n).o+k*rs+off+(a.eval y).cells.toList.length<=cur.size:=by
  have hc:=l2.2.1 k (off+sz - 1) (pe[off+sz - 1]'(by omega)) ⟨pe,wi,List.getElem?_eq_getElem _⟩
  have:=CY q2 hc
  omega
 obtain⟨G',r'⟩:=r.mU hn p1 hk bG (fun c hc m hm=>y2 m (aj.xX hv hc hm)) hx q2 DG
 have bO:=J8 (P:=P) (w:=w) (t:=t) (i:=i) (b:=(G.g n).b) (off:=(G.g n).o+k*rs+off) (v:=a.eval y) (cur:=cur) (e:=et) hi (by rw[bF,<-D9];simp) q2 (by simpa using DG) (fun u hu=>by
  obtain⟨j,hj,DR⟩:=List.getElem_of_mem hu
  have uz:j<vs.length:=by omega
  exact(bG.2 j _ u (List.getElem?_eq_getElem uz) (by rw[List.getElem?_eq_getElem hj,DR])).1)
 refine KT (w':=eG w (G.g n).b ((G.g n).o+k*rs+off) (a.eval y).cells.toList cur) ?_ ⟨G',?_⟩
 ·simp only[execOp,ho,p2]
  simp[Instr.storeAt,Instr.sureAddr,bO]
 ·rw[hd];exact r'
def xY (places:List (Nat×Nat)):List (Nat×Operand)->List (Nat×Nat×MO)->Bool
 |[],[]=>true
 |(i,x)::ps,(off,sz,m)::ms=>(places[i]? ==some (off,sz))&&bz x m&&xY places ps ms
 |_,_=>false
theorem YR (r:R B E w0 N σ a w G) (places:List (Nat×Nat)):∀(ps:List (Nat×Operand)) (ms:List (Nat×Nat×MO)) (zs cs:List ah) (cur:Array Value),xY places ps ms=true->
  cJ w G σ.h zs cur.toList->(∀c∈zs,∀m,c.ref m->σ.used m=true)->pC σ.ev zs ms=some cs->
  ∃ji,Instr.fill (places.toArray[·]?) cur (ps.map fun p=>(p.1,a.eval p.2))=some ji/\cJ w G σ.h cs ji.toList/\∀c∈cs,∀m,c.ref m->σ.used m=true
 |[],[],zs,cs,cur,_,hz,hr,hx=>by
  simp only[pC] at hx
  injection hx with hx
  subst hx
  exact⟨cur,rfl,hz,hr⟩
 |(i,x)::ps,(off,sz,m)::ms,zs,cs,cur,hc,hz,hr,hx=>by
  simp only[xY,Bool.and_eq_true,beq_iff_eq] at hc
  obtain⟨⟨c1,c2⟩,c3⟩:=hc
  simp only[pC] at hx
  split at hx
  ·rename_i ag vs hv
   split at hx
   ·rename_i cF
    obtain⟨h1,h2⟩:=cF
    obtain⟨y1,y2⟩:=r.ev c2
    have bG:=y1.cells hv
    have rE:(a.eval x).cells.size=sz:=by rw[<-Array.length_toList,bG.1,h1]
    have hzl:cur.size=zs.length:=by rw[<-Array.length_toList,hz.1]
    have yE:cJ w G σ.h (bX zs off vs) (bX cur.toList off (a.eval x).cells.toList):=by
     have Px:(a.eval x).cells.toList.length=vs.length:=bG.1
     refine⟨?_,fun j c u hj hu=>?_⟩
     ·rw[Kq (by rw[Px,hz.1];omega),Kq (by omega),hz.1]
     ·rw[xm (by omega)] at hj
      rw[xm (by rw[Px,hz.1];omega),Px] at hu
      by_cases ga:off<=j/\j<off+vs.length
      ·rw[if_pos ga] at hj hu;exact bG.2 _ c u hj hu
      ·rw[if_neg ga] at hj hu;exact hz.2 _ c u hj hu
    obtain⟨ji,e1,e2,e3⟩:=YR r places ps ms (bX zs off vs) cs (bX cur.toList off (a.eval x).cells.toList).toArray c3 yE (fun c hc q hq=>by
     simp only[bX,List.mem_append] at hc
     rcases hc with(hc|hc)|hc
     ·exact hr c (List.mem_of_mem_take hc) q hq
     ·exact y2 q (aj.xX hv hc hq)
     ·exact hr c (List.mem_of_mem_drop hc) q hq) hx
    refine⟨ji,?_,e2,e3⟩
    simp only[List.getElem?_toArray] at e1
    simp only[List.map_cons,Instr.fill,List.getElem?_toArray,c1]
    rw[if_neg (by simp;omega),Y9 _ _ _ (by omega)]
    exact e1
   ·cases hx
  ·cases hx
 |[],_::_,_,_,_,hc,_,_,_=>by simp[xY] at hc
 |(_,_)::_,[],_,_,_,hc,_,_,_=>by simp[xY] at hc
theorem afD (r:R B E w0 N σ a w G) {t:TypeId} {parts:Array (Nat×Operand)} {ms:List (Nat×Nat×MO)} {zs cs:List ah} {it:TypeInfo} {z:Value} {nN:Array Field} {places:List (Nat×Nat)} (ho:o.op=.build t parts) (hN:∀n,o.dst=some n->n<N)
  (wb:P.info? t=some it) (hz:it.zero=some z) (hu:P.underlying t=some (.struct nN)) (fk:nN.toList.mapM (fun f=>(P.info? f.type).map fun i=>(f.offset,i.size))=some places)
  (hzc:sC z.cells.toList zs=true) (hc:xY places parts.toList ms=true) (hx:pC σ.ev zs ms=some cs):o.wp P a w (Nx B E w0 N (σ.put o.dst (.agg cs))) Q:=by
 obtain⟨z1,z2⟩:=HQ (w:=w) (G:=G) (h:=σ.h) hzc
 obtain⟨ji,e1,e2,e3⟩:=YR r places parts.toList ms zs cs z.cells hc z1 (fun c hc m hm=>absurd hm (z2 c hc m)) hx
 refine gk r (v:=.agg ji) ?_ ⟨ji.toList,by simp,e2⟩ (fun m hm=>by obtain⟨c,hc,hm⟩:=hm;exact e3 c hc m hm) hN
 have hb:P.built t (parts.map fun p=>(p.1,a.eval p.2)).toList=some ji:=by
  unfold Program.built
  simp only[wb,hu,hz,fk,Array.toList_map]
  exact e1
 have bO:=run_build (P:=P) w t _ ji hb
 simp only[execOp,ho]
 simp[bO]
theorem afU (r:R B E w0 N σ a w G) {f:FuncId} {xs:Array Operand} {ms:List MO} {cs:List ah} (ho:o.op=.makeFunc (.func f) #[] xs) (hN:∀n,o.dst=some n->n<N)
  (hc:ms.length=xs.size/\∀(j:Nat) (x:Operand) (m:MO),xs.toList[j]? =some x->ms[j]? =some m->bz x m=true)
  (hx:(ms.map σ.ev).mapM (fun v=>match v with|.one c=>if c.kJ=true then none else some c|_=>none)=some cs) (hj:∀c∈cs,c≠ .bn):o.wp P a w (Nx B E w0 N (σ.put o.dst (.one (.fn f cs)))) Q:=by
 have cV:∀(ms:List MO) (xs:List Operand) (cs:List ah),ms.length=xs.length->(∀(j:Nat) (x:Operand) (m:MO),xs[j]? =some x->ms[j]? =some m->bz x m=true)->
   (ms.map σ.ev).mapM (fun v=>match v with|.one c=>if c.kJ=true then none else some c|_=>none)=some cs->(∀c∈cs,c≠ .bn)->
   (xs.map a.eval).length=cs.length/\∀(j:Nat) (c:ah) (u:Value),cs[j]? =some c->(xs.map a.eval)[j]? =some u->(u.oneCell'=true/\je w G σ.h c u)/\∀m,c.iu m->σ.used m=true:=by
  intro ms
  induction ms with
  |nil=>
   intro xs cs hl _ hx _
   have:xs=[]:=List.eq_nil_of_length_eq_zero (by simpa using hl.symm)
   subst this
   simp at hx
   subst hx
   simp
  |cons m ms ih=>
   intro xs cs hl dF hx hj
   match xs,hl with
   |x::xs,hl=>
    simp only[List.map_cons,List.mapM_cons,Option.bind_eq_bind,Option.pure_def] at hx
    cases hm:σ.ev m with
    |one c=>
     rw[hm] at hx
     by_cases hf:c.kJ=true
     ·simp[hf] at hx
     ·simp only[hf,if_false,Bool.false_eq_true,Option.bind_some] at hx
      cases hr:(ms.map σ.ev).mapM (fun v=>match v with|.one c=>if c.kJ=true then none else some c|_=>none) with
      |none=>rw[hr] at hx;simp at hx
      |some cs'=>
       rw[hr] at hx
       simp at hx
       subst hx
       obtain⟨i1,i2⟩:=ih xs cs' (by simpa using hl) (fun j x m h1 h2=>dF (j+1) x m h1 h2) hr (fun c hc=>hj c (by simp[hc]))
       refine⟨by simp[i1],fun j c' u jn hu=>?_⟩
       cases j with
       |zero=>
        simp at jn hu
        subst jn;subst hu
        obtain⟨e1,e2⟩:=r.ev (dF 0 x m rfl rfl)
        rw[hm] at e1 e2
        have DM:c.kJ=false:=by simpa using hf
        have h1:=(e1.fz (hj c (by simp)))
        rw[xS _ _ _ _ _ DM] at h1
        exact⟨⟨h1.2,h1.1⟩,fun q hq=>e2 q (by show c.ref q;rw[ah.ab5 c q DM];exact hq)⟩
       |succ j=>exact i2 j c' u (by simpa using jn) (by simpa using hu)
    |agg gV=>rw[hm] at hx;simp at hx
    |bo l=>rw[hm] at hx;simp at hx
 obtain⟨k1,k2⟩:=cV ms xs.toList cs (by simpa using hc.1) hc.2 hx hj
 have iC:∀m,(ah.fn f cs).ref m->σ.used m=true:=fun m hm=>by
  obtain⟨c,m7,hm⟩:=hm
  obtain⟨j,jn,uz⟩:=List.getElem_of_mem m7
  have iB:j<(xs.toList.map a.eval).length:=by omega
  exact(k2 j c _ (by rw[List.getElem?_eq_getElem jn,uz]) (List.getElem?_eq_getElem iB)).2 m hm
 refine gk r (v:=.func (.func f) #[] (xs.toList.map a.eval).toArray) ?_ (RA.fZ rfl ⟨xs.toList.map a.eval,rfl,k1,fun j c u h1 h2=>(k2 j c u h1 h2).1⟩) iC hN
 simp only[execOp,ho,Instr.makeFunc]
 have:Array.map a.eval xs=(xs.toList.map a.eval).toArray:=by apply Array.ext';simp
 simp[this]
theorem Ah {α:Type} {xs:List (List α)} {l k j:Nat} {c:α} (h:At (xs.drop l) k j c):At xs (l+k) j c:=by
 obtain⟨e,he,hj⟩:=h
 rw[List.getElem?_drop] at he
 exact⟨e,he,hj⟩
theorem ao1 {b l:Nat} {px:List (List PC)} (h:aX b (px.drop l)):aX b px:=by
 obtain⟨k,j,c,h1,h2⟩:=h
 exact⟨_,_,_,Ah h1,h2⟩
theorem ig.drop {px:List (List PC)} (h:ig px) (l:Nat):ig (px.drop l):=
 ⟨fun k j c hk=>h.1 _ _ _ (Ah hk),fun k j c k' j' c' b hk cY aE=>h.2 _ _ _ _ _ _ b (Ah hk) (Ah cY) (fun e=>aE (by injection e with e1 e2;rw[show k=k' by omega,e2]))⟩
theorem af4 (r:R B E w0 N σ a w G) {n n0:Nat} {t e:TypeId} {i:TypeInfo} {x y:Operand} {mx my:MO} {sz:Nat} {l:Int} {m:Mode} {xs:List (List C)} {σ1:St} (ho:o.op=.slice t x (some y) none none) (hd:o.dst=some n) (hN:n<N)
  (fR:bz x mx=true) (jO:bz y my=true) (ht:P.underlying t=some (.slice e)) (hi:P.info? e=some i) (bF:i.size=sz) (iY:0<sz)
  (hx:σ.ev mx=.one (.sl n0 sz 0 xs.length)) (hl:(σ.ev my).dh=some l) (h0:0<=l) (h1:l<=(xs.length:Int)) (hn:σ.h n0=some (.row true m sz xs)) (hi1:(σ.del n0).ins n (.row true m sz (xs.drop l.toNat))=some σ1):
  o.wp P a w (Nx B E w0 N (σ1.put o.dst (.one (.sl n sz 0 (xs.length - l.toNat))))) Q:=by
 obtain⟨DZ,rfl⟩:=lP hi1
 obtain⟨x1,x2⟩:=r.ev fR
 rw[hx] at x1 x2
 obtain⟨kk,ey⟩:=(r.ev jO).1.int hl
 have bJ:σ.h n0≠none:=by rw[hn];simp
 have fV:jg (G.g n0) sz 0 xs.length (a.eval x):=(x1.fz (by simp)).1 bJ
 have H:=r.hr
 have hr:=H.row n0 true m sz xs hn
 have qg:xs.length=(G.g n0).px.length:=by rw[hr.er];simp
 have F:=lf.R8 H hn
 have hln:l.toNat<=xs.length:=by omega
 obtain⟨p,v,fB,bO,wl,fk,Z4⟩:∃(p:PB) (v:Value),p.px=(G.g n0).px.drop l.toNat/\(execOp a.eval o).run P w=.ok (.value v) w/\(p.nl=true->p.px=[]/\p.cap=0)/\
   (p.nl=false->(G.g n0).nl=false/\p.b=(G.g n0).b/\p.o=(G.g n0).o+l.toNat*sz/\p.cap=(G.g n0).cap - l.toNat/\l.toNat<=(G.g n0).cap)/\jg p sz 0 (xs.length - l.toNat) v:=by
  rcases fV with⟨aR,hv,_,kF⟩|⟨aR,a',hv,jk,ha⟩
  ·have bO:=EV (P:=P) (w:=w) (ya:=(G.g n0).na) (len:=0) (cap:=(G.g n0).cap) (lo:=some (.int kk l)) (hi':=none) (l:=l) (hh:=0) ht hi bF (.inr ⟨kk,rfl⟩) (.inl ⟨rfl,rfl⟩) h0 (by omega) (by omega) (Nat.zero_le _)
   obtain⟨zf,vJ⟩:=hr.nl aR
   have vJ:=vJ rfl
   have hlz:l.toNat=0:=by omega
   refine⟨⟨true,0,0,0,[],(G.g n0).na⟩,.slice (G.g n0).na 0 0,by rw[zf];simp,?_,fun _=>⟨rfl,rfl⟩,(fun h=>by cases h),.inl ⟨rfl,rfl,rfl,by omega⟩⟩
   simp only[execOp,ho,hv,Option.map_none,Option.map_some,ey]
   rw[vJ,hlz] at bO
   simp only[if_true] at bO
   simp[bO,vJ]
   omega
  ·have bO:=EV (P:=P) (w:=w) (ya:=a') (len:=xs.length) (cap:=(G.g n0).cap - 0) (lo:=some (.int kk l)) (hi':=none) (l:=l) (hh:=xs.length) ht hi bF (.inr ⟨kk,rfl⟩) (.inl ⟨rfl,rfl⟩) h0 h1 (by omega) (by omega)
   have oQ:=ha (.inr rfl)
   have e2:((xs.length:Int) - l).toNat=xs.length - l.toNat:=by omega
   rw[e2,Nat.sub_zero] at bO
   by_cases hc:(G.g n0).cap=l.toNat
   ·have e3:xs.length - l.toNat=0:=by omega
    rw[if_pos hc,e3] at bO
    refine⟨⟨true,0,0,0,[],a'⟩,.slice a' 0 0,?_,?_,fun _=>⟨rfl,rfl⟩,(fun h=>by cases h),.inl ⟨rfl,rfl,rfl,e3⟩⟩
    ·rw[List.drop_eq_nil_of_le (by omega)]
    ·simp only[execOp,ho,hv,Option.map_none,Option.map_some,ey,Nat.sub_zero]
     rw[hc,Nat.sub_self] at bO
     simp[bO,hc]
   ·rw[if_neg hc,oQ] at bO
    simp only[Option.map_some,nK,Nat.zero_mul,Nat.add_zero] at bO
    refine⟨⟨false,(G.g n0).b,(G.g n0).o+l.toNat*sz,(G.g n0).cap - l.toNat,(G.g n0).px.drop l.toNat,none⟩,.slice (some (ad (G.g n0).b ((G.g n0).o+l.toNat*sz))) (xs.length - l.toNat) ((G.g n0).cap - l.toNat),rfl,?_,(fun h=>by cases h),fun _=>⟨aR,rfl,rfl,rfl,by omega⟩,.inr ⟨rfl,some (ad (G.g n0).b ((G.g n0).o+l.toNat*sz)),by simp,by simp;omega,fun _=>by simp⟩⟩
    simp only[execOp,ho,hv,Option.map_none,Option.map_some,ey,Nat.sub_zero,oQ,Nat.zero_mul,Nat.add_zero]
    simp[bO]
 have e8:∀b,aX b p.px->aX b (G.g n0).px:=fun b hb=>ao1 (by rw[<-fB];exact hb)
 have H1:HR B E w G (ax σ.h n0 none) σ.used []:=H.del n0
 have K1:aZ w G σ.h (fun q=>σ.used q=true) w G (ax σ.h n0 none):=aZ.del n0 _
 have Hn:HR B E w ⟨G.Im,ax G.g n p⟩ (ax (ax σ.h n0 none) n (some (.row true m sz (xs.drop l.toNat)))) (ax σ.used n true) []:=by
  refine H1.insert (w':=w) (p:=p) DZ (fun _ _=>rfl) (Nat.le_refl _) (fun hf=>?_) (fun cs c q hb=>by cases hb) ?_ ?_ ?_ (fun gr m sz xs _ _ i pc b hi=>by simp at hi)
  ·obtain⟨q1,q2,q3,q4,q5⟩:=fk hf
   obtain⟨o1,o2,o3⟩:=H.own n0 bJ q1
   rw[q2]
   refine⟨⟨o1,fun q hq Pf=>?_,fun q gr m' aL ar hq hb=>?_⟩,o2,o3⟩
   ·obtain⟨d1,d2⟩:=AA hq
    exact H.inj q n0 d1 bJ d2 Pf q1
   ·exact H.sL bJ q1 (pO hq).1 hb rfl
  ·refine⟨hr.pos,by rw[fB,hr.er,List.map_drop],fun h=>⟨(wl h).1,fun _=>(wl h).2⟩,fun hf=>?_,fun hf _=>?_,?_⟩
   ·obtain⟨q1,q2,q3,q4,q5⟩:=fk hf
    obtain⟨l1,⟨l2,l3,l4⟩,l5⟩:=hr.dT q1
    rw[q2,q3,q4,fB]
    refine⟨l1,⟨fun e he=>l2 e (List.mem_of_mem_drop he),fun k j c hk=>?_,fun k j c hk=>l4 _ _ _ (Ah hk)⟩,by simp;omega⟩
    have:=l3 _ _ _ (Ah hk)
    rw[<-this]
    congr 2
    rw[Nat.add_mul]
    omega
   ·obtain⟨q1,q2,q3,q4,q5⟩:=fk hf
    obtain⟨r2,cur,ee,r3,r4⟩:=hr.room q1 rfl
    unfold F8
    rw[q2,q3,q4]
    refine⟨by omega,cur,ee,r3,?_⟩
    rw[r4,Nat.add_assoc,<-Nat.add_mul]
    congr 2
    omega
   ·have hm:=hr.mode
    show CL B E w _ p.px m
    cases m with
    |aO=>exact fun b hb=>hm b (e8 b hb)
    |ab=>exact⟨fun b hb=>hm.1 b (e8 b hb),by rw[fB];exact hm.2.drop _⟩
    |live=>exact⟨fun b hb=>hm.1 b (e8 b hb),by rw[fB];exact hm.2.drop _⟩
  ·intro gr m' aL ar hb g7 q bj mo jZ ic h0 iV b cB
   injection hb with _ hb _ _
   subst hb
   exact F.fA g7 q bj mo jZ ic h0 iV b (e8 b cB)
  ·intro gr aL ar hb b cB
   injection hb with _ hb _ _
   exact⟨fun hf=>by rw[(fk hf).2.1];exact H.sL bJ (fk hf).1 hn (e8 b cB),fun q h0 Pf=>F.live hb b (e8 b cB) q h0 Pf⟩
 have r':R B E w0 N {(σ.del n0) with h:=ax (σ.del n0).h n (some (.row true m sz (xs.drop l.toNat))),used:=ax (σ.del n0).used n true} a w ⟨G.Im,ax G.g n p⟩:=
  r.step rfl (fun q hq=>qT n q hq) (aZ.trans (u2:=fun q=>σ.used q=true) (fun _ h=>h) K1 (aZ.insert H1 DZ (fun _ _=>rfl))) Hn r.fr
 have D2:v.oneCell'=true:=by rcases Z4 with⟨_,h,_⟩|⟨_,_,h,_⟩<;>rw[h]<;>rfl
 have db:RC w ⟨G.Im,ax G.g n p⟩ (ax (ax σ.h n0 none) n (some (.row true m sz (xs.drop l.toNat)))) (.sl n sz 0 (xs.length - l.toNat)) v:=fun _=>by simpa[bE] using Z4
 refine nD (v:=v) (w':=w) bO ⟨_,r'.put (RA.fZ D2 db) (fun q hq=>by have ez:q=n:=hq;subst ez;exact bE _ _ _) (fun q hq=>by rw[hd] at hq;injection hq with hq;omega)⟩
end
end Go.Am
