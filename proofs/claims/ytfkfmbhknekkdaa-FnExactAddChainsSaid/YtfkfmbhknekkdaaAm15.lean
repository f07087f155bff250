/- Am15: indexes, lengths, slices, stores, struct literals as operations. No condition. -/
import Derived.Test.YtfkfmbhknekkdaaAm14
set_option linter.unusedVariables false
namespace Go.Am
section
variable {B:Nat} {E:Ex} {w0 w w':World} {G G':Gh} {h h':Nat->Option ak} {used used':Nat->Bool} {tk:List PC} {N:Nat}
variable {P:Program} {o:Oper} {a:Act} {σ σ':St} {Q:Exit->Act->World->Prop}
theorem FZ {n:Nat} (hs:(h n).isSome=true):h n≠none:=by intro hh;rw[hh] at hs;cases hs
theorem OH {t e:TypeId} {i:TypeInfo} {sz b off len cap:Nat} {kk:IntKind} {q:Int} (ht:P.underlying t=some (.slice e)) (hi:P.info? e=some i) (bo:i.size=sz) (h0:0<=q) (h1:q<len):
  (Instr.indexAt t (.slice (some (ad b off)) len cap) (.int kk q)).run P w=.ok (.pointer (some (ad b (off+q.toNat*sz)))) w:=by
 simp[Instr.indexAt,run_underlying ht,asIntOf,h0,h1,sizeOf,typeInfo,hi,bo,lV]
theorem SL (r:R B E w0 N σ a w G) {t e:TypeId} {i:TypeInfo} {x y:Operand} {mx my:MO} {sz:Nat} {q:Int} {z:ai} (ho:o.op=.indexAddr t x y) (hN:∀n,o.dst=some n->n<N) (iz:bi x mx=true) (iK:bi y my=true)
  (ht:P.underlying t=some (.slice e)) (hi:P.info? e=some i) (bo:i.size=sz) (hq:(σ.ev my).cZ=some q) (h0:0<=q)
  (hz:(∃n lo len,σ.ev mx=.one (.sl n sz lo len)/\q<(len:Int)/\(σ.h n).isSome=true/\z=.one (.ptr n (lo+q.toNat) sz 0))\/(∃xs el,σ.ev mx=.one (.c (.list sz xs))/\xs[q.toNat]? =some el/\z=.one (.bV el 0))):
  o.wp P a w (Nx B E w0 N (σ.put o.dst z)) Q:=by
 obtain⟨x1,x2⟩:=r.ev iz
 obtain⟨kk,ey⟩:=(r.ev iK).1.int hq
 rcases hz with⟨n,lo,len,e1,h1,hs,rfl⟩|⟨xs,el,e1,h1,rfl⟩
 ·rw[e1] at x1 x2
  have fQ:gy (G.g n) sz lo len (a.eval x):=(x1.eB (by simp)).1 (FZ hs)
  rcases fQ with⟨_,_,_,hl⟩|⟨aE,a',hv,hH,ha⟩
  ·omega
  ·have qM:=ha (.inl (by omega))
   subst qM
   refine fH r (v:=.pointer (some (ad (G.g n).b ((G.g n).o+lo*sz+q.toNat*sz)))) ?_ ?_ (fun m hm=>x2 m hm) hN
   ·simp only[execOp,ho,hv,ey]
    simp[OH ht hi bo h0 h1]
   ·exact RA.fi rfl fun _=>⟨aE,by rw[Nat.add_mul];congr 3;omega⟩
 ·rw[e1] at x1
  obtain⟨pc,p1,p2,p3,p4⟩:=x1.c
  cases pc with
  |int k n=>simp[PC.er] at p1
  |bool b=>simp[PC.er] at p1
  |list s' ya c py=>
   rw[PC.du] at p1
   injection p1 with p0 p1
   subst p0
   have sD:∃pe,py[q.toNat]? =some pe/\pe.map PC.er=el:=by
    rw[<-p1,List.getElem?_map] at h1
    cases hp:py[q.toNat]? with
    |none=>rw[hp] at h1;cases h1
    |some pe=>rw[hp] at h1;simp at h1;exact⟨pe,rfl,h1⟩
   obtain⟨pe,wz,tZ⟩:=sD
   have bB:q.toNat<py.length:=(List.getElem?_eq_some_iff.1 wz).1
   cases p3 with
   |nil _ _ _ _=>simp at bB
   |cons _ b oo _ _ g1 g2 g3 g4 g5 g6=>
    have dB:q<(py.length:Int):=by omega
    refine fH r (v:=.pointer (some (ad b (oo+q.toNat*s')))) ?_ ?_ (fun m hm=>absurd hm (by simp[ai.ref,ae.ref,ae.gu])) hN
    ·simp only[execOp,ho,<-p2,PC.val,ey]
     simp[OH ht hi bo h0 dB]
    ·refine RA.fi rfl ⟨b,oo+q.toNat*s',pe,by simp,tZ,p4 b (.here _ _ _ _ g1),fun j c hj=>?_⟩
     exact⟨g5 _ _ _ ⟨pe,wz,hj⟩,g6 _ _ _ ⟨pe,wz,hj⟩,fun b' aL=>p4 b' (.there _ _ _ _ _ _ c ⟨pe,wz,hj⟩ aL)⟩
theorem EW (r:R B E w0 N σ a w G) {t e:TypeId} {x:Operand} {mx:MO} {len:Nat} (ho:o.op=.call {callee:=.builtin .len,args:=#[x],argTypes:=#[t]}) (hN:∀n,o.dst=some n->n<N) (hm:bi x mx=true)
  (ht:P.underlying t=some (.slice e))
  (hz:(∃n sz lo,σ.ev mx=.one (.sl n sz lo len)/\(σ.h n).isSome=true)\/(∃sz xs,σ.ev mx=.one (.c (.list sz xs))/\len=xs.length)\/(∃sz,σ.ev mx=.one (.nil sz)/\len=0)\/
   (∃n k au off sz l s ys,σ.ev mx=.one (.bj n k au off sz l)/\bS σ.h (.bj n k au off sz l)=some (.list s ys)/\len=ys.length)):
  o.wp P a w (Nx B E w0 N (σ.put o.dst (.one (.c (.int .i64 len))))) Q:=by
 obtain⟨x1,x2⟩:=r.ev hm
 have hv:∃a' c,a.eval x=.slice a' len c:=by
  rcases hz with⟨n,sz,lo,e1,hs⟩|⟨sz,xs,e1,rfl⟩|⟨sz,e1,rfl⟩|⟨n,k,au,off,sz,l,s,ys,e1,Lh,rfl⟩
  ·rw[e1] at x1
   have fQ:gy (G.g n) sz lo len (a.eval x):=(x1.eB (by simp)).1 (FZ hs)
   rcases fQ with⟨_,hv,_,rfl⟩|⟨_,a',hv,_,_⟩
   ·exact⟨_,_,hv⟩
   ·exact⟨_,_,hv⟩
  ·rw[e1] at x1
   obtain⟨pc,p1,p2,_⟩:=x1.c
   cases pc with
   |int k n=>simp[PC.er] at p1
   |bool b=>simp[PC.er] at p1
   |list s' ya c py=>
    rw[PC.du] at p1
    injection p1 with _ p1
    refine⟨ya,c,?_⟩
    rw[<-p2,<-p1];simp[PC.val]
  ·rw[e1] at x1
   have eO:a.eval x=.slice none 0 0:=(x1.eB (by simp)).1
   exact⟨_,_,eO⟩
  ·rw[e1] at x1
   obtain⟨pc,p1,p2,_⟩:=r.hr.bS Lh (x1.eB (by simp)).1
   cases pc with
   |int k n=>simp[PC.er] at p1
   |bool b=>simp[PC.er] at p1
   |list s' ya c py=>
    rw[PC.du] at p1
    injection p1 with _ p1
    refine⟨ya,c,?_⟩
    rw[<-p2,<-p1];simp[PC.val]
 obtain⟨a',c,hv⟩:=hv
 refine fH r (v:=.int .i64 len) ?_ (RA.of_int _ _) (fun q hq=>absurd hq oB) hN
 simp[execOp,ho,resolve,invoke,builtin,hv,Builtin.len_,run_underlying ht,goInt]
theorem CL {t e:TypeId} {i:TypeInfo} {sz:Nat} {ya:Option Addr} {len cap:Nat} {lo hi':Option Value} {l hh:Int} (ht:P.underlying t=some (.slice e)) (hi:P.info? e=some i) (bo:i.size=sz)
  (pG:(lo=none/\l=0)\/∃k,lo=some (.int k l)) (sA:(hi'=none/\hh=len)\/∃k,hi'=some (.int k hh)) (h0:0<=l) (h1:l<=hh) (h2:hh<=len) (h3:len<=cap):
  (Instr.sliceAt t (.slice ya len cap) lo hi' none).run P w=.ok (.slice (if cap=l.toNat then ya else ya.map (·.add (l.toNat*sz))) (hh - l).toNat (cap - l.toNat)) w:=by
 have e1:(hh.toNat:Int)=hh:=Int.toNat_of_nonneg (by omega)
 have e2:(hh - l).toNat=hh.toNat - l.toNat:=by omega
 have h4:hh<=(cap:Int):=by omega
 have h5:0<=hh:=by omega
 rcases pG with⟨rfl,rfl⟩|⟨k,rfl⟩<;>rcases sA with⟨rfl,rfl⟩|⟨k',rfl⟩<;>
  simp[Instr.sliceAt,Instr.slice,run_underlying ht,Instr.sliceBounds,Instr.sliceBound,asIntOf,sizeOf,typeInfo,hi,bo,h0,h1,h4,h5,e1,e2]<;>omega
theorem SP (r:R B E w0 N σ a w G) {t e:TypeId} {i:TypeInfo} {x:Operand} {lo hi':Option Operand} {mx:MO} {sz:Nat} {l hh:Int} {z:ai} (ho:o.op=.slice t x lo hi' none) (hN:∀n,o.dst=some n->n<N) (iz:bi x mx=true)
  (ht:P.underlying t=some (.slice e)) (hi:P.info? e=some i) (bo:i.size=sz) (ic:0<sz) {len:Nat}
  (pG:(lo=none/\l=0)\/∃y my,lo=some y/\bi y my=true/\(σ.ev my).cZ=some l) (sA:(hi'=none/\hh=len)\/∃y my,hi'=some y/\bi y my=true/\(σ.ev my).cZ=some hh)
  (h0:0<=l) (h1:l<=hh) (h2:hh<=len)
  (hz:(∃n l0,σ.ev mx=.one (.sl n sz l0 len)/\(σ.h n).isSome=true/\z=.one (.sl n sz (l0+l.toNat) (hh - l).toNat))\/(∃xs,σ.ev mx=.one (.c (.list sz xs))/\len=xs.length/\z=.one (.c (.list sz ((xs.drop l.toNat).take (hh - l).toNat))))):
  o.wp P a w (Nx B E w0 N (σ.put o.dst z)) Q:=by
 obtain⟨x1,x2⟩:=r.ev iz
 have KS:(lo.map a.eval=none/\l=0)\/∃k,lo.map a.eval=some (.int k l):=by
  rcases pG with⟨rfl,h⟩|⟨y,my,rfl,c1,c2⟩
  ·exact .inl ⟨rfl,h⟩
  ·obtain⟨k,hk⟩:=(r.ev c1).1.int c2
   exact .inr ⟨k,by simp[hk]⟩
 have KI:(hi'.map a.eval=none/\hh=len)\/∃k,hi'.map a.eval=some (.int k hh):=by
  rcases sA with⟨rfl,h⟩|⟨y,my,rfl,c1,c2⟩
  ·exact .inl ⟨rfl,h⟩
  ·obtain⟨k,hk⟩:=(r.ev c1).1.int c2
   exact .inr ⟨k,by simp[hk]⟩
 rcases hz with⟨n,l0,e1,hs,rfl⟩|⟨xs,e1,rfl,rfl⟩
 ·rw[e1] at x1 x2
  have fQ:gy (G.g n) sz l0 len (a.eval x):=(x1.eB (by simp)).1 (FZ hs)
  rcases fQ with⟨aE,hv,rfl,rfl⟩|⟨aE,a',hv,hH,ha⟩
  ·have hr:=CL (P:=P) (w:=w) (ya:=(G.g n).na) (len:=0) (cap:=(G.g n).cap) ht hi bo KS KI h0 h1 h2 (Nat.zero_le _)
   have lA:l.toNat=0:=by omega
   have hh0:(hh - l).toNat=0:=by omega
   refine fH r (v:=.slice (G.g n).na 0 (G.g n).cap) ?_ (RA.fi rfl fun _=>.inl ⟨aE,rfl,by omega,by omega⟩) (fun m hm=>x2 m hm) hN
   simp only[execOp,ho,hv,Option.map_none]
   simp only[lA,hh0,Nat.zero_mul] at hr
   have ha:(G.g n).na.map (fun x=>x.add 0)=(G.g n).na:=by
    cases (G.g n).na with
    |none=>rfl
    |some x=>simp[Addr.add]
   rw[ha] at hr
   simp[hr]
  ·have hr:=CL (P:=P) (w:=w) (ya:=a') (len:=len) (cap:=(G.g n).cap - l0) ht hi bo KS KI h0 h1 h2 (by omega)
   refine fH r (by simp only[execOp,ho,hv,Option.map_none];simp[hr];rfl) (RA.fi rfl fun _=>.inr ⟨aE,_,by rw[Nat.sub_sub],by omega,fun hc=>?_⟩) (fun m hm=>x2 m hm) hN
   split
   ·rename_i bq
    have:l0=0/\l.toNat=0:=by omega
    rw[ha (.inr this.1),this.1,this.2]
   ·rename_i bq
    have bB:l0<(G.g n).cap:=by omega
    rw[ha (.inl bB)]
    simp only[Option.map_some,lV]
    rw[Nat.add_mul,Nat.add_assoc]
 ·rw[e1] at x1
  obtain⟨pc,p1,p2,p3,p4⟩:=x1.c
  cases pc with
  |int k n=>simp[PC.er] at p1
  |bool b=>simp[PC.er] at p1
  |list s' ya c py=>
   rw[PC.du] at p1
   injection p1 with p0 p1
   subst p0
   have hlen:xs.length=py.length:=by rw[<-p1];simp
   have hv:a.eval x=.slice ya xs.length c:=by rw[<-p2,hlen];rfl
   have hH:xs.length<=c\/py=[]:=by
    cases p3 with
    |nil _ _ _ _=>exact .inr rfl
    |cons _ b oo _ _ g1 g2 g3 g4 g5 g6=>exact .inl (by rw[hlen];exact g2)
   have BA:xs.length<=c:=by
    rcases hH with hc|hc
    ·exact hc
    ·rw[hlen,hc];exact Nat.zero_le _
   have hr:=CL (P:=P) (w:=w) (ya:=ya) (len:=xs.length) (cap:=c) ht hi bo KS KI h0 h1 h2 BA
   have ac5:((py.drop l.toNat).take (hh - l).toNat).length=(hh - l).toNat:=by simp;omega
   let dd:PC:=.list s' (if c=l.toNat then ya else ya.map (·.add (l.toNat*s'))) (c - l.toNat) ((py.drop l.toNat).take (hh - l).toNat)
   have gO:Good w dd/\∀b,aM b dd->G.Im b:=by
    by_cases yK:(py.drop l.toNat).take (hh - l).toNat=[]
    ·constructor
     ·show Good w (.list _ _ _ _)
      rw[yK];exact .nil _ _ _ ic
     ·intro b hb
      rw[aM.jk,yK] at hb
      rcases hb with⟨hb,_⟩|⟨k,j,c,⟨e,he,_⟩,_⟩
      ·exact absurd rfl hb
      ·simp at he
    ·cases p3 with
     |nil _ _ _ _=>simp at yK
     |cons _ b oo _ _ g1 g2 g3 g4 g5 g6=>
      have dU:0<(hh - l).toNat:=by
       rcases Nat.eq_zero_or_pos (hh - l).toNat with hz|hz
       ·rw[hz] at yK;simp at yK
       ·exact hz
      have av:c≠l.toNat:=by omega
      have bc:dd=.list s' (some (ad b (oo+l.toNat*s'))) (c - l.toNat) ((py.drop l.toNat).take (hh - l).toNat):=by
       show PC.list _ _ _ _=_
       rw[if_neg av];simp[lV]
      rw[bc]
      constructor
      ·refine .cons _ _ _ _ _ yK (by omega) g3 (fun e he=>g4 e (List.mem_of_mem_drop (List.mem_of_mem_take he))) (fun k j c' hk=>?_) (fun k j c' hk=>g6 _ _ _ (mU hk).1)
       have:=g5 _ _ _ (mU hk).1
       rw[Nat.add_mul] at this
       rw[<-this]
       congr 2
       omega
      ·intro x hx
       rw[aM.jk] at hx
       rcases hx with⟨_,o',fP⟩|⟨k,j,c',hk,hx⟩
       ·injection fP with fP
        rw[<-(lg fP).1]
        exact p4 b (.here _ _ _ _ g1)
       ·exact p4 x (.there _ _ _ _ _ _ c' (mU hk).1 hx)
   refine fH r (v:=dd.val) ?_ (RA.fi (PC.jN _) ⟨dd,?_,rfl,gO.1,gO.2⟩) (fun q hq=>absurd hq oB) hN
   ·simp only[execOp,ho,hv,Option.map_none]
    simp[hr,dd,PC.val,ac5]
   ·show PC.er (.list _ _ _ _)=_
    rw[PC.du,List.map_take,List.map_drop,p1]
theorem AS {b x:Nat} {v:Value} {cur:Array Value} {e:TypeId} (hg:w.heap[b]? =some (.cells cur e (0,0))) (hc:w.cell? (ad b x)=some v):x<cur.size:=by
 have h2:w.cell? (ad b x)=cur[x]? :=by simp[World.cell?,ad,hg]
 rw[h2] at hc
 exact(Array.getElem?_eq_some_iff.1 hc).1
theorem abQ (r:R B E w0 N σ a w G) {t:TypeId} {i:TypeInfo} {x y:Operand} {mx my:MO} {sz n k au off:Nat} {ag:Bool} {vs cs:List ae} (ho:o.op=.store t x y) (hd:o.dst=none) (iz:bi x mx=true) (iK:bi y my=true)
  (hi:P.info? t=some i) (bo:i.size=sz) (ic:0<sz) (hp:σ.ev mx=.one (.ptr n k au off)) (hv:(σ.ev my).cells?=some (ag,vs)) (hl:vs.length=sz) (hn:σ.h n=some (.box cs)) (hk:k=0) (fJ:off+sz<=cs.length):
  o.wp P a w (Nx B E w0 N (σ.df n (.box (bY cs off vs)))) Q:=by
 obtain⟨x1,_⟩:=r.ev iz
 obtain⟨y1,y2⟩:=r.ev iK
 rw[hp] at x1
 subst hk
 obtain⟨p1,p2⟩:=(x1.eB (by simp)).1 (by rw[hn];simp)
 obtain⟨q1,⟨cur,et,q2⟩,q3⟩:=r.hr.box n cs hn
 have bq:=y1.cells hv
 have BW:(a.eval y).cells.toList.length=sz:=by rw[bq.1,hl]
 have Bv:(G.g n).o+off+(a.eval y).cells.toList.length<=cur.size:=by
  obtain⟨v,v1,_⟩:=q3 (off+sz - 1) (cs[off+sz - 1]'(by omega)) (List.getElem?_eq_getElem _)
  have:=AS q2 v1
  omega
 have r':=r.akT hn bq (fun c hc m hm=>y2 m (ai.vG hv hc hm)) (by omega) q2 Bv
 have bH:=GN (P:=P) (w:=w) (t:=t) (i:=i) (b:=(G.g n).b) (off:=(G.g n).o+off) (v:=a.eval y) (cur:=cur) (e:=et) hi (by rw[bo,<-BW];simp) q2 (by simpa using Bv) (fun u hu=>by
  obtain⟨j,hj,BL⟩:=List.getElem_of_mem hu
  have sB:j<vs.length:=by omega
  have:=(bq.2 j _ u (List.getElem?_eq_getElem sB) (by rw[List.getElem?_eq_getElem hj,BL])).1
  exact this)
 refine HN (w':=dY w (G.g n).b ((G.g n).o+off) (a.eval y).cells.toList cur) ?_ ⟨G,?_⟩
 ·simp only[execOp,ho,p2,Nat.zero_mul,Nat.add_zero]
  simp[Instr.storeAt,Instr.sureAddr,bH]
 ·rw[hd];exact r'
theorem abS (r:R B E w0 N σ a w G) {t:TypeId} {i:TypeInfo} {x y:Operand} {mx my:MO} {sz n k off:Nat} {ag gr:Bool} {m:Mode} {rs:Nat} {xs:List (List C)} {el:List C} {vs:List ae} {σ2:St} (ho:o.op=.store t x y) (hd:o.dst=none) (iz:bi x mx=true) (iK:bi y my=true)
  (hi:P.info? t=some i) (bo:i.size=sz) (ic:0<sz) (hp:σ.ev mx=.one (.ptr n k rs off)) (hv:(σ.ev my).cells?=some (ag,vs)) (hl:vs.length=sz) (hn:σ.h n=some (.row gr m rs xs)) (hk:xs[k]? =some el)
  (hx:k7 σ n gr m rs xs k off el vs=some σ2):o.wp P a w (Nx B E w0 N σ2) Q:=by
 obtain⟨x1,_⟩:=r.ev iz
 obtain⟨y1,y2⟩:=r.ev iK
 rw[hp] at x1
 obtain⟨p1,p2⟩:=(x1.eB (by simp)).1 (by rw[hn];simp)
 have hr:=r.hr.row n gr m rs xs hn
 obtain⟨⟨cur,et,q2⟩,l2,l3⟩:=hr.dv p1
 have bq:=y1.cells hv
 have BW:(a.eval y).cells.toList.length=sz:=by rw[bq.1,hl]
 have Fw:off+vs.length<=el.length:=by
  unfold k7 at hx
  split at hx
  ·cases hx
  ·rename_i eQ hs;exact(Ad hs).1
 have sD:∃pe,(G.g n).px[k]? =some pe/\pe.map PC.er=el:=by
  have cC:=hk
  rw[hr.er,List.getElem?_map] at cC
  cases hq:(G.g n).px[k]? with
  |none=>rw[hq] at cC;cases cC
  |some pe=>rw[hq] at cC;simp at cC;exact⟨pe,rfl,cC⟩
 obtain⟨pe,t7,t8⟩:=sD
 have Fx:pe.length=el.length:=by rw[<-t8];simp
 have Bv:(G.g n).o+k*rs+off+(a.eval y).cells.toList.length<=cur.size:=by
  have hc:=l2.2.1 k (off+sz - 1) (pe[off+sz - 1]'(by omega)) ⟨pe,t7,List.getElem?_eq_getElem _⟩
  have:=AS q2 hc
  omega
 obtain⟨G',r'⟩:=r.k7 hn p1 hk bq (fun c hc m hm=>y2 m (ai.vG hv hc hm)) hx q2 Bv
 have bH:=GN (P:=P) (w:=w) (t:=t) (i:=i) (b:=(G.g n).b) (off:=(G.g n).o+k*rs+off) (v:=a.eval y) (cur:=cur) (e:=et) hi (by rw[bo,<-BW];simp) q2 (by simpa using Bv) (fun u hu=>by
  obtain⟨j,hj,BL⟩:=List.getElem_of_mem hu
  have sB:j<vs.length:=by omega
  exact(bq.2 j _ u (List.getElem?_eq_getElem sB) (by rw[List.getElem?_eq_getElem hj,BL])).1)
 refine HN (w':=dY w (G.g n).b ((G.g n).o+k*rs+off) (a.eval y).cells.toList cur) ?_ ⟨G',?_⟩
 ·simp only[execOp,ho,p2]
  simp[Instr.storeAt,Instr.sureAddr,bH]
 ·rw[hd];exact r'
def vH (places:List (Nat×Nat)):List (Nat×Operand)->List (Nat×Nat×MO)->Bool
 |[],[]=>true
 |(i,x)::ps,(off,sz,m)::ms=>(places[i]? ==some (off,sz))&&bi x m&&vH places ps ms
 |_,_=>false
theorem S6 (r:R B E w0 N σ a w G) (places:List (Nat×Nat)):∀(ps:List (Nat×Operand)) (ms:List (Nat×Nat×MO)) (zs cs:List ae) (cur:Array Value),vH places ps ms=true->
  cL w G σ.h zs cur.toList->(∀c∈zs,∀m,c.ref m->σ.used m=true)->nF σ.ev zs ms=some cs->
  ∃iw,Instr.fill (places.toArray[·]?) cur (ps.map fun p=>(p.1,a.eval p.2))=some iw/\cL w G σ.h cs iw.toList/\∀c∈cs,∀m,c.ref m->σ.used m=true
 |[],[],zs,cs,cur,_,hz,hr,hx=>by
  simp only[nF] at hx
  injection hx with hx
  subst hx
  exact⟨cur,rfl,hz,hr⟩
 |(i,x)::ps,(off,sz,m)::ms,zs,cs,cur,hc,hz,hr,hx=>by
  simp only[vH,Bool.and_eq_true,beq_iff_eq] at hc
  obtain⟨⟨c1,c2⟩,c3⟩:=hc
  simp only[nF] at hx
  split at hx
  ·rename_i ag vs hv
   split at hx
   ·rename_i cm
    obtain⟨h1,h2⟩:=cm
    obtain⟨y1,y2⟩:=r.ev c2
    have bq:=y1.cells hv
    have mh:(a.eval x).cells.size=sz:=by rw[<-Array.length_toList,bq.1,h1]
    have hzl:cur.size=zs.length:=by rw[<-Array.length_toList,hz.1]
    have wD:cL w G σ.h (bY zs off vs) (bY cur.toList off (a.eval x).cells.toList):=by
     have Lf:(a.eval x).cells.toList.length=vs.length:=bq.1
     refine⟨?_,fun j c u hj hu=>?_⟩
     ·rw[Hk (by rw[Lf,hz.1];omega),Hk (by omega),hz.1]
     ·rw[u6 (by omega)] at hj
      rw[u6 (by rw[Lf,hz.1];omega),Lf] at hu
      by_cases fu:off<=j/\j<off+vs.length
      ·rw[if_pos fu] at hj hu;exact bq.2 _ c u hj hu
      ·rw[if_neg fu] at hj hu;exact hz.2 _ c u hj hu
    obtain⟨iw,e1,e2,e3⟩:=S6 r places ps ms (bY zs off vs) cs (bY cur.toList off (a.eval x).cells.toList).toArray c3 wD (fun c hc q hq=>by
     simp only[bY,List.mem_append] at hc
     rcases hc with(hc|hc)|hc
     ·exact hr c (List.mem_of_mem_take hc) q hq
     ·exact y2 q (ai.vG hv hc hq)
     ·exact hr c (List.mem_of_mem_drop hc) q hq) hx
    refine⟨iw,?_,e2,e3⟩
    simp only[List.getElem?_toArray] at e1
    simp only[List.map_cons,Instr.fill,List.getElem?_toArray,c1]
    rw[if_neg (by simp;omega),Tp _ _ _ (by omega)]
    exact e1
   ·cases hx
  ·cases hx
 |[],_::_,_,_,_,hc,_,_,_=>by simp[vH] at hc
 |(_,_)::_,[],_,_,_,hc,_,_,_=>by simp[vH] at hc
theorem abm (r:R B E w0 N σ a w G) {t:TypeId} {parts:Array (Nat×Operand)} {ms:List (Nat×Nat×MO)} {zs cs:List ae} {it:TypeInfo} {z:Value} {lZ:Array Field} {places:List (Nat×Nat)} (ho:o.op=.build t parts) (hN:∀n,o.dst=some n->n<N)
  (tT:P.info? t=some it) (hz:it.zero=some z) (hu:P.underlying t=some (.struct lZ)) (eH:lZ.toList.mapM (fun f=>(P.info? f.type).map fun i=>(f.offset,i.size))=some places)
  (UG:qz z.cells.toList zs=true) (hc:vH places parts.toList ms=true) (hx:nF σ.ev zs ms=some cs):o.wp P a w (Nx B E w0 N (σ.put o.dst (.agg cs))) Q:=by
 obtain⟨z1,z2⟩:=Ep (w:=w) (G:=G) (h:=σ.h) UG
 obtain⟨iw,e1,e2,e3⟩:=S6 r places parts.toList ms zs cs z.cells hc z1 (fun c hc m hm=>absurd hm (z2 c hc m)) hx
 refine fH r (v:=.agg iw) ?_ ⟨iw.toList,by simp,e2⟩ (fun m hm=>by obtain⟨c,hc,hm⟩:=hm;exact e3 c hc m hm) hN
 have hb:P.built t (parts.map fun p=>(p.1,a.eval p.2)).toList=some iw:=by
  unfold Program.built
  simp only[tT,hu,hz,eH,Array.toList_map]
  exact e1
 have bH:=run_build (P:=P) w t _ iw hb
 simp only[execOp,ho]
 simp[bH]
theorem abI (r:R B E w0 N σ a w G) {f:FuncId} {xs:Array Operand} {ms:List MO} {cs:List ae} (ho:o.op=.makeFunc (.func f) #[] xs) (hN:∀n,o.dst=some n->n<N)
  (hc:ms.length=xs.size/\∀(j:Nat) (x:Operand) (m:MO),xs.toList[j]? =some x->ms[j]? =some m->bi x m=true)
  (hx:(ms.map σ.ev).mapM (fun v=>match v with|.one c=>if c.iO=true then none else some c|_=>none)=some cs) (hj:∀c∈cs,c≠ .bg):o.wp P a w (Nx B E w0 N (σ.put o.dst (.one (.fn f cs)))) Q:=by
 have bU:∀(ms:List MO) (xs:List Operand) (cs:List ae),ms.length=xs.length->(∀(j:Nat) (x:Operand) (m:MO),xs[j]? =some x->ms[j]? =some m->bi x m=true)->
   (ms.map σ.ev).mapM (fun v=>match v with|.one c=>if c.iO=true then none else some c|_=>none)=some cs->(∀c∈cs,c≠ .bg)->
   (xs.map a.eval).length=cs.length/\∀(j:Nat) (c:ae) (u:Value),cs[j]? =some c->(xs.map a.eval)[j]? =some u->(u.oneCell'=true/\gJ w G σ.h c u)/\∀m,c.gu m->σ.used m=true:=by
  intro ms
  induction ms with
  |nil=>
   intro xs cs hl _ hx _
   have:xs=[]:=List.eq_nil_of_length_eq_zero (by simpa using hl.symm)
   subst this
   simp at hx
   subst hx
   simp
  |cons m ms ih=>
   intro xs cs hl dh hx hj
   match xs,hl with
   |x::xs,hl=>
    simp only[List.map_cons,List.mapM_cons,Option.bind_eq_bind,Option.pure_def] at hx
    cases hm:σ.ev m with
    |one c=>
     rw[hm] at hx
     by_cases hf:c.iO=true
     ·simp[hf] at hx
     ·simp only[hf,if_false,Bool.false_eq_true,Option.bind_some] at hx
      cases hr:(ms.map σ.ev).mapM (fun v=>match v with|.one c=>if c.iO=true then none else some c|_=>none) with
      |none=>rw[hr] at hx;simp at hx
      |some cs'=>
       rw[hr] at hx
       simp at hx
       subst hx
       obtain⟨i1,i2⟩:=ih xs cs' (by simpa using hl) (fun j x m h1 h2=>dh (j+1) x m h1 h2) hr (fun c hc=>hj c (by simp[hc]))
       refine⟨by simp[i1],fun j c' u jd hu=>?_⟩
       cases j with
       |zero=>
        simp at jd hu
        subst jd;subst hu
        obtain⟨e1,e2⟩:=r.ev (dh 0 x m rfl rfl)
        rw[hm] at e1 e2
        have qN:c.iO=false:=by simpa using hf
        have h1:=(e1.eB (hj c (by simp)))
        rw[rR _ _ _ _ _ qN] at h1
        exact⟨⟨h1.2,h1.1⟩,fun q hq=>e2 q (by show c.ref q;rw[ae.XU c q qN];exact hq)⟩
       |succ j=>exact i2 j c' u (by simpa using jd) (by simpa using hu)
    |agg gb=>rw[hm] at hx;simp at hx
    |aY l=>rw[hm] at hx;simp at hx
 obtain⟨k1,k2⟩:=bU ms xs.toList cs (by simpa using hc.1) hc.2 hx hj
 have gE:∀m,(ae.fn f cs).ref m->σ.used m=true:=fun m hm=>by
  obtain⟨c,iI,hm⟩:=hm
  obtain⟨j,jd,sB⟩:=List.getElem_of_mem iI
  have pF:j<(xs.toList.map a.eval).length:=by omega
  exact(k2 j c _ (by rw[List.getElem?_eq_getElem jd,sB]) (List.getElem?_eq_getElem pF)).2 m hm
 refine fH r (v:=.func (.func f) #[] (xs.toList.map a.eval).toArray) ?_ (RA.fi rfl ⟨xs.toList.map a.eval,rfl,k1,fun j c u h1 h2=>(k2 j c u h1 h2).1⟩) gE hN
 simp only[execOp,ho,Instr.makeFunc]
 have:Array.map a.eval xs=(xs.toList.map a.eval).toArray:=by apply Array.ext';simp
 simp[this]
theorem xX {α:Type} {xs:List (List α)} {l k j:Nat} {c:α} (h:At (xs.drop l) k j c):At xs (l+k) j c:=by
 obtain⟨e,he,hj⟩:=h
 rw[List.getElem?_drop] at he
 exact⟨e,he,hj⟩
theorem ajN {b l:Nat} {px:List (List PC)} (h:aN b (px.drop l)):aN b px:=by
 obtain⟨k,j,c,h1,h2⟩:=h
 exact⟨_,_,_,xX h1,h2⟩
theorem gx.drop {px:List (List PC)} (h:gx px) (l:Nat):gx (px.drop l):=
 ⟨fun k j c hk=>h.1 _ _ _ (xX hk),fun k j c k' j' c' b hk cC av=>h.2 _ _ _ _ _ _ b (xX hk) (xX cC) (fun e=>av (by injection e with e1 e2;rw[show k=k' by omega,e2]))⟩
theorem abT (r:R B E w0 N σ a w G) {n n0:Nat} {t e:TypeId} {i:TypeInfo} {x y:Operand} {mx my:MO} {sz:Nat} {l:Int} {m:Mode} {xs:List (List C)} {σ1:St} (ho:o.op=.slice t x (some y) none none) (hd:o.dst=some n) (hN:n<N)
  (iz:bi x mx=true) (iK:bi y my=true) (ht:P.underlying t=some (.slice e)) (hi:P.info? e=some i) (bo:i.size=sz) (ic:0<sz)
  (hx:σ.ev mx=.one (.sl n0 sz 0 xs.length)) (hl:(σ.ev my).cZ=some l) (h0:0<=l) (h1:l<=(xs.length:Int)) (hn:σ.h n0=some (.row true m sz xs)) (hi1:(σ.del n0).ins n (.row true m sz (xs.drop l.toNat))=some σ1):
  o.wp P a w (Nx B E w0 N (σ1.put o.dst (.one (.sl n sz 0 (xs.length - l.toNat))))) Q:=by
 obtain⟨BQ,rfl⟩:=j8 hi1
 obtain⟨x1,x2⟩:=r.ev iz
 rw[hx] at x1 x2
 obtain⟨kk,ey⟩:=(r.ev iK).1.int hl
 have bJ:σ.h n0≠none:=by rw[hn];simp
 have fQ:gy (G.g n0) sz 0 xs.length (a.eval x):=(x1.eB (by simp)).1 bJ
 have H:=r.hr
 have hr:=H.row n0 true m sz xs hn
 have oe:xs.length=(G.g n0).px.length:=by rw[hr.er];simp
 have F:=jP.NA H hn
 have hln:l.toNat<=xs.length:=by omega
 obtain⟨p,v,eN,bH,Fy,eH,Uq⟩:∃(p:PB) (v:Value),p.px=(G.g n0).px.drop l.toNat/\(execOp a.eval o).run P w=.ok (.value v) w/\(p.nl=true->p.px=[]/\p.cap=0)/\
   (p.nl=false->(G.g n0).nl=false/\p.b=(G.g n0).b/\p.o=(G.g n0).o+l.toNat*sz/\p.cap=(G.g n0).cap - l.toNat/\l.toNat<=(G.g n0).cap)/\gy p sz 0 (xs.length - l.toNat) v:=by
  rcases fQ with⟨aE,hv,_,lA⟩|⟨aE,a',hv,hH,ha⟩
  ·have bH:=CL (P:=P) (w:=w) (ya:=(G.g n0).na) (len:=0) (cap:=(G.g n0).cap) (lo:=some (.int kk l)) (hi':=none) (l:=l) (hh:=0) ht hi bo (.inr ⟨kk,rfl⟩) (.inl ⟨rfl,rfl⟩) h0 (by omega) (by omega) (Nat.zero_le _)
   obtain⟨wY,tF⟩:=hr.nl aE
   have tF:=tF rfl
   have hlz:l.toNat=0:=by omega
   refine⟨⟨true,0,0,0,[],(G.g n0).na⟩,.slice (G.g n0).na 0 0,by rw[wY];simp,?_,fun _=>⟨rfl,rfl⟩,(fun h=>by cases h),.inl ⟨rfl,rfl,rfl,by omega⟩⟩
   simp only[execOp,ho,hv,Option.map_none,Option.map_some,ey]
   rw[tF,hlz] at bH
   simp only[if_true] at bH
   simp[bH,tF]
   omega
  ·have bH:=CL (P:=P) (w:=w) (ya:=a') (len:=xs.length) (cap:=(G.g n0).cap - 0) (lo:=some (.int kk l)) (hi':=none) (l:=l) (hh:=xs.length) ht hi bo (.inr ⟨kk,rfl⟩) (.inl ⟨rfl,rfl⟩) h0 h1 (by omega) (by omega)
   have qM:=ha (.inr rfl)
   have e2:((xs.length:Int) - l).toNat=xs.length - l.toNat:=by omega
   rw[e2,Nat.sub_zero] at bH
   by_cases hc:(G.g n0).cap=l.toNat
   ·have e3:xs.length - l.toNat=0:=by omega
    rw[if_pos hc,e3] at bH
    refine⟨⟨true,0,0,0,[],a'⟩,.slice a' 0 0,?_,?_,fun _=>⟨rfl,rfl⟩,(fun h=>by cases h),.inl ⟨rfl,rfl,rfl,e3⟩⟩
    ·rw[List.drop_eq_nil_of_le (by omega)]
    ·simp only[execOp,ho,hv,Option.map_none,Option.map_some,ey,Nat.sub_zero]
     rw[hc,Nat.sub_self] at bH
     simp[bH,hc]
   ·rw[if_neg hc,qM] at bH
    simp only[Option.map_some,lV,Nat.zero_mul,Nat.add_zero] at bH
    refine⟨⟨false,(G.g n0).b,(G.g n0).o+l.toNat*sz,(G.g n0).cap - l.toNat,(G.g n0).px.drop l.toNat,none⟩,.slice (some (ad (G.g n0).b ((G.g n0).o+l.toNat*sz))) (xs.length - l.toNat) ((G.g n0).cap - l.toNat),rfl,?_,(fun h=>by cases h),fun _=>⟨aE,rfl,rfl,rfl,by omega⟩,.inr ⟨rfl,some (ad (G.g n0).b ((G.g n0).o+l.toNat*sz)),by simp,by simp;omega,fun _=>by simp⟩⟩
    simp only[execOp,ho,hv,Option.map_none,Option.map_some,ey,Nat.sub_zero,qM,Nat.zero_mul,Nat.add_zero]
    simp[bH]
 have eA:∀b,aN b p.px->aN b (G.g n0).px:=fun b hb=>ajN (by rw[<-eN];exact hb)
 have H1:HR B E w G (aq σ.h n0 none) σ.used []:=H.del n0
 have K1:aQ w G σ.h (fun q=>σ.used q=true) w G (aq σ.h n0 none):=aQ.del n0 _
 have Hn:HR B E w ⟨G.Im,aq G.g n p⟩ (aq (aq σ.h n0 none) n (some (.row true m sz (xs.drop l.toNat)))) (aq σ.used n true) []:=by
  refine H1.insert (w':=w) (p:=p) BQ (fun _ _=>rfl) (Nat.le_refl _) (fun hf=>?_) (fun cs c q hb=>by cases hb) ?_ ?_ ?_ (fun gr m sz xs _ _ i pc b hi=>by simp at hi)
  ·obtain⟨q1,q2,q3,q4,q5⟩:=eH hf
   obtain⟨o1,o2,o3⟩:=H.own n0 bJ q1
   rw[q2]
   refine⟨⟨o1,fun q hq KT=>?_,fun q gr m' aC ao hq hb=>?_⟩,o2,o3⟩
   ·obtain⟨d1,d2⟩:=yk hq
    exact H.inj q n0 d1 bJ d2 KT q1
   ·exact H.qI bJ q1 (nQ hq).1 hb rfl
  ·refine⟨hr.pos,by rw[eN,hr.er,List.map_drop],fun h=>⟨(Fy h).1,fun _=>(Fy h).2⟩,fun hf=>?_,fun hf _=>?_,?_⟩
   ·obtain⟨q1,q2,q3,q4,q5⟩:=eH hf
    obtain⟨l1,⟨l2,l3,l4⟩,l5⟩:=hr.dv q1
    rw[q2,q3,q4,eN]
    refine⟨l1,⟨fun e he=>l2 e (List.mem_of_mem_drop he),fun k j c hk=>?_,fun k j c hk=>l4 _ _ _ (xX hk)⟩,by simp;omega⟩
    have:=l3 _ _ _ (xX hk)
    rw[<-this]
    congr 2
    rw[Nat.add_mul]
    omega
   ·obtain⟨q1,q2,q3,q4,q5⟩:=eH hf
    obtain⟨r2,cur,ee,r3,r4⟩:=hr.room q1 rfl
    unfold Ds
    rw[q2,q3,q4]
    refine⟨by omega,cur,ee,r3,?_⟩
    rw[r4,Nat.add_assoc,<-Nat.add_mul]
    congr 2
    omega
   ·have hm:=hr.mode
    show Az B E w _ p.px m
    cases m with
    |aF=>exact fun b hb=>hm b (eA b hb)
    |aj=>exact⟨fun b hb=>hm.1 b (eA b hb),by rw[eN];exact hm.2.drop _⟩
    |live=>exact⟨fun b hb=>hm.1 b (eA b hb),by rw[eN];exact hm.2.drop _⟩
  ·intro gr m' aC ao hb gi q aU mo iS gw h0 ia b cz
   injection hb with _ hb _ _
   subst hb
   exact F.fg gi q aU mo iS gw h0 ia b (eA b cz)
  ·intro gr aC ao hb b cz
   injection hb with _ hb _ _
   exact⟨fun hf=>by rw[(eH hf).2.1];exact H.qI bJ (eH hf).1 hn (eA b cz),fun q h0 KT=>F.live hb b (eA b cz) q h0 KT⟩
 have r':R B E w0 N {(σ.del n0) with h:=aq (σ.del n0).h n (some (.row true m sz (xs.drop l.toNat))),used:=aq (σ.del n0).used n true} a w ⟨G.Im,aq G.g n p⟩:=
  r.step rfl (fun q hq=>oT n q hq) (aQ.trans (u2:=fun q=>σ.used q=true) (fun _ h=>h) K1 (aQ.insert H1 BQ (fun _ _=>rfl))) Hn r.fr
 have BR:v.oneCell'=true:=by rcases Uq with⟨_,h,_⟩|⟨_,_,h,_⟩<;>rw[h]<;>rfl
 have pL:RC w ⟨G.Im,aq G.g n p⟩ (aq (aq σ.h n0 none) n (some (.row true m sz (xs.drop l.toNat)))) (.sl n sz 0 (xs.length - l.toNat)) v:=fun _=>by simpa[bu] using Uq
 refine lR (v:=v) (w':=w) bH ⟨_,r'.put (RA.fi BR pL) (fun q hq=>by have dB:q=n:=hq;subst dB;exact bu _ _ _) (fun q hq=>by rw[hd] at hq;injection hq with hq;omega)⟩
end
end Go.Am
