/- Am15: indexes, lengths, slices, stores, struct literals as operations. No condition. -/
import Derived.Test.YtbgmbplglejidaaAm14
set_option linter.unusedVariables false
namespace Go.Am
section
variable {B:Nat} {E:Ex} {w0 w w':World} {G G':Gh} {h h':Nat->Option ao} {used used':Nat->Bool} {tk:List PC} {N:Nat}
variable {P:Program} {o:Oper} {a:Act} {σ σ':St} {Q:Exit->Act->World->Prop}
theorem Jd {n:Nat} (hs:(h n).isSome=true):h n≠none:=by intro hh;rw[hh] at hs;cases hs
theorem SZ {t e:TypeId} {i:TypeInfo} {sz b off len cap:Nat} {kk:IntKind} {q:Int} (ht:P.underlying t=some (.slice e)) (hi:P.info? e=some i) (bD:i.size=sz) (h0:0<=q) (h1:q<len):
  (Instr.indexAt t (.slice (some (ad b off)) len cap) (.int kk q)).run P w=.ok (.pointer (some (ad b (off+q.toNat*sz)))) w:=by
 simp[Instr.indexAt,run_underlying ht,asIntOf,h0,h1,sizeOf,typeInfo,hi,bD,nJ]
theorem XA (r:R B E w0 N σ a w G) {t e:TypeId} {i:TypeInfo} {x y:Operand} {mx my:MO} {sz:Nat} {q:Int} {z:aj} (ho:o.op=.indexAddr t x y) (hN:∀n,o.dst=some n->n<N) (gY:bB x mx=true) (jQ:bB y my=true)
  (ht:P.underlying t=some (.slice e)) (hi:P.info? e=some i) (bD:i.size=sz) (hq:(σ.ev my).df=some q) (h0:0<=q)
  (hz:(∃n lo len,σ.ev mx=.one (.sl n sz lo len)/\q<(len:Int)/\(σ.h n).isSome=true/\z=.one (.ptr n (lo+q.toNat) sz 0))\/(∃xs el,σ.ev mx=.one (.c (.list sz xs))/\xs[q.toNat]? =some el/\z=.one (.cu el 0))):
  o.wp P a w (Nx B E w0 N (σ.put o.dst z)) Q:=by
 obtain⟨x1,x2⟩:=r.ev gY
 obtain⟨kk,ey⟩:=(r.ev jQ).1.int hq
 rcases hz with⟨n,lo,len,e1,h1,hs,rfl⟩|⟨xs,el,e1,h1,rfl⟩
 ·rw[e1] at x1 x2
  have gj:jq (G.g n) sz lo len (a.eval x):=(x1.fH (by simp)).1 (Jd hs)
  rcases gj with⟨_,_,_,hl⟩|⟨aL,a',hv,ju,ha⟩
  ·omega
  ·have oO:=ha (.inl (by omega))
   subst oO
   refine gz r (v:=.pointer (some (ad (G.g n).b ((G.g n).o+lo*sz+q.toNat*sz)))) ?_ ?_ (fun m hm=>x2 m hm) hN
   ·simp only[execOp,ho,hv,ey]
    simp[SZ ht hi bD h0 h1]
   ·exact RA.ga rfl fun _=>⟨aL,by rw[Nat.add_mul];congr 3;omega⟩
 ·rw[e1] at x1
  obtain⟨pc,p1,p2,p3,p4⟩:=x1.c
  cases pc with
  |int k n=>simp[PC.er] at p1
  |bool b=>simp[PC.er] at p1
  |list s' ya c py=>
   rw[PC.dJ] at p1
   injection p1 with p0 p1
   subst p0
   have sL:∃pe,py[q.toNat]? =some pe/\pe.map PC.er=el:=by
    rw[<-p1,List.getElem?_map] at h1
    cases hp:py[q.toNat]? with
    |none=>rw[hp] at h1;cases h1
    |some pe=>rw[hp] at h1;simp at h1;exact⟨pe,rfl,h1⟩
   obtain⟨pe,uk,mE⟩:=sL
   have bG:q.toNat<py.length:=(List.getElem?_eq_some_iff.1 uk).1
   cases p3 with
   |nil _ _ _ _=>simp at bG
   |cons _ b oo _ _ g1 g2 g3 g4 g5 g6=>
    have eA:q<(py.length:Int):=by omega
    refine gz r (v:=.pointer (some (ad b (oo+q.toNat*s')))) ?_ ?_ (fun m hm=>absurd hm (by simp[aj.ref,ah.ref,ah.iD])) hN
    ·simp only[execOp,ho,<-p2,PC.val,ey]
     simp[SZ ht hi bD h0 eA]
    ·refine RA.ga rfl ⟨b,oo+q.toNat*s',pe,by simp,mE,p4 b (.here _ _ _ _ g1),fun j c hj=>?_⟩
     exact⟨g5 _ _ _ ⟨pe,uk,hj⟩,g6 _ _ _ ⟨pe,uk,hj⟩,fun b' aY=>p4 b' (.there _ _ _ _ _ _ c ⟨pe,uk,hj⟩ aY)⟩
theorem Ih (r:R B E w0 N σ a w G) {t e:TypeId} {x:Operand} {mx:MO} {len:Nat} (ho:o.op=.call {callee:=.builtin .len,args:=#[x],argTypes:=#[t]}) (hN:∀n,o.dst=some n->n<N) (hm:bB x mx=true)
  (ht:P.underlying t=some (.slice e))
  (hz:(∃n sz lo,σ.ev mx=.one (.sl n sz lo len)/\(σ.h n).isSome=true)\/(∃sz xs,σ.ev mx=.one (.c (.list sz xs))/\len=xs.length)\/(∃sz,σ.ev mx=.one (.nil sz)/\len=0)\/
   (∃n k az off sz l s ys,σ.ev mx=.one (.bz n k az off sz l)/\cg σ.h (.bz n k az off sz l)=some (.list s ys)/\len=ys.length)):
  o.wp P a w (Nx B E w0 N (σ.put o.dst (.one (.c (.int .i64 len))))) Q:=by
 obtain⟨x1,x2⟩:=r.ev hm
 have hv:∃a' c,a.eval x=.slice a' len c:=by
  rcases hz with⟨n,sz,lo,e1,hs⟩|⟨sz,xs,e1,rfl⟩|⟨sz,e1,rfl⟩|⟨n,k,az,off,sz,l,s,ys,e1,OT,rfl⟩
  ·rw[e1] at x1
   have gj:jq (G.g n) sz lo len (a.eval x):=(x1.fH (by simp)).1 (Jd hs)
   rcases gj with⟨_,hv,_,rfl⟩|⟨_,a',hv,_,_⟩
   ·exact⟨_,_,hv⟩
   ·exact⟨_,_,hv⟩
  ·rw[e1] at x1
   obtain⟨pc,p1,p2,_⟩:=x1.c
   cases pc with
   |int k n=>simp[PC.er] at p1
   |bool b=>simp[PC.er] at p1
   |list s' ya c py=>
    rw[PC.dJ] at p1
    injection p1 with _ p1
    refine⟨ya,c,?_⟩
    rw[<-p2,<-p1];simp[PC.val]
  ·rw[e1] at x1
   have fE:a.eval x=.slice none 0 0:=(x1.fH (by simp)).1
   exact⟨_,_,fE⟩
  ·rw[e1] at x1
   obtain⟨pc,p1,p2,_⟩:=r.hr.cg OT (x1.fH (by simp)).1
   cases pc with
   |int k n=>simp[PC.er] at p1
   |bool b=>simp[PC.er] at p1
   |list s' ya c py=>
    rw[PC.dJ] at p1
    injection p1 with _ p1
    refine⟨ya,c,?_⟩
    rw[<-p2,<-p1];simp[PC.val]
 obtain⟨a',c,hv⟩:=hv
 refine gz r (v:=.int .i64 len) ?_ (RA.of_int _ _) (fun q hq=>absurd hq qz) hN
 simp[execOp,ho,resolve,invoke,builtin,hv,Builtin.len_,run_underlying ht,goInt]
theorem EQ {t e:TypeId} {i:TypeInfo} {sz:Nat} {ya:Option Addr} {len cap:Nat} {lo hi':Option Value} {l hh:Int} (ht:P.underlying t=some (.slice e)) (hi:P.info? e=some i) (bD:i.size=sz)
  (v7:(lo=none/\l=0)\/∃k,lo=some (.int k l)) (ug:(hi'=none/\hh=len)\/∃k,hi'=some (.int k hh)) (h0:0<=l) (h1:l<=hh) (h2:hh<=len) (h3:len<=cap):
  (Instr.sliceAt t (.slice ya len cap) lo hi' none).run P w=.ok (.slice (if cap=l.toNat then ya else ya.map (·.add (l.toNat*sz))) (hh - l).toNat (cap - l.toNat)) w:=by
 have e1:(hh.toNat:Int)=hh:=Int.toNat_of_nonneg (by omega)
 have e2:(hh - l).toNat=hh.toNat - l.toNat:=by omega
 have h4:hh<=(cap:Int):=by omega
 have h5:0<=hh:=by omega
 rcases v7 with⟨rfl,rfl⟩|⟨k,rfl⟩<;>rcases ug with⟨rfl,rfl⟩|⟨k',rfl⟩<;>
  simp[Instr.sliceAt,Instr.slice,run_underlying ht,Instr.sliceBounds,Instr.sliceBound,asIntOf,sizeOf,typeInfo,hi,bD,h0,h1,h4,h5,e1,e2]<;>omega
theorem XF (r:R B E w0 N σ a w G) {t e:TypeId} {i:TypeInfo} {x:Operand} {lo hi':Option Operand} {mx:MO} {sz:Nat} {l hh:Int} {z:aj} (ho:o.op=.slice t x lo hi' none) (hN:∀n,o.dst=some n->n<N) (gY:bB x mx=true)
  (ht:P.underlying t=some (.slice e)) (hi:P.info? e=some i) (bD:i.size=sz) (jb:0<sz) {len:Nat}
  (v7:(lo=none/\l=0)\/∃y my,lo=some y/\bB y my=true/\(σ.ev my).df=some l) (ug:(hi'=none/\hh=len)\/∃y my,hi'=some y/\bB y my=true/\(σ.ev my).df=some hh)
  (h0:0<=l) (h1:l<=hh) (h2:hh<=len)
  (hz:(∃n l0,σ.ev mx=.one (.sl n sz l0 len)/\(σ.h n).isSome=true/\z=.one (.sl n sz (l0+l.toNat) (hh - l).toNat))\/(∃xs,σ.ev mx=.one (.c (.list sz xs))/\len=xs.length/\z=.one (.c (.list sz ((xs.drop l.toNat).take (hh - l).toNat))))):
  o.wp P a w (Nx B E w0 N (σ.put o.dst z)) Q:=by
 obtain⟨x1,x2⟩:=r.ev gY
 have Ow:(lo.map a.eval=none/\l=0)\/∃k,lo.map a.eval=some (.int k l):=by
  rcases v7 with⟨rfl,h⟩|⟨y,my,rfl,c1,c2⟩
  ·exact .inl ⟨rfl,h⟩
  ·obtain⟨k,hk⟩:=(r.ev c1).1.int c2
   exact .inr ⟨k,by simp[hk]⟩
 have Og:(hi'.map a.eval=none/\hh=len)\/∃k,hi'.map a.eval=some (.int k hh):=by
  rcases ug with⟨rfl,h⟩|⟨y,my,rfl,c1,c2⟩
  ·exact .inl ⟨rfl,h⟩
  ·obtain⟨k,hk⟩:=(r.ev c1).1.int c2
   exact .inr ⟨k,by simp[hk]⟩
 rcases hz with⟨n,l0,e1,hs,rfl⟩|⟨xs,e1,rfl,rfl⟩
 ·rw[e1] at x1 x2
  have gj:jq (G.g n) sz l0 len (a.eval x):=(x1.fH (by simp)).1 (Jd hs)
  rcases gj with⟨aL,hv,rfl,rfl⟩|⟨aL,a',hv,ju,ha⟩
  ·have hr:=EQ (P:=P) (w:=w) (ya:=(G.g n).na) (len:=0) (cap:=(G.g n).cap) ht hi bD Ow Og h0 h1 h2 (Nat.zero_le _)
   have kF:l.toNat=0:=by omega
   have hh0:(hh - l).toNat=0:=by omega
   refine gz r (v:=.slice (G.g n).na 0 (G.g n).cap) ?_ (RA.ga rfl fun _=>.inl ⟨aL,rfl,by omega,by omega⟩) (fun m hm=>x2 m hm) hN
   simp only[execOp,ho,hv,Option.map_none]
   simp only[kF,hh0,Nat.zero_mul] at hr
   have ha:(G.g n).na.map (fun x=>x.add 0)=(G.g n).na:=by
    cases (G.g n).na with
    |none=>rfl
    |some x=>simp[Addr.add]
   rw[ha] at hr
   simp[hr]
  ·have hr:=EQ (P:=P) (w:=w) (ya:=a') (len:=len) (cap:=(G.g n).cap - l0) ht hi bD Ow Og h0 h1 h2 (by omega)
   refine gz r (by simp only[execOp,ho,hv,Option.map_none];simp[hr];rfl) (RA.ga rfl fun _=>.inr ⟨aL,_,by rw[Nat.sub_sub],by omega,fun hc=>?_⟩) (fun m hm=>x2 m hm) hN
   split
   ·rename_i bL
    have:l0=0/\l.toNat=0:=by omega
    rw[ha (.inr this.1),this.1,this.2]
   ·rename_i bL
    have bG:l0<(G.g n).cap:=by omega
    rw[ha (.inl bG)]
    simp only[Option.map_some,nJ]
    rw[Nat.add_mul,Nat.add_assoc]
 ·rw[e1] at x1
  obtain⟨pc,p1,p2,p3,p4⟩:=x1.c
  cases pc with
  |int k n=>simp[PC.er] at p1
  |bool b=>simp[PC.er] at p1
  |list s' ya c py=>
   rw[PC.dJ] at p1
   injection p1 with p0 p1
   subst p0
   have hlen:xs.length=py.length:=by rw[<-p1];simp
   have hv:a.eval x=.slice ya xs.length c:=by rw[<-p2,hlen];rfl
   have ju:xs.length<=c\/py=[]:=by
    cases p3 with
    |nil _ _ _ _=>exact .inr rfl
    |cons _ b oo _ _ g1 g2 g3 g4 g5 g6=>exact .inl (by rw[hlen];exact g2)
   have vT:xs.length<=c:=by
    rcases ju with hc|hc
    ·exact hc
    ·rw[hlen,hc];exact Nat.zero_le _
   have hr:=EQ (P:=P) (w:=w) (ya:=ya) (len:=xs.length) (cap:=c) ht hi bD Ow Og h0 h1 h2 vT
   have ahf:((py.drop l.toNat).take (hh - l).toNat).length=(hh - l).toNat:=by simp;omega
   let dg:PC:=.list s' (if c=l.toNat then ya else ya.map (·.add (l.toNat*s'))) (c - l.toNat) ((py.drop l.toNat).take (hh - l).toNat)
   have gO:Good w dg/\∀b,aS b dg->G.Im b:=by
    by_cases AW:(py.drop l.toNat).take (hh - l).toNat=[]
    ·constructor
     ·show Good w (.list _ _ _ _)
      rw[AW];exact .nil _ _ _ jb
     ·intro b hb
      rw[aS.kq,AW] at hb
      rcases hb with⟨hb,_⟩|⟨k,j,c,⟨e,he,_⟩,_⟩
      ·exact absurd rfl hb
      ·simp at he
    ·cases p3 with
     |nil _ _ _ _=>simp at AW
     |cons _ b oo _ _ g1 g2 g3 g4 g5 g6=>
      have dL:0<(hh - l).toNat:=by
       rcases Nat.eq_zero_or_pos (hh - l).toNat with hz|hz
       ·rw[hz] at AW;simp at AW
       ·exact hz
      have aB:c≠l.toNat:=by omega
      have aZ:dg=.list s' (some (ad b (oo+l.toNat*s'))) (c - l.toNat) ((py.drop l.toNat).take (hh - l).toNat):=by
       show PC.list _ _ _ _=_
       rw[if_neg aB];simp[nJ]
      rw[aZ]
      constructor
      ·refine .cons _ _ _ _ _ AW (by omega) g3 (fun e he=>g4 e (List.mem_of_mem_drop (List.mem_of_mem_take he))) (fun k j c' hk=>?_) (fun k j c' hk=>g6 _ _ _ (oE hk).1)
       have:=g5 _ _ _ (oE hk).1
       rw[Nat.add_mul] at this
       rw[<-this]
       congr 2
       omega
      ·intro x hx
       rw[aS.kq] at hx
       rcases hx with⟨_,o',gA⟩|⟨k,j,c',hk,hx⟩
       ·injection gA with gA
        rw[<-(m4 gA).1]
        exact p4 b (.here _ _ _ _ g1)
       ·exact p4 x (.there _ _ _ _ _ _ c' (oE hk).1 hx)
   refine gz r (v:=dg.val) ?_ (RA.ga (PC.kw _) ⟨dg,?_,rfl,gO.1,gO.2⟩) (fun q hq=>absurd hq qz) hN
   ·simp only[execOp,ho,hv,Option.map_none]
    simp[hr,dg,PC.val,ahf]
   ·show PC.er (.list _ _ _ _)=_
    rw[PC.dJ,List.map_take,List.map_drop,p1]
theorem CY {b x:Nat} {v:Value} {cur:Array Value} {e:TypeId} (hg:w.heap[b]? =some (.cells cur e (0,0))) (hc:w.cell? (ad b x)=some v):x<cur.size:=by
 have h2:w.cell? (ad b x)=cur[x]? :=by simp[World.cell?,ad,hg]
 rw[h2] at hc
 exact(Array.getElem?_eq_some_iff.1 hc).1
theorem afm (r:R B E w0 N σ a w G) {t:TypeId} {i:TypeInfo} {x y:Operand} {mx my:MO} {sz n k az off:Nat} {ag:Bool} {vs cs:List ah} (ho:o.op=.store t x y) (hd:o.dst=none) (gY:bB x mx=true) (jQ:bB y my=true)
  (hi:P.info? t=some i) (bD:i.size=sz) (jb:0<sz) (hp:σ.ev mx=.one (.ptr n k az off)) (hv:(σ.ev my).cells?=some (ag,vs)) (hl:vs.length=sz) (hn:σ.h n=some (.box cs)) (hk:k=0) (gh:off+sz<=cs.length):
  o.wp P a w (Nx B E w0 N (σ.dn n (.box (cj cs off vs)))) Q:=by
 obtain⟨x1,_⟩:=r.ev gY
 obtain⟨y1,y2⟩:=r.ev jQ
 rw[hp] at x1
 subst hk
 obtain⟨p1,p2⟩:=(x1.fH (by simp)).1 (by rw[hn];simp)
 obtain⟨q1,⟨cur,et,q2⟩,q3⟩:=r.hr.box n cs hn
 have bL:=y1.cells hv
 have D5:(a.eval y).cells.toList.length=sz:=by rw[bL.1,hl]
 have DH:(G.g n).o+off+(a.eval y).cells.toList.length<=cur.size:=by
  obtain⟨v,v1,_⟩:=q3 (off+sz - 1) (cs[off+sz - 1]'(by omega)) (List.getElem?_eq_getElem _)
  have:=CY q2 v1
  omega
 have r':=r.aoY hn bL (fun c hc m hm=>y2 m (aj.xJ hv hc hm)) (by omega) q2 DH
 have bU:=JX (P:=P) (w:=w) (t:=t) (i:=i) (b:=(G.g n).b) (off:=(G.g n).o+off) (v:=a.eval y) (cur:=cur) (e:=et) hi (by rw[bD,<-D5];simp) q2 (by simpa using DH) (fun u hu=>by
  obtain⟨j,hj,DR⟩:=List.getElem_of_mem hu
  have uh:j<vs.length:=by omega
  have:=(bL.2 j _ u (List.getElem?_eq_getElem uh) (by rw[List.getElem?_eq_getElem hj,DR])).1
  exact this)
 refine KL (w':=eO w (G.g n).b ((G.g n).o+off) (a.eval y).cells.toList cur) ?_ ⟨G,?_⟩
 ·simp only[execOp,ho,p2,Nat.zero_mul,Nat.add_zero]
  simp[Instr.storeAt,Instr.sureAddr,bU]
 ·rw[hd];exact r'
theorem afo (r:R B E w0 N σ a w G) {t:TypeId} {i:TypeInfo} {x y:Operand} {mx my:MO} {sz n k off:Nat} {ag gr:Bool} {m:Mode} {rs:Nat} {xs:List (List C)} {el:List C} {vs:List ah} {σ2:St} (ho:o.op=.store t x y) (hd:o.dst=none) (gY:bB x mx=true) (jQ:bB y my=true)
  (hi:P.info? t=some i) (bD:i.size=sz) (jb:0<sz) (hp:σ.ev mx=.one (.ptr n k rs off)) (hv:(σ.ev my).cells?=some (ag,vs)) (hl:vs.length=sz) (hn:σ.h n=some (.row gr m rs xs)) (hk:xs[k]? =some el)
  (hx:mX σ n gr m rs xs k off el vs=some σ2):o.wp P a w (Nx B E w0 N σ2) Q:=by
 obtain⟨x1,_⟩:=r.ev gY
 obtain⟨y1,y2⟩:=r.ev jQ
 rw[hp] at x1
 obtain⟨p1,p2⟩:=(x1.fH (by simp)).1 (by rw[hn];simp)
 have hr:=r.hr.row n gr m rs xs hn
 obtain⟨⟨cur,et,q2⟩,l2,l3⟩:=hr.dR p1
 have bL:=y1.cells hv
 have D5:(a.eval y).cells.toList.length=sz:=by rw[bL.1,hl]
 have A9:off+vs.length<=el.length:=by
  unfold mX at hx
  split at hx
  ·cases hx
  ·rename_i fq hs;exact(Fi hs).1
 have sL:∃pe,(G.g n).px[k]? =some pe/\pe.map PC.er=el:=by
  have cW:=hk
  rw[hr.er,List.getElem?_map] at cW
  cases hq:(G.g n).px[k]? with
  |none=>rw[hq] at cW;cases cW
  |some pe=>rw[hq] at cW;simp at cW;exact⟨pe,rfl,cW⟩
 obtain⟨pe,v9,wa⟩:=sL
 have IW:pe.length=el.length:=by rw[<-wa];simp
 have DH:(G.g n).o+k*rs+off+(a.eval y).cells.toList.length<=cur.size:=by
  have hc:=l2.2.1 k (off+sz - 1) (pe[off+sz - 1]'(by omega)) ⟨pe,v9,List.getElem?_eq_getElem _⟩
  have:=CY q2 hc
  omega
 obtain⟨G',r'⟩:=r.mX hn p1 hk bL (fun c hc m hm=>y2 m (aj.xJ hv hc hm)) hx q2 DH
 have bU:=JX (P:=P) (w:=w) (t:=t) (i:=i) (b:=(G.g n).b) (off:=(G.g n).o+k*rs+off) (v:=a.eval y) (cur:=cur) (e:=et) hi (by rw[bD,<-D5];simp) q2 (by simpa using DH) (fun u hu=>by
  obtain⟨j,hj,DR⟩:=List.getElem_of_mem hu
  have uh:j<vs.length:=by omega
  exact(bL.2 j _ u (List.getElem?_eq_getElem uh) (by rw[List.getElem?_eq_getElem hj,DR])).1)
 refine KL (w':=eO w (G.g n).b ((G.g n).o+k*rs+off) (a.eval y).cells.toList cur) ?_ ⟨G',?_⟩
 ·simp only[execOp,ho,p2]
  simp[Instr.storeAt,Instr.sureAddr,bU]
 ·rw[hd];exact r'
def xK (places:List (Nat×Nat)):List (Nat×Operand)->List (Nat×Nat×MO)->Bool
 |[],[]=>true
 |(i,x)::ps,(off,sz,m)::ms=>(places[i]? ==some (off,sz))&&bB x m&&xK places ps ms
 |_,_=>false
theorem XP (r:R B E w0 N σ a w G) (places:List (Nat×Nat)):∀(ps:List (Nat×Operand)) (ms:List (Nat×Nat×MO)) (zs cs:List ah) (cur:Array Value),xK places ps ms=true->
  cN w G σ.h zs cur.toList->(∀c∈zs,∀m,c.ref m->σ.used m=true)->pH σ.ev zs ms=some cs->
  ∃jr,Instr.fill (places.toArray[·]?) cur (ps.map fun p=>(p.1,a.eval p.2))=some jr/\cN w G σ.h cs jr.toList/\∀c∈cs,∀m,c.ref m->σ.used m=true
 |[],[],zs,cs,cur,_,hz,hr,hx=>by
  simp only[pH] at hx
  injection hx with hx
  subst hx
  exact⟨cur,rfl,hz,hr⟩
 |(i,x)::ps,(off,sz,m)::ms,zs,cs,cur,hc,hz,hr,hx=>by
  simp only[xK,Bool.and_eq_true,beq_iff_eq] at hc
  obtain⟨⟨c1,c2⟩,c3⟩:=hc
  simp only[pH] at hx
  split at hx
  ·rename_i ag vs hv
   split at hx
   ·rename_i cI
    obtain⟨h1,h2⟩:=cI
    obtain⟨y1,y2⟩:=r.ev c2
    have bL:=y1.cells hv
    have rD:(a.eval x).cells.size=sz:=by rw[<-Array.length_toList,bL.1,h1]
    have hzl:cur.size=zs.length:=by rw[<-Array.length_toList,hz.1]
    have yx:cN w G σ.h (cj zs off vs) (cj cur.toList off (a.eval x).cells.toList):=by
     have OR:(a.eval x).cells.toList.length=vs.length:=bL.1
     refine⟨?_,fun j c u hj hu=>?_⟩
     ·rw[Kf (by rw[OR,hz.1];omega),Kf (by omega),hz.1]
     ·rw[w7 (by omega)] at hj
      rw[w7 (by rw[OR,hz.1];omega),OR] at hu
      by_cases fx:off<=j/\j<off+vs.length
      ·rw[if_pos fx] at hj hu;exact bL.2 _ c u hj hu
      ·rw[if_neg fx] at hj hu;exact hz.2 _ c u hj hu
    obtain⟨jr,e1,e2,e3⟩:=XP r places ps ms (cj zs off vs) cs (cj cur.toList off (a.eval x).cells.toList).toArray c3 yx (fun c hc q hq=>by
     simp only[cj,List.mem_append] at hc
     rcases hc with(hc|hc)|hc
     ·exact hr c (List.mem_of_mem_take hc) q hq
     ·exact y2 q (aj.xJ hv hc hq)
     ·exact hr c (List.mem_of_mem_drop hc) q hq) hx
    refine⟨jr,?_,e2,e3⟩
    simp only[List.getElem?_toArray] at e1
    simp only[List.map_cons,Instr.fill,List.getElem?_toArray,c1]
    rw[if_neg (by simp;omega),Ya _ _ _ (by omega)]
    exact e1
   ·cases hx
  ·cases hx
 |[],_::_,_,_,_,hc,_,_,_=>by simp[xK] at hc
 |(_,_)::_,[],_,_,_,hc,_,_,_=>by simp[xK] at hc
theorem aeY (r:R B E w0 N σ a w G) {t:TypeId} {parts:Array (Nat×Operand)} {ms:List (Nat×Nat×MO)} {zs cs:List ah} {it:TypeInfo} {z:Value} {nQ:Array Field} {places:List (Nat×Nat)} (ho:o.op=.build t parts) (hN:∀n,o.dst=some n->n<N)
  (vZ:P.info? t=some it) (hz:it.zero=some z) (hu:P.underlying t=some (.struct nQ)) (fK:nQ.toList.mapM (fun f=>(P.info? f.type).map fun i=>(f.offset,i.size))=some places)
  (Zs:sq z.cells.toList zs=true) (hc:xK places parts.toList ms=true) (hx:pH σ.ev zs ms=some cs):o.wp P a w (Nx B E w0 N (σ.put o.dst (.agg cs))) Q:=by
 obtain⟨z1,z2⟩:=HE (w:=w) (G:=G) (h:=σ.h) Zs
 obtain⟨jr,e1,e2,e3⟩:=XP r places parts.toList ms zs cs z.cells hc z1 (fun c hc m hm=>absurd hm (z2 c hc m)) hx
 refine gz r (v:=.agg jr) ?_ ⟨jr.toList,by simp,e2⟩ (fun m hm=>by obtain⟨c,hc,hm⟩:=hm;exact e3 c hc m hm) hN
 have hb:P.built t (parts.map fun p=>(p.1,a.eval p.2)).toList=some jr:=by
  unfold Program.built
  simp only[vZ,hu,hz,fK,Array.toList_map]
  exact e1
 have bU:=run_build (P:=P) w t _ jr hb
 simp only[execOp,ho]
 simp[bU]
theorem aff (r:R B E w0 N σ a w G) {f:FuncId} {xs:Array Operand} {ms:List MO} {cs:List ah} (ho:o.op=.makeFunc (.func f) #[] xs) (hN:∀n,o.dst=some n->n<N)
  (hc:ms.length=xs.size/\∀(j:Nat) (x:Operand) (m:MO),xs.toList[j]? =some x->ms[j]? =some m->bB x m=true)
  (hx:(ms.map σ.ev).mapM (fun v=>match v with|.one c=>if c.kJ=true then none else some c|_=>none)=some cs) (hj:∀c∈cs,c≠ .bm):o.wp P a w (Nx B E w0 N (σ.put o.dst (.one (.fn f cs)))) Q:=by
 have cf:∀(ms:List MO) (xs:List Operand) (cs:List ah),ms.length=xs.length->(∀(j:Nat) (x:Operand) (m:MO),xs[j]? =some x->ms[j]? =some m->bB x m=true)->
   (ms.map σ.ev).mapM (fun v=>match v with|.one c=>if c.kJ=true then none else some c|_=>none)=some cs->(∀c∈cs,c≠ .bm)->
   (xs.map a.eval).length=cs.length/\∀(j:Nat) (c:ah) (u:Value),cs[j]? =some c->(xs.map a.eval)[j]? =some u->(u.oneCell'=true/\jo w G σ.h c u)/\∀m,c.iD m->σ.used m=true:=by
  intro ms
  induction ms with
  |nil=>
   intro xs cs hl _ hx _
   have:xs=[]:=List.eq_nil_of_length_eq_zero (by simpa using hl.symm)
   subst this
   simp at hx
   subst hx
   simp
  |cons m ms ih=>
   intro xs cs hl dr hx hj
   match xs,hl with
   |x::xs,hl=>
    simp only[List.map_cons,List.mapM_cons,Option.bind_eq_bind,Option.pure_def] at hx
    cases hm:σ.ev m with
    |one c=>
     rw[hm] at hx
     by_cases hf:c.kJ=true
     ·simp[hf] at hx
     ·simp only[hf,if_false,Bool.false_eq_true,Option.bind_some] at hx
      cases hr:(ms.map σ.ev).mapM (fun v=>match v with|.one c=>if c.kJ=true then none else some c|_=>none) with
      |none=>rw[hr] at hx;simp at hx
      |some cs'=>
       rw[hr] at hx
       simp at hx
       subst hx
       obtain⟨i1,i2⟩:=ih xs cs' (by simpa using hl) (fun j x m h1 h2=>dr (j+1) x m h1 h2) hr (fun c hc=>hj c (by simp[hc]))
       refine⟨by simp[i1],fun j c' u ir hu=>?_⟩
       cases j with
       |zero=>
        simp at ir hu
        subst ir;subst hu
        obtain⟨e1,e2⟩:=r.ev (dr 0 x m rfl rfl)
        rw[hm] at e1 e2
        have DM:c.kJ=false:=by simpa using hf
        have h1:=(e1.fH (hj c (by simp)))
        rw[xD _ _ _ _ _ DM] at h1
        exact⟨⟨h1.2,h1.1⟩,fun q hq=>e2 q (by show c.ref q;rw[ah.abi c q DM];exact hq)⟩
       |succ j=>exact i2 j c' u (by simpa using ir) (by simpa using hu)
    |agg gS=>rw[hm] at hx;simp at hx
    |bn l=>rw[hm] at hx;simp at hx
 obtain⟨k1,k2⟩:=cf ms xs.toList cs (by simpa using hc.1) hc.2 hx hj
 have iH:∀m,(ah.fn f cs).ref m->σ.used m=true:=fun m hm=>by
  obtain⟨c,nd,hm⟩:=hm
  obtain⟨j,ir,uh⟩:=List.getElem_of_mem nd
  have mB:j<(xs.toList.map a.eval).length:=by omega
  exact(k2 j c _ (by rw[List.getElem?_eq_getElem ir,uh]) (List.getElem?_eq_getElem mB)).2 m hm
 refine gz r (v:=.func (.func f) #[] (xs.toList.map a.eval).toArray) ?_ (RA.ga rfl ⟨xs.toList.map a.eval,rfl,k1,fun j c u h1 h2=>(k2 j c u h1 h2).1⟩) iH hN
 simp only[execOp,ho,Instr.makeFunc]
 have:Array.map a.eval xs=(xs.toList.map a.eval).toArray:=by apply Array.ext';simp
 simp[this]
theorem Ac {α:Type} {xs:List (List α)} {l k j:Nat} {c:α} (h:At (xs.drop l) k j c):At xs (l+k) j c:=by
 obtain⟨e,he,hj⟩:=h
 rw[List.getElem?_drop] at he
 exact⟨e,he,hj⟩
theorem anA {b l:Nat} {px:List (List PC)} (h:aV b (px.drop l)):aV b px:=by
 obtain⟨k,j,c,h1,h2⟩:=h
 exact⟨_,_,_,Ac h1,h2⟩
theorem ij.drop {px:List (List PC)} (h:ij px) (l:Nat):ij (px.drop l):=
 ⟨fun k j c hk=>h.1 _ _ _ (Ac hk),fun k j c k' j' c' b hk cW aB=>h.2 _ _ _ _ _ _ b (Ac hk) (Ac cW) (fun e=>aB (by injection e with e1 e2;rw[show k=k' by omega,e2]))⟩
theorem afp (r:R B E w0 N σ a w G) {n n0:Nat} {t e:TypeId} {i:TypeInfo} {x y:Operand} {mx my:MO} {sz:Nat} {l:Int} {m:Mode} {xs:List (List C)} {σ1:St} (ho:o.op=.slice t x (some y) none none) (hd:o.dst=some n) (hN:n<N)
  (gY:bB x mx=true) (jQ:bB y my=true) (ht:P.underlying t=some (.slice e)) (hi:P.info? e=some i) (bD:i.size=sz) (jb:0<sz)
  (hx:σ.ev mx=.one (.sl n0 sz 0 xs.length)) (hl:(σ.ev my).df=some l) (h0:0<=l) (h1:l<=(xs.length:Int)) (hn:σ.h n0=some (.row true m sz xs)) (hi1:(σ.del n0).ins n (.row true m sz (xs.drop l.toNat))=some σ1):
  o.wp P a w (Nx B E w0 N (σ1.put o.dst (.one (.sl n sz 0 (xs.length - l.toNat))))) Q:=by
 obtain⟨DX,rfl⟩:=lL hi1
 obtain⟨x1,x2⟩:=r.ev gY
 rw[hx] at x1 x2
 obtain⟨kk,ey⟩:=(r.ev jQ).1.int hl
 have bM:σ.h n0≠none:=by rw[hn];simp
 have gj:jq (G.g n0) sz 0 xs.length (a.eval x):=(x1.fH (by simp)).1 bM
 have H:=r.hr
 have hr:=H.row n0 true m sz xs hn
 have qh:xs.length=(G.g n0).px.length:=by rw[hr.er];simp
 have F:=lc.Ra H hn
 have hln:l.toNat<=xs.length:=by omega
 obtain⟨p,v,fL,bU,yt,fK,Zf⟩:∃(p:PB) (v:Value),p.px=(G.g n0).px.drop l.toNat/\(execOp a.eval o).run P w=.ok (.value v) w/\(p.nl=true->p.px=[]/\p.cap=0)/\
   (p.nl=false->(G.g n0).nl=false/\p.b=(G.g n0).b/\p.o=(G.g n0).o+l.toNat*sz/\p.cap=(G.g n0).cap - l.toNat/\l.toNat<=(G.g n0).cap)/\jq p sz 0 (xs.length - l.toNat) v:=by
  rcases gj with⟨aL,hv,_,kF⟩|⟨aL,a',hv,ju,ha⟩
  ·have bU:=EQ (P:=P) (w:=w) (ya:=(G.g n0).na) (len:=0) (cap:=(G.g n0).cap) (lo:=some (.int kk l)) (hi':=none) (l:=l) (hh:=0) ht hi bD (.inr ⟨kk,rfl⟩) (.inl ⟨rfl,rfl⟩) h0 (by omega) (by omega) (Nat.zero_le _)
   obtain⟨y6,vE⟩:=hr.nl aL
   have vE:=vE rfl
   have hlz:l.toNat=0:=by omega
   refine⟨⟨true,0,0,0,[],(G.g n0).na⟩,.slice (G.g n0).na 0 0,by rw[y6];simp,?_,fun _=>⟨rfl,rfl⟩,(fun h=>by cases h),.inl ⟨rfl,rfl,rfl,by omega⟩⟩
   simp only[execOp,ho,hv,Option.map_none,Option.map_some,ey]
   rw[vE,hlz] at bU
   simp only[if_true] at bU
   simp[bU,vE]
   omega
  ·have bU:=EQ (P:=P) (w:=w) (ya:=a') (len:=xs.length) (cap:=(G.g n0).cap - 0) (lo:=some (.int kk l)) (hi':=none) (l:=l) (hh:=xs.length) ht hi bD (.inr ⟨kk,rfl⟩) (.inl ⟨rfl,rfl⟩) h0 h1 (by omega) (by omega)
   have oO:=ha (.inr rfl)
   have e2:((xs.length:Int) - l).toNat=xs.length - l.toNat:=by omega
   rw[e2,Nat.sub_zero] at bU
   by_cases hc:(G.g n0).cap=l.toNat
   ·have e3:xs.length - l.toNat=0:=by omega
    rw[if_pos hc,e3] at bU
    refine⟨⟨true,0,0,0,[],a'⟩,.slice a' 0 0,?_,?_,fun _=>⟨rfl,rfl⟩,(fun h=>by cases h),.inl ⟨rfl,rfl,rfl,e3⟩⟩
    ·rw[List.drop_eq_nil_of_le (by omega)]
    ·simp only[execOp,ho,hv,Option.map_none,Option.map_some,ey,Nat.sub_zero]
     rw[hc,Nat.sub_self] at bU
     simp[bU,hc]
   ·rw[if_neg hc,oO] at bU
    simp only[Option.map_some,nJ,Nat.zero_mul,Nat.add_zero] at bU
    refine⟨⟨false,(G.g n0).b,(G.g n0).o+l.toNat*sz,(G.g n0).cap - l.toNat,(G.g n0).px.drop l.toNat,none⟩,.slice (some (ad (G.g n0).b ((G.g n0).o+l.toNat*sz))) (xs.length - l.toNat) ((G.g n0).cap - l.toNat),rfl,?_,(fun h=>by cases h),fun _=>⟨aL,rfl,rfl,rfl,by omega⟩,.inr ⟨rfl,some (ad (G.g n0).b ((G.g n0).o+l.toNat*sz)),by simp,by simp;omega,fun _=>by simp⟩⟩
    simp only[execOp,ho,hv,Option.map_none,Option.map_some,ey,Nat.sub_zero,oO,Nat.zero_mul,Nat.add_zero]
    simp[bU]
 have eR:∀b,aV b p.px->aV b (G.g n0).px:=fun b hb=>anA (by rw[<-fL];exact hb)
 have H1:HR B E w G (au σ.h n0 none) σ.used []:=H.del n0
 have K1:bc w G σ.h (fun q=>σ.used q=true) w G (au σ.h n0 none):=bc.del n0 _
 have Hn:HR B E w ⟨G.Im,au G.g n p⟩ (au (au σ.h n0 none) n (some (.row true m sz (xs.drop l.toNat)))) (au σ.used n true) []:=by
  refine H1.insert (w':=w) (p:=p) DX (fun _ _=>rfl) (Nat.le_refl _) (fun hf=>?_) (fun cs c q hb=>by cases hb) ?_ ?_ ?_ (fun gr m sz xs _ _ i pc b hi=>by simp at hi)
  ·obtain⟨q1,q2,q3,q4,q5⟩:=fK hf
   obtain⟨o1,o2,o3⟩:=H.own n0 bM q1
   rw[q2]
   refine⟨⟨o1,fun q hq Ox=>?_,fun q gr m' aJ aq hq hb=>?_⟩,o2,o3⟩
   ·obtain⟨d1,d2⟩:=Ax hq
    exact H.inj q n0 d1 bM d2 Ox q1
   ·exact H.sC bM q1 (pT hq).1 hb rfl
  ·refine⟨hr.pos,by rw[fL,hr.er,List.map_drop],fun h=>⟨(yt h).1,fun _=>(yt h).2⟩,fun hf=>?_,fun hf _=>?_,?_⟩
   ·obtain⟨q1,q2,q3,q4,q5⟩:=fK hf
    obtain⟨l1,⟨l2,l3,l4⟩,l5⟩:=hr.dR q1
    rw[q2,q3,q4,fL]
    refine⟨l1,⟨fun e he=>l2 e (List.mem_of_mem_drop he),fun k j c hk=>?_,fun k j c hk=>l4 _ _ _ (Ac hk)⟩,by simp;omega⟩
    have:=l3 _ _ _ (Ac hk)
    rw[<-this]
    congr 2
    rw[Nat.add_mul]
    omega
   ·obtain⟨q1,q2,q3,q4,q5⟩:=fK hf
    obtain⟨r2,cur,ee,r3,r4⟩:=hr.room q1 rfl
    unfold Ga
    rw[q2,q3,q4]
    refine⟨by omega,cur,ee,r3,?_⟩
    rw[r4,Nat.add_assoc,<-Nat.add_mul]
    congr 2
    omega
   ·have hm:=hr.mode
    show CJ B E w _ p.px m
    cases m with
    |aD=>exact fun b hb=>hm b (eR b hb)
    |ae=>exact⟨fun b hb=>hm.1 b (eR b hb),by rw[fL];exact hm.2.drop _⟩
    |live=>exact⟨fun b hb=>hm.1 b (eR b hb),by rw[fL];exact hm.2.drop _⟩
  ·intro gr m' aJ aq hb gZ q bk mo jZ ii h0 iZ b cF
   injection hb with _ hb _ _
   subst hb
   exact F.fJ gZ q bk mo jZ ii h0 iZ b (eR b cF)
  ·intro gr aJ aq hb b cF
   injection hb with _ hb _ _
   exact⟨fun hf=>by rw[(fK hf).2.1];exact H.sC bM (fK hf).1 hn (eR b cF),fun q h0 Ox=>F.live hb b (eR b cF) q h0 Ox⟩
 have r':R B E w0 N {(σ.del n0) with h:=au (σ.del n0).h n (some (.row true m sz (xs.drop l.toNat))),used:=au (σ.del n0).used n true} a w ⟨G.Im,au G.g n p⟩:=
  r.step rfl (fun q hq=>qR n q hq) (bc.trans (u2:=fun q=>σ.used q=true) (fun _ h=>h) K1 (bc.insert H1 DX (fun _ _=>rfl))) Hn r.fr
 have DY:v.oneCell'=true:=by rcases Zf with⟨_,h,_⟩|⟨_,_,h,_⟩<;>rw[h]<;>rfl
 have dM:RC w ⟨G.Im,au G.g n p⟩ (au (au σ.h n0 none) n (some (.row true m sz (xs.drop l.toNat)))) (.sl n sz 0 (xs.length - l.toNat)) v:=fun _=>by simpa[bF] using Zf
 refine nE (v:=v) (w':=w) bU ⟨_,r'.put (RA.ga DY dM) (fun q hq=>by have eA:q=n:=hq;subst eA;exact bF _ _ _) (fun q hq=>by rw[hd] at hq;injection hq with hq;omega)⟩
end
end Go.Am
