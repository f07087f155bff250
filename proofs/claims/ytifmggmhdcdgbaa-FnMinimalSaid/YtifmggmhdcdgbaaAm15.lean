/- Am15: indexes, lengths, slices, stores, struct literals as operations. No condition. -/
import Derived.Test.YtifmggmhdcdgbaaAm14
set_option linter.unusedVariables false
namespace Go.Am
section
variable {B:Nat} {E:Ex} {w0 w w':World} {G G':Gh} {h h':Nat->Option aq} {used used':Nat->Bool} {tk:List PC} {N:Nat}
variable {P:Program} {o:Oper} {a:Act} {σ σ':St} {Q:Exit->Act->World->Prop}
theorem Hz {n:Nat} (hs:(h n).isSome=true):h n≠none:=by intro hh;rw[hh] at hs;cases hs
theorem Qw {t e:TypeId} {i:TypeInfo} {sz b off len cap:Nat} {kk:IntKind} {q:Int} (ht:P.underlying t=some (.slice e)) (hi:P.info? e=some i) (bE:i.size=sz) (h0:0<=q) (h1:q<len):
  (Instr.indexAt t (.slice (some (ad b off)) len cap) (.int kk q)).run P w=.ok (.pointer (some (ad b (off+q.toNat*sz)))) w:=by
 simp[Instr.indexAt,run_underlying ht,asIntOf,h0,h1,sizeOf,typeInfo,hi,bE,m9]
theorem Um (r:R B E w0 N σ a w G) {t e:TypeId} {i:TypeInfo} {x y:Operand} {mx my:MO} {sz:Nat} {q:Int} {z:ak} (ho:o.op=.indexAddr t x y) (hN:∀n,o.dst=some n->n<N) (iQ:bw x mx=true) (jm:bw y my=true)
  (ht:P.underlying t=some (.slice e)) (hi:P.info? e=some i) (bE:i.size=sz) (hq:(σ.ev my).cX=some q) (h0:0<=q)
  (hz:(∃n lo len,σ.ev mx=.one (.sl n sz lo len)/\q<(len:Int)/\(σ.h n).isSome=true/\z=.one (.ptr n (lo+q.toNat) sz 0))\/(∃xs el,σ.ev mx=.one (.c (.list sz xs))/\xs[q.toNat]? =some el/\z=.one (.cd el 0))):
  o.wp P a w (Nx B E w0 N (σ.put o.dst z)) Q:=by
 obtain⟨x1,x2⟩:=r.ev iQ
 obtain⟨kk,ey⟩:=(r.ev jm).1.int hq
 rcases hz with⟨n,lo,len,e1,h1,hs,rfl⟩|⟨xs,el,e1,h1,rfl⟩
 ·rw[e1] at x1 x2
  have gv:jg (G.g n) sz lo len (a.eval x):=(x1.fb (by simp)).1 (Hz hs)
  rcases gv with⟨_,_,_,hl⟩|⟨aK,a',hv,jL,ha⟩
  ·omega
  ·have rO:=ha (.inl (by omega))
   subst rO
   refine fV r (v:=.pointer (some (ad (G.g n).b ((G.g n).o+lo*sz+q.toNat*sz)))) ?_ ?_ (fun m hm=>x2 m hm) hN
   ·simp only[execOp,ho,hv,ey]
    simp[Qw ht hi bE h0 h1]
   ·exact RA.fR rfl fun _=>⟨aK,by rw[Nat.add_mul];congr 3;omega⟩
 ·rw[e1] at x1
  obtain⟨pc,p1,p2,p3,p4⟩:=x1.c
  cases pc with
  |int k n=>simp[PC.er] at p1
  |bool b=>simp[PC.er] at p1
  |list s' ya c py=>
   rw[PC.dr] at p1
   injection p1 with p0 p1
   subst p0
   have tA:∃pe,py[q.toNat]? =some pe/\pe.map PC.er=el:=by
    rw[<-p1,List.getElem?_map] at h1
    cases hp:py[q.toNat]? with
    |none=>rw[hp] at h1;cases h1
    |some pe=>rw[hp] at h1;simp at h1;exact⟨pe,rfl,h1⟩
   obtain⟨pe,mJ,tz⟩:=tA
   have bL:q.toNat<py.length:=(List.getElem?_eq_some_iff.1 mJ).1
   cases p3 with
   |nil _ _ _ _=>simp at bL
   |cons _ b oo _ _ g1 g2 g3 g4 g5 g6=>
    have dM:q<(py.length:Int):=by omega
    refine fV r (v:=.pointer (some (ad b (oo+q.toNat*s')))) ?_ ?_ (fun m hm=>absurd hm (by simp[ak.ref,ai.ref,ai.g7])) hN
    ·simp only[execOp,ho,<-p2,PC.val,ey]
     simp[Qw ht hi bE h0 dM]
    ·refine RA.fR rfl ⟨b,oo+q.toNat*s',pe,by simp,tz,p4 b (.here _ _ _ _ g1),fun j c hj=>?_⟩
     exact⟨g5 _ _ _ ⟨pe,mJ,hj⟩,g6 _ _ _ ⟨pe,mJ,hj⟩,fun b' aR=>p4 b' (.there _ _ _ _ _ _ c ⟨pe,mJ,hj⟩ aR)⟩
theorem Gt (r:R B E w0 N σ a w G) {t e:TypeId} {x:Operand} {mx:MO} {len:Nat} (ho:o.op=.call {callee:=.builtin .len,args:=#[x],argTypes:=#[t]}) (hN:∀n,o.dst=some n->n<N) (hm:bw x mx=true)
  (ht:P.underlying t=some (.slice e))
  (hz:(∃n sz lo,σ.ev mx=.one (.sl n sz lo len)/\(σ.h n).isSome=true)\/(∃sz xs,σ.ev mx=.one (.c (.list sz xs))/\len=xs.length)\/(∃sz,σ.ev mx=.one (.nil sz)/\len=0)\/
   (∃n k ax off sz l s ys,σ.ev mx=.one (.bx n k ax off sz l)/\bU σ.h (.bx n k ax off sz l)=some (.list s ys)/\len=ys.length)):
  o.wp P a w (Nx B E w0 N (σ.put o.dst (.one (.c (.int .i64 len))))) Q:=by
 obtain⟨x1,x2⟩:=r.ev hm
 have hv:∃a' c,a.eval x=.slice a' len c:=by
  rcases hz with⟨n,sz,lo,e1,hs⟩|⟨sz,xs,e1,rfl⟩|⟨sz,e1,rfl⟩|⟨n,k,ax,off,sz,l,s,ys,e1,Ms,rfl⟩
  ·rw[e1] at x1
   have gv:jg (G.g n) sz lo len (a.eval x):=(x1.fb (by simp)).1 (Hz hs)
   rcases gv with⟨_,hv,_,rfl⟩|⟨_,a',hv,_,_⟩
   ·exact⟨_,_,hv⟩
   ·exact⟨_,_,hv⟩
  ·rw[e1] at x1
   obtain⟨pc,p1,p2,_⟩:=x1.c
   cases pc with
   |int k n=>simp[PC.er] at p1
   |bool b=>simp[PC.er] at p1
   |list s' ya c py=>
    rw[PC.dr] at p1
    injection p1 with _ p1
    refine⟨ya,c,?_⟩
    rw[<-p2,<-p1];simp[PC.val]
  ·rw[e1] at x1
   have fw:a.eval x=.slice none 0 0:=(x1.fb (by simp)).1
   exact⟨_,_,fw⟩
  ·rw[e1] at x1
   obtain⟨pc,p1,p2,_⟩:=r.hr.bU Ms (x1.fb (by simp)).1
   cases pc with
   |int k n=>simp[PC.er] at p1
   |bool b=>simp[PC.er] at p1
   |list s' ya c py=>
    rw[PC.dr] at p1
    injection p1 with _ p1
    refine⟨ya,c,?_⟩
    rw[<-p2,<-p1];simp[PC.val]
 obtain⟨a',c,hv⟩:=hv
 refine fV r (v:=.int .i64 len) ?_ (RA.of_int _ _) (fun q hq=>absurd hq pJ) hN
 simp[execOp,ho,resolve,invoke,builtin,hv,Builtin.len_,run_underlying ht,goInt]
theorem DQ {t e:TypeId} {i:TypeInfo} {sz:Nat} {ya:Option Addr} {len cap:Nat} {lo hi':Option Value} {l hh:Int} (ht:P.underlying t=some (.slice e)) (hi:P.info? e=some i) (bE:i.size=sz)
  (vb:(lo=none/\l=0)\/∃k,lo=some (.int k l)) (tr:(hi'=none/\hh=len)\/∃k,hi'=some (.int k hh)) (h0:0<=l) (h1:l<=hh) (h2:hh<=len) (h3:len<=cap):
  (Instr.sliceAt t (.slice ya len cap) lo hi' none).run P w=.ok (.slice (if cap=l.toNat then ya else ya.map (·.add (l.toNat*sz))) (hh - l).toNat (cap - l.toNat)) w:=by
 have e1:(hh.toNat:Int)=hh:=Int.toNat_of_nonneg (by omega)
 have e2:(hh - l).toNat=hh.toNat - l.toNat:=by omega
 have h4:hh<=(cap:Int):=by omega
 have h5:0<=hh:=by omega
 rcases vb with⟨rfl,rfl⟩|⟨k,rfl⟩<;>rcases tr with⟨rfl,rfl⟩|⟨k',rfl⟩<;>
  simp[Instr.sliceAt,Instr.slice,run_underlying ht,Instr.sliceBounds,Instr.sliceBound,asIntOf,sizeOf,typeInfo,hi,bE,h0,h1,h4,h5,e1,e2]<;>omega
theorem Ur (r:R B E w0 N σ a w G) {t e:TypeId} {i:TypeInfo} {x:Operand} {lo hi':Option Operand} {mx:MO} {sz:Nat} {l hh:Int} {z:ak} (ho:o.op=.slice t x lo hi' none) (hN:∀n,o.dst=some n->n<N) (iQ:bw x mx=true)
  (ht:P.underlying t=some (.slice e)) (hi:P.info? e=some i) (bE:i.size=sz) (iE:0<sz) {len:Nat}
  (vb:(lo=none/\l=0)\/∃y my,lo=some y/\bw y my=true/\(σ.ev my).cX=some l) (tr:(hi'=none/\hh=len)\/∃y my,hi'=some y/\bw y my=true/\(σ.ev my).cX=some hh)
  (h0:0<=l) (h1:l<=hh) (h2:hh<=len)
  (hz:(∃n l0,σ.ev mx=.one (.sl n sz l0 len)/\(σ.h n).isSome=true/\z=.one (.sl n sz (l0+l.toNat) (hh - l).toNat))\/(∃xs,σ.ev mx=.one (.c (.list sz xs))/\len=xs.length/\z=.one (.c (.list sz ((xs.drop l.toNat).take (hh - l).toNat))))):
  o.wp P a w (Nx B E w0 N (σ.put o.dst z)) Q:=by
 obtain⟨x1,x2⟩:=r.ev iQ
 have L7:(lo.map a.eval=none/\l=0)\/∃k,lo.map a.eval=some (.int k l):=by
  rcases vb with⟨rfl,h⟩|⟨y,my,rfl,c1,c2⟩
  ·exact .inl ⟨rfl,h⟩
  ·obtain⟨k,hk⟩:=(r.ev c1).1.int c2
   exact .inr ⟨k,by simp[hk]⟩
 have LP:(hi'.map a.eval=none/\hh=len)\/∃k,hi'.map a.eval=some (.int k hh):=by
  rcases tr with⟨rfl,h⟩|⟨y,my,rfl,c1,c2⟩
  ·exact .inl ⟨rfl,h⟩
  ·obtain⟨k,hk⟩:=(r.ev c1).1.int c2
   exact .inr ⟨k,by simp[hk]⟩
 rcases hz with⟨n,l0,e1,hs,rfl⟩|⟨xs,e1,rfl,rfl⟩
 ·rw[e1] at x1 x2
  have gv:jg (G.g n) sz l0 len (a.eval x):=(x1.fb (by simp)).1 (Hz hs)
  rcases gv with⟨aK,hv,rfl,rfl⟩|⟨aK,a',hv,jL,ha⟩
  ·have hr:=DQ (P:=P) (w:=w) (ya:=(G.g n).na) (len:=0) (cap:=(G.g n).cap) ht hi bE L7 LP h0 h1 h2 (Nat.zero_le _)
   have kq:l.toNat=0:=by omega
   have hh0:(hh - l).toNat=0:=by omega
   refine fV r (v:=.slice (G.g n).na 0 (G.g n).cap) ?_ (RA.fR rfl fun _=>.inl ⟨aK,rfl,by omega,by omega⟩) (fun m hm=>x2 m hm) hN
   simp only[execOp,ho,hv,Option.map_none]
   simp only[kq,hh0,Nat.zero_mul] at hr
   have ha:(G.g n).na.map (fun x=>x.add 0)=(G.g n).na:=by
    cases (G.g n).na with
    |none=>rfl
    |some x=>simp[Addr.add]
   rw[ha] at hr
   simp[hr]
  ·have hr:=DQ (P:=P) (w:=w) (ya:=a') (len:=len) (cap:=(G.g n).cap - l0) ht hi bE L7 LP h0 h1 h2 (by omega)
   refine fV r (by simp only[execOp,ho,hv,Option.map_none];simp[hr];rfl) (RA.fR rfl fun _=>.inr ⟨aK,_,by rw[Nat.sub_sub],by omega,fun hc=>?_⟩) (fun m hm=>x2 m hm) hN
   split
   ·rename_i bP
    have:l0=0/\l.toNat=0:=by omega
    rw[ha (.inr this.1),this.1,this.2]
   ·rename_i bP
    have bL:l0<(G.g n).cap:=by omega
    rw[ha (.inl bL)]
    simp only[Option.map_some,m9]
    rw[Nat.add_mul,Nat.add_assoc]
 ·rw[e1] at x1
  obtain⟨pc,p1,p2,p3,p4⟩:=x1.c
  cases pc with
  |int k n=>simp[PC.er] at p1
  |bool b=>simp[PC.er] at p1
  |list s' ya c py=>
   rw[PC.dr] at p1
   injection p1 with p0 p1
   subst p0
   have hlen:xs.length=py.length:=by rw[<-p1];simp
   have hv:a.eval x=.slice ya xs.length c:=by rw[<-p2,hlen];rfl
   have jL:xs.length<=c\/py=[]:=by
    cases p3 with
    |nil _ _ _ _=>exact .inr rfl
    |cons _ b oo _ _ g1 g2 g3 g4 g5 g6=>exact .inl (by rw[hlen];exact g2)
   have uZ:xs.length<=c:=by
    rcases jL with hc|hc
    ·exact hc
    ·rw[hlen,hc];exact Nat.zero_le _
   have hr:=DQ (P:=P) (w:=w) (ya:=ya) (len:=xs.length) (cap:=c) ht hi bE L7 LP h0 h1 h2 uZ
   have adl:((py.drop l.toNat).take (hh - l).toNat).length=(hh - l).toNat:=by simp;omega
   let c8:PC:=.list s' (if c=l.toNat then ya else ya.map (·.add (l.toNat*s'))) (c - l.toNat) ((py.drop l.toNat).take (hh - l).toNat)
   have gp:Good w c8/\∀b,aM b c8->G.Im b:=by
    by_cases zI:(py.drop l.toNat).take (hh - l).toNat=[]
    ·constructor
     ·show Good w (.list _ _ _ _)
      rw[zI];exact .nil _ _ _ iE
     ·intro b hb
      rw[aM.jZ,zI] at hb
      rcases hb with⟨hb,_⟩|⟨k,j,c,⟨e,he,_⟩,_⟩
      ·exact absurd rfl hb
      ·simp at he
    ·cases p3 with
     |nil _ _ _ _=>simp at zI
     |cons _ b oo _ _ g1 g2 g3 g4 g5 g6=>
      have eu:0<(hh - l).toNat:=by
       rcases Nat.eq_zero_or_pos (hh - l).toNat with hz|hz
       ·rw[hz] at zI;simp at zI
       ·exact hz
      have aw:c≠l.toNat:=by omega
      have aV:c8=.list s' (some (ad b (oo+l.toNat*s'))) (c - l.toNat) ((py.drop l.toNat).take (hh - l).toNat):=by
       show PC.list _ _ _ _=_
       rw[if_neg aw];simp[m9]
      rw[aV]
      constructor
      ·refine .cons _ _ _ _ _ zI (by omega) g3 (fun e he=>g4 e (List.mem_of_mem_drop (List.mem_of_mem_take he))) (fun k j c' hk=>?_) (fun k j c' hk=>g6 _ _ _ (nU hk).1)
       have:=g5 _ _ _ (nU hk).1
       rw[Nat.add_mul] at this
       rw[<-this]
       congr 2
       omega
      ·intro x hx
       rw[aM.jZ] at hx
       rcases hx with⟨_,o',fY⟩|⟨k,j,c',hk,hx⟩
       ·injection fY with fY
        rw[<-(nb fY).1]
        exact p4 b (.here _ _ _ _ g1)
       ·exact p4 x (.there _ _ _ _ _ _ c' (nU hk).1 hx)
   refine fV r (v:=c8.val) ?_ (RA.fR (PC.j8 _) ⟨c8,?_,rfl,gp.1,gp.2⟩) (fun q hq=>absurd hq pJ) hN
   ·simp only[execOp,ho,hv,Option.map_none]
    simp[hr,c8,PC.val,adl]
   ·show PC.er (.list _ _ _ _)=_
    rw[PC.dr,List.map_take,List.map_drop,p1]
theorem B1 {b x:Nat} {v:Value} {cur:Array Value} {e:TypeId} (hg:w.heap[b]? =some (.cells cur e (0,0))) (hc:w.cell? (ad b x)=some v):x<cur.size:=by
 have h2:w.cell? (ad b x)=cur[x]? :=by simp[World.cell?,ad,hg]
 rw[h2] at hc
 exact(Array.getElem?_eq_some_iff.1 hc).1
theorem abM (r:R B E w0 N σ a w G) {t:TypeId} {i:TypeInfo} {x y:Operand} {mx my:MO} {sz n k ax off:Nat} {ag:Bool} {vs cs:List ai} (ho:o.op=.store t x y) (hd:o.dst=none) (iQ:bw x mx=true) (jm:bw y my=true)
  (hi:P.info? t=some i) (bE:i.size=sz) (iE:0<sz) (hp:σ.ev mx=.one (.ptr n k ax off)) (hv:(σ.ev my).cells?=some (ag,vs)) (hl:vs.length=sz) (hn:σ.h n=some (.box cs)) (hk:k=0) (gD:off+sz<=cs.length):
  o.wp P a w (Nx B E w0 N (σ.dd n (.box (bW cs off vs)))) Q:=by
 obtain⟨x1,_⟩:=r.ev iQ
 obtain⟨y1,y2⟩:=r.ev jm
 rw[hp] at x1
 subst hk
 obtain⟨p1,p2⟩:=(x1.fb (by simp)).1 (by rw[hn];simp)
 obtain⟨q1,⟨cur,et,q2⟩,q3⟩:=r.hr.box n cs hn
 have bP:=y1.cells hv
 have C0:(a.eval y).cells.toList.length=sz:=by rw[bP.1,hl]
 have CG:(G.g n).o+off+(a.eval y).cells.toList.length<=cur.size:=by
  obtain⟨v,v1,_⟩:=q3 (off+sz - 1) (cs[off+sz - 1]'(by omega)) (List.getElem?_eq_getElem _)
  have:=B1 q2 v1
  omega
 have r':=r.aky hn bP (fun c hc m hm=>y2 m (ak.zk hv hc hm)) (by omega) q2 CG
 have bK:=Iw (P:=P) (w:=w) (t:=t) (i:=i) (b:=(G.g n).b) (off:=(G.g n).o+off) (v:=a.eval y) (cur:=cur) (e:=et) hi (by rw[bE,<-C0];simp) q2 (by simpa using CG) (fun u hu=>by
  obtain⟨j,hj,CO⟩:=List.getElem_of_mem hu
  have tt:j<vs.length:=by omega
  have:=(bP.2 j _ u (List.getElem?_eq_getElem tt) (by rw[List.getElem?_eq_getElem hj,CO])).1
  exact this)
 refine Jk (w':=dU w (G.g n).b ((G.g n).o+off) (a.eval y).cells.toList cur) ?_ ⟨G,?_⟩
 ·simp only[execOp,ho,p2,Nat.zero_mul,Nat.add_zero]
  simp[Instr.storeAt,Instr.sureAddr,bK]
 ·rw[hd];exact r'
theorem abO (r:R B E w0 N σ a w G) {t:TypeId} {i:TypeInfo} {x y:Operand} {mx my:MO} {sz n k off:Nat} {ag gr:Bool} {m:Mode} {rs:Nat} {xs:List (List C)} {el:List C} {vs:List ai} {σ2:St} (ho:o.op=.store t x y) (hd:o.dst=none) (iQ:bw x mx=true) (jm:bw y my=true)
  (hi:P.info? t=some i) (bE:i.size=sz) (iE:0<sz) (hp:σ.ev mx=.one (.ptr n k rs off)) (hv:(σ.ev my).cells?=some (ag,vs)) (hl:vs.length=sz) (hn:σ.h n=some (.row gr m rs xs)) (hk:xs[k]? =some el)
  (hx:mn σ n gr m rs xs k off el vs=some σ2):o.wp P a w (Nx B E w0 N σ2) Q:=by
 obtain⟨x1,_⟩:=r.ev iQ
 obtain⟨y1,y2⟩:=r.ev jm
 rw[hp] at x1
 obtain⟨p1,p2⟩:=(x1.fb (by simp)).1 (by rw[hn];simp)
 have hr:=r.hr.row n gr m rs xs hn
 obtain⟨⟨cur,et,q2⟩,l2,l3⟩:=hr.dB p1
 have bP:=y1.cells hv
 have C0:(a.eval y).cells.toList.length=sz:=by rw[bP.1,hl]
 have G4:off+vs.length<=el.length:=by
  unfold mn at hx
  split at hx
  ·cases hx
  ·rename_i eR hs;exact(Eg hs).1
 have tA:∃pe,(G.g n).px[k]? =some pe/\pe.map PC.er=el:=by
  have cW:=hk
  rw[hr.er,List.getElem?_map] at cW
  cases hq:(G.g n).px[k]? with
  |none=>rw[hq] at cW;cases cW
  |some pe=>rw[hq] at cW;simp at cW;exact⟨pe,rfl,cW⟩
 obtain⟨pe,vd,ve⟩:=tA
 have G5:pe.length=el.length:=by rw[<-ve];simp
 have CG:(G.g n).o+k*rs+off+(a.eval y).cells.toList.length<=cur.size:=by
  have hc:=l2.2.1 k (off+sz - 1) (pe[off+sz - 1]'(by omega)) ⟨pe,vd,List.getElem?_eq_getElem _⟩
  have:=B1 q2 hc
  omega
 obtain⟨G',r'⟩:=r.mn hn p1 hk bP (fun c hc m hm=>y2 m (ak.zk hv hc hm)) hx q2 CG
 have bK:=Iw (P:=P) (w:=w) (t:=t) (i:=i) (b:=(G.g n).b) (off:=(G.g n).o+k*rs+off) (v:=a.eval y) (cur:=cur) (e:=et) hi (by rw[bE,<-C0];simp) q2 (by simpa using CG) (fun u hu=>by
  obtain⟨j,hj,CO⟩:=List.getElem_of_mem hu
  have tt:j<vs.length:=by omega
  exact(bP.2 j _ u (List.getElem?_eq_getElem tt) (by rw[List.getElem?_eq_getElem hj,CO])).1)
 refine Jk (w':=dU w (G.g n).b ((G.g n).o+k*rs+off) (a.eval y).cells.toList cur) ?_ ⟨G',?_⟩
 ·simp only[execOp,ho,p2]
  simp[Instr.storeAt,Instr.sureAddr,bK]
 ·rw[hd];exact r'
def wW (places:List (Nat×Nat)):List (Nat×Operand)->List (Nat×Nat×MO)->Bool
 |[],[]=>true
 |(i,x)::ps,(off,sz,m)::ms=>(places[i]? ==some (off,sz))&&bw x m&&wW places ps ms
 |_,_=>false
theorem UC (r:R B E w0 N σ a w G) (places:List (Nat×Nat)):∀(ps:List (Nat×Operand)) (ms:List (Nat×Nat×MO)) (zs cs:List ai) (cur:Array Value),wW places ps ms=true->
  cA w G σ.h zs cur.toList->(∀c∈zs,∀m,c.ref m->σ.used m=true)->oL σ.ev zs ms=some cs->
  ∃iO,Instr.fill (places.toArray[·]?) cur (ps.map fun p=>(p.1,a.eval p.2))=some iO/\cA w G σ.h cs iO.toList/\∀c∈cs,∀m,c.ref m->σ.used m=true
 |[],[],zs,cs,cur,_,hz,hr,hx=>by
  simp only[oL] at hx
  injection hx with hx
  subst hx
  exact⟨cur,rfl,hz,hr⟩
 |(i,x)::ps,(off,sz,m)::ms,zs,cs,cur,hc,hz,hr,hx=>by
  simp only[wW,Bool.and_eq_true,beq_iff_eq] at hc
  obtain⟨⟨c1,c2⟩,c3⟩:=hc
  simp only[oL] at hx
  split at hx
  ·rename_i ag vs hv
   split at hx
   ·rename_i cz
    obtain⟨h1,h2⟩:=cz
    obtain⟨y1,y2⟩:=r.ev c2
    have bP:=y1.cells hv
    have qK:(a.eval x).cells.size=sz:=by rw[<-Array.length_toList,bP.1,h1]
    have hzl:cur.size=zs.length:=by rw[<-Array.length_toList,hz.1]
    have tG:cA w G σ.h (bW zs off vs) (bW cur.toList off (a.eval x).cells.toList):=by
     have Mp:(a.eval x).cells.toList.length=vs.length:=bP.1
     refine⟨?_,fun j c u hj hu=>?_⟩
     ·rw[IK (by rw[Mp,hz.1];omega),IK (by omega),hz.1]
     ·rw[wb (by omega)] at hj
      rw[wb (by rw[Mp,hz.1];omega),Mp] at hu
      by_cases eo:off<=j/\j<off+vs.length
      ·rw[if_pos eo] at hj hu;exact bP.2 _ c u hj hu
      ·rw[if_neg eo] at hj hu;exact hz.2 _ c u hj hu
    obtain⟨iO,e1,e2,e3⟩:=UC r places ps ms (bW zs off vs) cs (bW cur.toList off (a.eval x).cells.toList).toArray c3 tG (fun c hc q hq=>by
     simp only[bW,List.mem_append] at hc
     rcases hc with(hc|hc)|hc
     ·exact hr c (List.mem_of_mem_take hc) q hq
     ·exact y2 q (ak.zk hv hc hq)
     ·exact hr c (List.mem_of_mem_drop hc) q hq) hx
    refine⟨iO,?_,e2,e3⟩
    simp only[List.getElem?_toArray] at e1
    simp only[List.map_cons,Instr.fill,List.getElem?_toArray,c1]
    rw[if_neg (by simp;omega),UT _ _ _ (by omega)]
    exact e1
   ·cases hx
  ·cases hx
 |[],_::_,_,_,_,hc,_,_,_=>by simp[wW] at hc
 |(_,_)::_,[],_,_,_,hc,_,_,_=>by simp[wW] at hc
theorem abr (r:R B E w0 N σ a w G) {t:TypeId} {parts:Array (Nat×Operand)} {ms:List (Nat×Nat×MO)} {zs cs:List ai} {it:TypeInfo} {z:Value} {nh:Array Field} {places:List (Nat×Nat)} (ho:o.op=.build t parts) (hN:∀n,o.dst=some n->n<N)
  (u9:P.info? t=some it) (hz:it.zero=some z) (hu:P.underlying t=some (.struct nh)) (fM:nh.toList.mapM (fun f=>(P.info? f.type).map fun i=>(f.offset,i.size))=some places)
  (V5:rC z.cells.toList zs=true) (hc:wW places parts.toList ms=true) (hx:oL σ.ev zs ms=some cs):o.wp P a w (Nx B E w0 N (σ.put o.dst (.agg cs))) Q:=by
 obtain⟨z1,z2⟩:=FY (w:=w) (G:=G) (h:=σ.h) V5
 obtain⟨iO,e1,e2,e3⟩:=UC r places parts.toList ms zs cs z.cells hc z1 (fun c hc m hm=>absurd hm (z2 c hc m)) hx
 refine fV r (v:=.agg iO) ?_ ⟨iO.toList,by simp,e2⟩ (fun m hm=>by obtain⟨c,hc,hm⟩:=hm;exact e3 c hc m hm) hN
 have hb:P.built t (parts.map fun p=>(p.1,a.eval p.2)).toList=some iO:=by
  unfold Program.built
  simp only[u9,hu,hz,fM,Array.toList_map]
  exact e1
 have bK:=run_build (P:=P) w t _ iO hb
 simp only[execOp,ho]
 simp[bK]
theorem abI (r:R B E w0 N σ a w G) {f:FuncId} {xs:Array Operand} {ms:List MO} {cs:List ai} (ho:o.op=.makeFunc (.func f) #[] xs) (hN:∀n,o.dst=some n->n<N)
  (hc:ms.length=xs.size/\∀(j:Nat) (x:Operand) (m:MO),xs.toList[j]? =some x->ms[j]? =some m->bw x m=true)
  (hx:(ms.map σ.ev).mapM (fun v=>match v with|.one c=>if c.kx=true then none else some c|_=>none)=some cs) (hj:∀c∈cs,c≠ .bf):o.wp P a w (Nx B E w0 N (σ.put o.dst (.one (.fn f cs)))) Q:=by
 have cu:∀(ms:List MO) (xs:List Operand) (cs:List ai),ms.length=xs.length->(∀(j:Nat) (x:Operand) (m:MO),xs[j]? =some x->ms[j]? =some m->bw x m=true)->
   (ms.map σ.ev).mapM (fun v=>match v with|.one c=>if c.kx=true then none else some c|_=>none)=some cs->(∀c∈cs,c≠ .bf)->
   (xs.map a.eval).length=cs.length/\∀(j:Nat) (c:ai) (u:Value),cs[j]? =some c->(xs.map a.eval)[j]? =some u->(u.oneCell'=true/\iM w G σ.h c u)/\∀m,c.g7 m->σ.used m=true:=by
  intro ms
  induction ms with
  |nil=>
   intro xs cs hl _ hx _
   have:xs=[]:=List.eq_nil_of_length_eq_zero (by simpa using hl.symm)
   subst this
   simp at hx
   subst hx
   simp
  |cons m ms ih=>
   intro xs cs hl dt hx hj
   match xs,hl with
   |x::xs,hl=>
    simp only[List.map_cons,List.mapM_cons,Option.bind_eq_bind,Option.pure_def] at hx
    cases hm:σ.ev m with
    |one c=>
     rw[hm] at hx
     by_cases hf:c.kx=true
     ·simp[hf] at hx
     ·simp only[hf,if_false,Bool.false_eq_true,Option.bind_some] at hx
      cases hr:(ms.map σ.ev).mapM (fun v=>match v with|.one c=>if c.kx=true then none else some c|_=>none) with
      |none=>rw[hr] at hx;simp at hx
      |some cs'=>
       rw[hr] at hx
       simp at hx
       subst hx
       obtain⟨i1,i2⟩:=ih xs cs' (by simpa using hl) (fun j x m h1 h2=>dt (j+1) x m h1 h2) hr (fun c hc=>hj c (by simp[hc]))
       refine⟨by simp[i1],fun j c' u jl hu=>?_⟩
       cases j with
       |zero=>
        simp at jl hu
        subst jl;subst hu
        obtain⟨e1,e2⟩:=r.ev (dt 0 x m rfl rfl)
        rw[hm] at e1 e2
        have CK:c.kx=false:=by simpa using hf
        have h1:=(e1.fb (hj c (by simp)))
        rw[wO _ _ _ _ _ CK] at h1
        exact⟨⟨h1.2,h1.1⟩,fun q hq=>e2 q (by show c.ref q;rw[ai.YB c q CK];exact hq)⟩
       |succ j=>exact i2 j c' u (by simpa using jl) (by simpa using hu)
    |agg gx=>rw[hm] at hx;simp at hx
    |bn l=>rw[hm] at hx;simp at hx
 obtain⟨k1,k2⟩:=cu ms xs.toList cs (by simpa using hc.1) hc.2 hx hj
 have ic:∀m,(ai.fn f cs).ref m->σ.used m=true:=fun m hm=>by
  obtain⟨c,mD,hm⟩:=hm
  obtain⟨j,jl,tt⟩:=List.getElem_of_mem mD
  have tu:j<(xs.toList.map a.eval).length:=by omega
  exact(k2 j c _ (by rw[List.getElem?_eq_getElem jl,tt]) (List.getElem?_eq_getElem tu)).2 m hm
 refine fV r (v:=.func (.func f) #[] (xs.toList.map a.eval).toArray) ?_ (RA.fR rfl ⟨xs.toList.map a.eval,rfl,k1,fun j c u h1 h2=>(k2 j c u h1 h2).1⟩) ic hN
 simp only[execOp,ho,Instr.makeFunc]
 have:Array.map a.eval xs=(xs.toList.map a.eval).toArray:=by apply Array.ext';simp
 simp[this]
theorem za {α:Type} {xs:List (List α)} {l k j:Nat} {c:α} (h:At (xs.drop l) k j c):At xs (l+k) j c:=by
 obtain⟨e,he,hj⟩:=h
 rw[List.getElem?_drop] at he
 exact⟨e,he,hj⟩
theorem ajm {b l:Nat} {px:List (List PC)} (h:aP b (px.drop l)):aP b px:=by
 obtain⟨k,j,c,h1,h2⟩:=h
 exact⟨_,_,_,za h1,h2⟩
theorem gS.drop {px:List (List PC)} (h:gS px) (l:Nat):gS (px.drop l):=
 ⟨fun k j c hk=>h.1 _ _ _ (za hk),fun k j c k' j' c' b hk cW aw=>h.2 _ _ _ _ _ _ b (za hk) (za cW) (fun e=>aw (by injection e with e1 e2;rw[show k=k' by omega,e2]))⟩
theorem abP (r:R B E w0 N σ a w G) {n n0:Nat} {t e:TypeId} {i:TypeInfo} {x y:Operand} {mx my:MO} {sz:Nat} {l:Int} {m:Mode} {xs:List (List C)} {σ1:St} (ho:o.op=.slice t x (some y) none none) (hd:o.dst=some n) (hN:n<N)
  (iQ:bw x mx=true) (jm:bw y my=true) (ht:P.underlying t=some (.slice e)) (hi:P.info? e=some i) (bE:i.size=sz) (iE:0<sz)
  (hx:σ.ev mx=.one (.sl n0 sz 0 xs.length)) (hl:(σ.ev my).cX=some l) (h0:0<=l) (h1:l<=(xs.length:Int)) (hn:σ.h n0=some (.row true m sz xs)) (hi1:(σ.del n0).ins n (.row true m sz (xs.drop l.toNat))=some σ1):
  o.wp P a w (Nx B E w0 N (σ1.put o.dst (.one (.sl n sz 0 (xs.length - l.toNat))))) Q:=by
 obtain⟨CT,rfl⟩:=lW hi1
 obtain⟨x1,x2⟩:=r.ev iQ
 rw[hx] at x1 x2
 obtain⟨kk,ey⟩:=(r.ev jm).1.int hl
 have bM:σ.h n0≠none:=by rw[hn];simp
 have gv:jg (G.g n0) sz 0 xs.length (a.eval x):=(x1.fb (by simp)).1 bM
 have H:=r.hr
 have hr:=H.row n0 true m sz xs hn
 have pt:xs.length=(G.g n0).px.length:=by rw[hr.er];simp
 have F:=kM.Po H hn
 have hln:l.toNat<=xs.length:=by omega
 obtain⟨p,v,fj,bK,zS,fM,VR⟩:∃(p:PB) (v:Value),p.px=(G.g n0).px.drop l.toNat/\(execOp a.eval o).run P w=.ok (.value v) w/\(p.nl=true->p.px=[]/\p.cap=0)/\
   (p.nl=false->(G.g n0).nl=false/\p.b=(G.g n0).b/\p.o=(G.g n0).o+l.toNat*sz/\p.cap=(G.g n0).cap - l.toNat/\l.toNat<=(G.g n0).cap)/\jg p sz 0 (xs.length - l.toNat) v:=by
  rcases gv with⟨aK,hv,_,kq⟩|⟨aK,a',hv,jL,ha⟩
  ·have bK:=DQ (P:=P) (w:=w) (ya:=(G.g n0).na) (len:=0) (cap:=(G.g n0).cap) (lo:=some (.int kk l)) (hi':=none) (l:=l) (hh:=0) ht hi bE (.inr ⟨kk,rfl⟩) (.inl ⟨rfl,rfl⟩) h0 (by omega) (by omega) (Nat.zero_le _)
   obtain⟨yu,uL⟩:=hr.nl aK
   have uL:=uL rfl
   have hlz:l.toNat=0:=by omega
   refine⟨⟨true,0,0,0,[],(G.g n0).na⟩,.slice (G.g n0).na 0 0,by rw[yu];simp,?_,fun _=>⟨rfl,rfl⟩,(fun h=>by cases h),.inl ⟨rfl,rfl,rfl,by omega⟩⟩
   simp only[execOp,ho,hv,Option.map_none,Option.map_some,ey]
   rw[uL,hlz] at bK
   simp only[if_true] at bK
   simp[bK,uL]
   omega
  ·have bK:=DQ (P:=P) (w:=w) (ya:=a') (len:=xs.length) (cap:=(G.g n0).cap - 0) (lo:=some (.int kk l)) (hi':=none) (l:=l) (hh:=xs.length) ht hi bE (.inr ⟨kk,rfl⟩) (.inl ⟨rfl,rfl⟩) h0 h1 (by omega) (by omega)
   have rO:=ha (.inr rfl)
   have e2:((xs.length:Int) - l).toNat=xs.length - l.toNat:=by omega
   rw[e2,Nat.sub_zero] at bK
   by_cases hc:(G.g n0).cap=l.toNat
   ·have e3:xs.length - l.toNat=0:=by omega
    rw[if_pos hc,e3] at bK
    refine⟨⟨true,0,0,0,[],a'⟩,.slice a' 0 0,?_,?_,fun _=>⟨rfl,rfl⟩,(fun h=>by cases h),.inl ⟨rfl,rfl,rfl,e3⟩⟩
    ·rw[List.drop_eq_nil_of_le (by omega)]
    ·simp only[execOp,ho,hv,Option.map_none,Option.map_some,ey,Nat.sub_zero]
     rw[hc,Nat.sub_self] at bK
     simp[bK,hc]
   ·rw[if_neg hc,rO] at bK
    simp only[Option.map_some,m9,Nat.zero_mul,Nat.add_zero] at bK
    refine⟨⟨false,(G.g n0).b,(G.g n0).o+l.toNat*sz,(G.g n0).cap - l.toNat,(G.g n0).px.drop l.toNat,none⟩,.slice (some (ad (G.g n0).b ((G.g n0).o+l.toNat*sz))) (xs.length - l.toNat) ((G.g n0).cap - l.toNat),rfl,?_,(fun h=>by cases h),fun _=>⟨aK,rfl,rfl,rfl,by omega⟩,.inr ⟨rfl,some (ad (G.g n0).b ((G.g n0).o+l.toNat*sz)),by simp,by simp;omega,fun _=>by simp⟩⟩
    simp only[execOp,ho,hv,Option.map_none,Option.map_some,ey,Nat.sub_zero,rO,Nat.zero_mul,Nat.add_zero]
    simp[bK]
 have eO:∀b,aP b p.px->aP b (G.g n0).px:=fun b hb=>ajm (by rw[<-fj];exact hb)
 have H1:HR B E w G (au σ.h n0 none) σ.used []:=H.del n0
 have K1:aT w G σ.h (fun q=>σ.used q=true) w G (au σ.h n0 none):=aT.del n0 _
 have Hn:HR B E w ⟨G.Im,au G.g n p⟩ (au (au σ.h n0 none) n (some (.row true m sz (xs.drop l.toNat)))) (au σ.used n true) []:=by
  refine H1.insert (w':=w) (p:=p) CT (fun _ _=>rfl) (Nat.le_refl _) (fun hf=>?_) (fun cs c q hb=>by cases hb) ?_ ?_ ?_ (fun gr m sz xs _ _ i pc b hi=>by simp at hi)
  ·obtain⟨q1,q2,q3,q4,q5⟩:=fM hf
   obtain⟨o1,o2,o3⟩:=H.own n0 bM q1
   rw[q2]
   refine⟨⟨o1,fun q hq L8=>?_,fun q gr m' aG ar hq hb=>?_⟩,o2,o3⟩
   ·obtain⟨d1,d2⟩:=zu hq
    exact H.inj q n0 d1 bM d2 L8 q1
   ·exact H.rK bM q1 (oZ hq).1 hb rfl
  ·refine⟨hr.pos,by rw[fj,hr.er,List.map_drop],fun h=>⟨(zS h).1,fun _=>(zS h).2⟩,fun hf=>?_,fun hf _=>?_,?_⟩
   ·obtain⟨q1,q2,q3,q4,q5⟩:=fM hf
    obtain⟨l1,⟨l2,l3,l4⟩,l5⟩:=hr.dB q1
    rw[q2,q3,q4,fj]
    refine⟨l1,⟨fun e he=>l2 e (List.mem_of_mem_drop he),fun k j c hk=>?_,fun k j c hk=>l4 _ _ _ (za hk)⟩,by simp;omega⟩
    have:=l3 _ _ _ (za hk)
    rw[<-this]
    congr 2
    rw[Nat.add_mul]
    omega
   ·obtain⟨q1,q2,q3,q4,q5⟩:=fM hf
    obtain⟨r2,cur,ee,r3,r4⟩:=hr.room q1 rfl
    unfold E0
    rw[q2,q3,q4]
    refine⟨by omega,cur,ee,r3,?_⟩
    rw[r4,Nat.add_assoc,<-Nat.add_mul]
    congr 2
    omega
   ·have hm:=hr.mode
    show BP B E w _ p.px m
    cases m with
    |aA=>exact fun b hb=>hm b (eO b hb)
    |ae=>exact⟨fun b hb=>hm.1 b (eO b hb),by rw[fj];exact hm.2.drop _⟩
    |live=>exact⟨fun b hb=>hm.1 b (eO b hb),by rw[fj];exact hm.2.drop _⟩
  ·intro gr m' aG ar hb gF q bh mo j5 gR h0 iC b cq
   injection hb with _ hb _ _
   subst hb
   exact F.fi gF q bh mo j5 gR h0 iC b (eO b cq)
  ·intro gr aG ar hb b cq
   injection hb with _ hb _ _
   exact⟨fun hf=>by rw[(fM hf).2.1];exact H.rK bM (fM hf).1 hn (eO b cq),fun q h0 L8=>F.live hb b (eO b cq) q h0 L8⟩
 have r':R B E w0 N {(σ.del n0) with h:=au (σ.del n0).h n (some (.row true m sz (xs.drop l.toNat))),used:=au (σ.del n0).used n true} a w ⟨G.Im,au G.g n p⟩:=
  r.step rfl (fun q hq=>qc n q hq) (aT.trans (u2:=fun q=>σ.used q=true) (fun _ h=>h) K1 (aT.insert H1 CT (fun _ _=>rfl))) Hn r.fr
 have CU:v.oneCell'=true:=by rcases VR with⟨_,h,_⟩|⟨_,_,h,_⟩<;>rw[h]<;>rfl
 have ew:RC w ⟨G.Im,au G.g n p⟩ (au (au σ.h n0 none) n (some (.row true m sz (xs.drop l.toNat)))) (.sl n sz 0 (xs.length - l.toNat)) v:=fun _=>by simpa[bC] using VR
 refine mZ (v:=v) (w':=w) bK ⟨_,r'.put (RA.fR CU ew) (fun q hq=>by have dM:q=n:=hq;subst dM;exact bC _ _ _) (fun q hq=>by rw[hd] at hq;injection hq with hq;omega)⟩
end
end Go.Am
