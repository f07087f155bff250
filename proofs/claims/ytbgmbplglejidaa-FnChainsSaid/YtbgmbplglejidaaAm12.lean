/- Am12: stores. No condition. -/
import Derived.Test.YtbgmbplglejidaaAm11
set_option linter.unusedVariables false
namespace Go.Am
theorem Kf {α:Type} {l vs:List α} {off:Nat} (h:off+vs.length<=l.length):(cj l off vs).length=l.length:=by
 simp[cj];omega
theorem w7 {α:Type} {l vs:List α} {off j:Nat} (h:off+vs.length<=l.length):(cj l off vs)[j]? =if off<=j/\j<off+vs.length then vs[j - off]? else l[j]? :=by
 unfold cj
 have ht:(l.take off).length=off:=by simp;omega
 by_cases h1:j<off
 ·rw[if_neg (by omega),List.append_assoc,List.getElem?_append_left (by omega),List.getElem?_take_of_lt h1]
 ·by_cases h2:j<off+vs.length
  ·rw[if_pos ⟨by omega,h2⟩,List.append_assoc,List.getElem?_append_right (by omega),List.getElem?_append_left (by omega),ht]
  ·rw[if_neg (by omega),List.getElem?_append_right (by simp;omega),List.getElem?_drop]
   congr 1
   simp
   omega
theorem Ck {α β:Type} (f:α->β) (l vs:List α) (off:Nat):(cj l off vs).map f=cj (l.map f) off (vs.map f):=by
 simp[cj,List.map_take,List.map_drop]
def eO (w:World) (b o:Nat) (vs:List Value) (cur:Array Value):World:=w.setRow b (cur.toList.take o++vs++cur.toList.drop (o+vs.length)).toArray
section
variable {w:World} {b o:Nat} {vs:List Value} {cur:Array Value} {e:TypeId}
theorem Cx (hg:w.heap[b]? =some (.cells cur e (0,0))) (hl:o+vs.length<=cur.size) (x:Nat):
  (eO w b o vs cur).cell? (ad b x)=if o<=x/\x<o+vs.length then vs[x - o]? else w.cell? (ad b x):=by
 unfold eO ad
 rw[cell_setRow_same w b x cur _ e (0,0) hg]
 have h1:=w7 (l:=cur.toList) (vs:=vs) (off:=o) (j:=x) (by simpa using hl)
 simp only[cj] at h1
 rw[List.getElem?_toArray,h1]
 have h2:w.cell? ⟨b,x,none⟩=cur[x]? :=by simp[World.cell?,hg]
 rw[h2]
 simp
theorem zx (k:Nat) (hk:k≠b):(eO w b o vs cur).heap[k]? =w.heap[k]? :=setRow_other w b k _ hk
theorem qS:(eO w b o vs cur).heap.size=w.heap.size:=setRow_size _ _ _
theorem KI (hg:w.heap[b]? =some (.cells cur e (0,0))) (hl:o+vs.length<=cur.size):∃jr,(eO w b o vs cur).heap[b]? =some (.cells jr e (0,0))/\jr.size=cur.size:=by
 refine⟨_,setRow_heap w b cur _ e (0,0) hg,?_⟩
 simp
 omega
theorem Cy (hg:w.heap[b]? =some (.cells cur e (0,0))) (hl:o+vs.length<=cur.size):Cz w (eO w b o vs cur) b:=by
 intro arr e' h
 obtain⟨jr,h1,h2⟩:=KI (vs:=vs) (o:=o) hg hl
 rw[hg] at h
 injection h with h
 injection h with ha hb
 subst ha hb
 exact⟨jr,h1,h2⟩
theorem KJ (hg:w.heap[b]? =some (.cells cur e (0,0))) (hl:o+vs.length<=cur.size) (k:Nat) (hk:dD w k):dD (eO w b o vs cur) k:=by
 by_cases YS:k=b
 ·subst YS
  obtain⟨jr,h1,_⟩:=KI (vs:=vs) (o:=o) hg hl
  exact⟨jr,e,h1⟩
 ·exact hk.congr (zx k YS)
end
section
variable {B:Nat} {E:Ex} {w0 w w':World} {G G':Gh} {h h':Nat->Option ao} {used used':Nat->Bool} {tk:List PC} {N:Nat}
variable {P:Program} {o:Oper} {a:Act} {σ σ':St} {Q:Exit->Act->World->Prop}
theorem Ft {α:Type} (f:Nat->α) (n:Nat):au f n (f n)=f:=by
 funext m;simp only[iP];split
 ·rename_i h;rw[h]
 ·rfl
theorem JX {t:TypeId} {i:TypeInfo} {b off:Nat} {v:Value} {cur:Array Value} {e:TypeId} (hi:P.info? t=some i) (bD:v.cells.size=i.size) (hg:w.heap[b]? =some (.cells cur e (0,0)))
  (hl:off+v.cells.size<=cur.size) (h1:∀u∈v.cells.toList,u.oneCell'=true):
  (storeVar t (ad b off) v).run P w=.ok () (eO w b off v.cells.toList cur):=by
 have ed:=run_storeCells_at P b off e v.cells.toList 0 cur w hg (by simpa using hl) h1
 simp only[Nat.add_zero] at ed
 simp[storeVar,sizeOf,typeInfo,hi,bD,ad,ed,eO]
theorem HR.sC (H:HR B E w G h used tk) {n m:Nat} {gr:Bool} {mo:Mode} {sz:Nat} {xs:List (List C)} (hn:h n≠none) (hl:(G.g n).nl=false) (hm:h m=some (.row gr mo sz xs)) {b:Nat} (hb:aV b (G.g m).px):b≠(G.g n).b:=by
 have cX:=(H.row m gr mo sz xs hm).mode
 cases mo with
 |aD=>rintro rfl;exact(H.own n hn hl).1 (cX _ hb)
 |ae=>rintro rfl;exact(H.own n hn hl).1 (cX.1 _ hb).1
 |live=>exact H.live m gr sz xs hm b hb n hn hl
theorem R.aoY (r:R B E w0 N σ a w G) {n:Nat} {cs:List ah} {vs:List ah} {us:List Value} {off:Nat} (hn:σ.h n=some (.box cs)) (hv:cN w G σ.h vs us) (iH:∀c∈vs,∀m,c.ref m->σ.used m=true)
  (hl:off+vs.length<=cs.length) {cur:Array Value} {e:TypeId} (hg:w.heap[(G.g n).b]? =some (.cells cur e (0,0))) (gh:(G.g n).o+off+us.length<=cur.size):
  R B E w0 N (σ.dn n (.box (cj cs off vs))) a (eO w (G.g n).b ((G.g n).o+off) us cur) G:=by
 have H:=r.hr
 have bM:σ.h n≠none:=by rw[hn];simp
 obtain⟨aL,sO,gW⟩:=H.box n cs hn
 obtain⟨ry,qf,rz⟩:=H.own n bM aL
 have wi:=H.iG n bM
 have hG:(⟨G.Im,au G.g n (G.g n)⟩:Gh)=G:=by rw[Ft]
 have hlen:us.length=vs.length:=hv.1
 have dN:∀b,b<w.heap.size->b≠(G.g n).b->(eO w (G.g n).b ((G.g n).o+off) us cur).heap[b]? =w.heap[b]? :=fun b _ hb=>zx b hb
 have K:bc w G σ.h (fun n=>σ.used n=true) (eO w (G.g n).b ((G.g n).o+off) us cur) G (au σ.h n (some (.box (cj cs off vs)))):=by
  refine⟨fun _ h=>h,fun b hb x=>iF (dN b (H.fW b hb) (fun he=>ry (he▸hb))) x,fun m hm h0=>?_,fun m gr sz xs hm h0=>?_⟩
  ·by_cases bE:m=n
   ·subst bE;exact⟨bM,rfl,rfl,rfl,rfl,rfl⟩
   ·rw[cq _ _ _ _ bE] at h0;exact⟨h0,rfl,rfl,rfl,rfl,rfl⟩
  ·by_cases bE:m=n
   ·subst bE;rw[bF] at h0;cases h0
   ·rw[cq _ _ _ _ bE] at h0;exact⟨⟨gr,xs,h0⟩,fun k j pc h1 h2=>⟨pc,h1,rfl,h2⟩⟩
 have Hn:HR B E (eO w (G.g n).b ((G.g n).o+off) us cur) ⟨G.Im,au G.g n (G.g n)⟩ (au σ.h n (some (.box (cj cs off vs)))) σ.used []:=by
  refine H.put (fun b hb aB=>dN b hb (aB aL)) (by rw[qS];exact Nat.le_refl _) (fun b _ hb=>KJ hg gh b hb) (fun _ h=>h) wi (fun _=>⟨ry,qf,by rw[qS];exact rz⟩)
   (fun _ m hm h0 kF=>(H.inj m n h0 bM hm kF aL)) (fun _ m gr sz xs hm h0 b hb=>H.live m gr sz xs h0 b hb n bM aL) ?_ (by rw[hG];exact K) ?_
   (fun gr m sz xs hb=>by cases hb) (fun gr sz xs hb=>by cases hb) (fun gr m sz xs hb=>by cases hb) ?_
  ·intro cs' c m hb hc hm
   injection hb with hb
   subst hb
   simp only[cj,List.mem_append] at hc
   rcases hc with(hc|hc)|hc
   ·exact H.gH n cs c m hn (List.mem_of_mem_take hc) hm
   ·exact iH c hc m hm
   ·exact H.gH n cs c m hn (List.mem_of_mem_drop hc) hm
  ·rw[hG]
   refine⟨aL,KJ hg gh _ sO,fun j c hj=>?_⟩
   rw[w7 hl] at hj
   rw[Cx hg gh]
   by_cases fx:off<=j/\j<off+vs.length
   ·rw[if_pos fx] at hj
    rw[if_pos (by omega)]
    have mB:j - off<us.length:=by omega
    have hu:us[j - off]? =some (us[j - off]'mB):=List.getElem?_eq_getElem mB
    obtain⟨q1,q2⟩:=hv.2 _ _ _ hj hu
    refine⟨_,by rw[<-hu];congr 1;omega,q1,q2.fe K (iH c (List.mem_of_getElem? hj))⟩
   ·rw[if_neg fx] at hj
    rw[if_neg (by omega)]
    obtain⟨v,v1,v2,v3⟩:=gW j c hj
    exact⟨v,v1,v2,v3.fe K (fun m hm=>H.gH n cs c m hn (List.mem_of_getElem? hj) hm)⟩
  ·intro _ _ b hb
   obtain⟨m,gr,mo,sz,xs,hm,h0,cF⟩:=hb
   exact H.sC bM aL h0 cF
 rw[hG] at Hn
 exact r.step (σ':=σ.dn n (.box (cj cs off vs))) rfl (fun _ h=>h) K Hn (r.fr.one qf (fun b hb aB=>dN b hb aB) (by rw[qS];exact Nat.le_refl _) (Cy hg gh) rfl rfl rfl)
theorem Ht {α:Type} {px:List (List α)} {k k' j:Nat} {pe:List α} {c:α} (hk:k<px.length) (h:At (px.set k pe) k' j c):(k'=k/\pe[j]? =some c)\/(k'≠k/\At px k' j c):=by
 obtain⟨e,he,hj⟩:=h
 by_cases v5:k'=k
 ·subst v5
  rw[List.getElem?_set_self hk] at he
  injection he with he
  subst he
  exact .inl ⟨rfl,hj⟩
 ·rw[List.getElem?_set_ne (Ne.symm v5)] at he
  exact .inr ⟨v5,e,he,hj⟩
theorem PC.ZK {pc:PC} (h:pc.gB=true):pc.er.eN=false:=by
 cases pc<;>simp[PC.gB] at h
 simp[PC.dJ,C.eN]
theorem R.mX (r:R B E w0 N σ a w G) {n:Nat} {gr:Bool} {m:Mode} {rs:Nat} {xs:List (List C)} {k off:Nat} {e:List C} {vs:List ah} {us:List Value} {σ2:St}
  (hn:σ.h n=some (.row gr m rs xs)) (aL:(G.g n).nl=false) (hk:xs[k]? =some e) (hv:cN w G σ.h vs us) (iH:∀c∈vs,∀m,c.ref m->σ.used m=true)
  (hx:Am.mX σ n gr m rs xs k off e vs=some σ2) {cur:Array Value} {et:TypeId} (hg:w.heap[(G.g n).b]? =some (.cells cur et (0,0))) (gh:(G.g n).o+k*rs+off+us.length<=cur.size):
  ∃G',R B E w0 N σ2 a (eO w (G.g n).b ((G.g n).o+k*rs+off) us cur) G':=by
 unfold Am.mX at hx
 split at hx
 ·cases hx
 rename_i fq eR
 obtain⟨s1,s2,s3⟩:=Fi eR
 split at hx
 ·cases hx
 rename_i cs ow σ1 OP
 obtain⟨Im',bu,a1,a2,a3,a4,a5,a6,a7,a8⟩:=HR.ft r.hr OP hv iH
 simp only[List.nil_append] at a4
 have H0:HR B E w ⟨Im',G.g⟩ σ1.h σ.used []:=by
  cases ow
  ·simpa using a4
  ·have a4':HR B E w ⟨Im',G.g⟩ σ1.h σ.used ([]++bu):=by simpa using a4
   exact a4'.xg
 have hlen:us.length=vs.length:=hv.1
 have fK:bu.length=vs.length:=by have:=congrArg List.length a2;simp at this;omega
 have N5:(σ1.h n).isSome=true/\∃m',σ2=σ1.dn n (.row gr m' rs (xs.set k (cj e off cs)))/\
   ((m=.live/\m'=.live/\fA cs=true/\fA fq=true)\/(m≠ .live/\m'=if ow=true then m else .aD)):=by
  split at hx
  ·rename_i hm
   split at hx
   ·rename_i hc
    injection hx with hx
    exact⟨hc.2.2,m,by rw[<-hx],.inl ⟨hm,hm,hc.1,hc.2.1⟩⟩
   ·cases hx
  ·rename_i hm
   split at hx
   ·rename_i hs
    injection hx with hx
    exact⟨hs,_,hx.symm,.inr ⟨hm,rfl⟩⟩
   ·cases hx
 obtain⟨Bf,m',rfl,f0⟩:=N5
 have mD:σ1.h n=some (.row gr m rs xs):=by
  cases hh:σ1.h n with
  |none=>rw[hh] at Bf;cases Bf
  |some b=>rw[<-a8 n b hh,hn]
 have bM:σ1.h n≠none:=by rw[mD];simp
 have hr:=H0.row n gr m rs xs mD
 obtain⟨ry,qf,rz⟩:=H0.own n bM aL
 have wi:=H0.iG n bM
 obtain⟨l1,l2,l3⟩:=hr.dR aL
 have sL:∃pe,(G.g n).px[k]? =some pe/\pe.map PC.er=e:=by
  have ud:=hr.er
  rw[ud,List.getElem?_map] at hk
  cases hp:(G.g n).px[k]? with
  |none=>rw[hp] at hk;cases hk
  |some pe=>rw[hp] at hk;simp at hk;exact⟨pe,rfl,hk⟩
 obtain⟨pe,v9,wa⟩:=sL
 have oT:k<(G.g n).px.length:=(List.getElem?_eq_some_iff.1 v9).1
 have IW:pe.length=rs:=l2.1 pe (List.mem_of_getElem? v9)
 have A9:off+bu.length<=pe.length:=by rw[<-wa] at s1;simp at s1;omega
 let BX:=cj pe off bu
 let px':=(G.g n).px.set k BX
 let w2:=eO w (G.g n).b ((G.g n).o+k*rs+off) us cur
 let p':PB:=⟨false,(G.g n).b,(G.g n).o,(G.g n).cap,px',(G.g n).na⟩
 have Y4:BX.length=rs:=by show(cj pe off bu).length=rs;rw[Kf A9,IW]
 have bQ:∀k' j c,At px' k' j c->(k'=k/\off<=j/\j<off+bu.length/\bu[j - off]? =some c)\/((k'≠k\/¬(off<=j/\j<off+bu.length))/\At (G.g n).px k' j c):=by
  intro k' j c h
  rcases Ht oT h with⟨rfl,hj⟩|⟨aB,h⟩
  ·rw[w7 A9] at hj
   by_cases fx:off<=j/\j<off+bu.length
   ·rw[if_pos fx] at hj;exact .inl ⟨rfl,fx.1,fx.2,hj⟩
   ·rw[if_neg fx] at hj;exact .inr ⟨.inr fx,pe,v9,hj⟩
  ·exact .inr ⟨.inl aB,h⟩
 have agZ:∀k' j c,At px' k' j c->j<rs:=by
  intro k' j c h
  obtain⟨e1,he,hj⟩:=h
  have:e1.length=rs:=by
   rcases List.mem_or_eq_of_mem_set (List.mem_of_getElem? he) with h1|h1
   ·exact l2.1 e1 h1
   ·rw[h1];exact Y4
  rw[<-this]
  exact(List.getElem?_eq_some_iff.1 hj).1
 have nh:∀b,aV b px'->aV b (G.g n).px\/∃(i:Nat) (c:PC),bu[i]? =some c/\aS b c:=by
  rintro b ⟨k',j,c,mC,hb⟩
  rcases bQ k' j c mC with⟨_,_,_,hp⟩|⟨_,hp⟩
  ·exact .inr ⟨_,c,hp,hb⟩
  ·exact .inl ⟨k',j,c,hp,hb⟩
 have dN:∀b,b≠(G.g n).b->w2.heap[b]? =w.heap[b]? :=fun b hb=>zx b hb
 have OE:∀(i:Nat) (c:PC) (b:Nat),bu[i]? =some c->aS b c->Im' b:=fun i c b hi hb=>(a3 c (List.mem_of_getElem? hi)).2 b hb
 have IA:∀b,Im' b->b≠(G.g n).b:=fun b hb he=>ry (he▸hb)
 have OB:∀b,aV b (G.g n).px->b≠(G.g n).b:=fun b hb=>H0.sC bM aL mD hb
 have fc:oD w2 (G.g n).b (G.g n).o rs px':=by
  refine⟨fun e1 he=>?_,fun k' j c mC=>?_,fun k' j c mC=>?_⟩
  ·rcases List.mem_or_eq_of_mem_set he with h1|h1
   ·exact l2.1 e1 h1
   ·rw[h1];exact Y4
  ·have hj:=agZ k' j c mC
   show w2.cell? _=_
   rw[Cx hg gh]
   rcases bQ k' j c mC with⟨rfl,h1,h2,hp⟩|⟨aB,hp⟩
   ·rw[if_pos (by omega)]
    have hu:us[j - off]? =some c.val:=by rw[<-a2,List.getElem?_map,hp];rfl
    rw[<-hu]
    congr 1
    omega
   ·rw[if_neg ?_]
    ·exact l2.2.1 k' j c hp
    ·rintro⟨q1,q2⟩
     rcases aB with aB|aB
     ·rcases Nat.lt_or_gt_of_ne aB with bG|yj
      ·have:(k'+1)*rs<=k*rs:=Nat.mul_le_mul_right _ bG
       rw[Nat.add_mul] at this
       omega
      ·have:(k+1)*rs<=k'*rs:=Nat.mul_le_mul_right _ yj
       rw[Nat.add_mul] at this
       omega
     ·have:k'=k:=by
       rcases Nat.lt_trichotomy k' k with bG|d9|yj
       ·have:(k'+1)*rs<=k*rs:=Nat.mul_le_mul_right _ bG
        rw[Nat.add_mul] at this
        omega
       ·exact d9
       ·have:(k+1)*rs<=k'*rs:=Nat.mul_le_mul_right _ yj
        rw[Nat.add_mul] at this
        omega
      subst this
      omega
  ·rcases bQ k' j c mC with⟨_,_,_,hp⟩|⟨_,hp⟩
   ·exact(a3 c (List.mem_of_getElem? hp)).1.congr fun b hb x=>iF (dN b (IA b (OE _ c b hp hb))) x
   ·exact(l2.2.2 k' j c hp).congr fun b hb x=>iF (dN b (OB b ⟨k',j,c,hp,hb⟩)) x
 have apO:(G.g n).o+k*rs+off+us.length<=cur.size:=gh
 have ja:fA cs=true->∀(i:Nat) (c:PC) (b:Nat),bu[i]? =some c->¬aS b c:=by
  intro hs i c b hi
  have hc:c.er∈cs:=by rw[<-a1];exact List.mem_map_of_mem (List.mem_of_getElem? hi)
  exact(Sep.kP (pc:=c) (List.all_eq_true.1 hs _ hc)).2 b
 have hold:fA fq=true->∀j c,off<=j->j<off+bu.length->pe[j]? =some c->c.er.eN=true:=by
  intro hs j c h1 h2 hj
  have:c.er∈fq:=by
   have h3:fq[j - off]? =some c.er:=by
    have e0:fq[j - off]? =((e.drop off).take vs.length)[j - off]? :=congrArg (fun q:List C=>q[j - off]?) s2
    rw[e0,Cp (by omega),<-wa,List.getElem?_map,show off+(j - off)=j by omega,hj]
    rfl
   exact List.mem_of_getElem? h3
  exact List.all_eq_true.1 hs _ this
 have K2:bc w ⟨Im',G.g⟩ σ1.h (fun n=>σ.used n=true) w2 ⟨Im',au G.g n p'⟩ (au σ1.h n (some (.row gr m' rs (xs.set k (cj e off cs))))):=by
  refine⟨fun _ h=>h,fun b hb x=>iF (dN b (IA b hb)) x,fun q hq h0=>?_,fun q bk aJ aq hq h0=>?_⟩
  ·by_cases fD:q=n
   ·subst fD
    refine⟨bM,?_⟩
    simp only[bF]
    exact⟨aL.symm,rfl,rfl,rfl,rfl⟩
   ·rw[cq _ _ _ _ fD] at h0
    simp only[cq _ _ _ _ fD]
    exact⟨h0,trivial,trivial,trivial,trivial,trivial⟩
  ·by_cases fD:q=n
   ·subst fD
    rw[bF] at h0
    injection h0 with h0
    injection h0 with e1 e2 e3 e4
    subst e1;subst e2;subst e3
    rcases f0 with⟨hm,_,hs,Ze⟩|⟨hm,bJ⟩
    ·subst hm
     refine⟨⟨gr,xs,mD⟩,fun k' j pc mC hL=>?_⟩
     simp only[bF]
     refine⟨pc,?_,rfl,hL⟩
     obtain⟨e1,he,hj⟩:=mC
     by_cases v5:k'=k
     ·subst v5
      rw[v9] at he
      injection he with he
      subst he
      refine⟨BX,List.getElem?_set_self oT,?_⟩
      show(cj pe off bu)[j]? =some pc
      rw[w7 A9]
      rw[if_neg ?_]
      ·exact hj
      ·rintro⟨q1,q2⟩
       have:=hold Ze j pc q1 q2 hj
       rw[PC.ZK hL] at this
       cases this
     ·exact⟨e1,by show((G.g q).px.set k BX)[k']? =some e1;rw[List.getElem?_set_ne (Ne.symm v5)];exact he,hj⟩
    ·cases ow
     ·simp at bJ
     ·simp at bJ;exact absurd bJ.symm hm
   ·rw[cq _ _ _ _ fD] at h0
    simp only[cq _ _ _ _ fD]
    exact⟨⟨bk,aq,h0⟩,fun k j pc h1 h2=>⟨pc,h1,rfl,h2⟩⟩
 have uu:∀b,dD w b->dD w2 b:=fun b hb=>KJ hg gh b hb
 have OD:m'≠ .aD->(∀b,aV b px'->dD w b/\(B<=b\/E b))/\ij px'/\(m'=.ae->∀b,aV b px'->Im' b)/\(m'=.live->∀b,aV b px'->aV b (G.g n).px)/\
   (∀q bk mo aJ aq,q≠n->σ1.h q=some (.row bk mo aJ aq)->mo≠ .aD->∀b,aV b px'->¬aV b (G.g q).px):=by
  intro gZ
  have cX:=hr.mode
  rcases f0 with⟨rfl,rfl,hs,Ze⟩|⟨hm,bJ⟩
  ·have eR:∀b,aV b px'->aV b (G.g n).px:=fun b hb=>(nh b hb).resolve_right (fun⟨i,c,hi,hb⟩=>ja hs i c b hi hb)
   refine⟨fun b hb=>(cX.1 b (eR b hb)).2,⟨fun k' j c mC=>?_,fun k1 j1 c1 k2 j2 c2 b h1 h2 aB hb=>?_⟩,(fun h=>by cases h),fun _=>eR,fun q bk mo aJ aq fD hq iZ b hb=>H0.fJ n q gr .live rs xs bk mo aJ aq mD hq (by simp) iZ (Ne.symm fD) b (eR b hb)⟩
   ·rcases bQ k' j c mC with⟨_,_,_,hp⟩|⟨_,hp⟩
    ·exact Sep.EB (fun b hb=>ja hs _ c b hp hb) (a3 c (List.mem_of_getElem? hp)).1
    ·exact cX.2.1 k' j c hp
   ·rcases bQ k1 j1 c1 h1 with⟨_,_,_,hp⟩|⟨_,hp⟩
    ·exact absurd hb (ja hs _ c1 b hp)
    ·rcases bQ k2 j2 c2 h2 with⟨_,_,_,bi⟩|⟨_,bi⟩
     ·exact ja hs _ c2 b bi
     ·exact cX.2.2 k1 j1 c1 k2 j2 c2 b hp bi aB hb
  ·cases ow
   ·simp at bJ;exact absurd bJ gZ
   ·simp only[if_true] at bJ a4
    subst bJ
    have IL:m'=.ae:=by cases m'<;>first|rfl|exact absurd rfl hm|exact absurd rfl gZ
    subst IL
    refine⟨fun b hb=>?_,⟨fun k' j c mC=>?_,fun k1 j1 c1 k2 j2 c2 b h1 h2 aB hb=>?_⟩,fun _ b hb=>?_,(fun h=>by cases h),fun q bk mo aJ aq fD hq iZ b hb=>?_⟩
    ·rcases nh b hb with h1|⟨i,c,hi,h1⟩
     ·exact(cX.1 b h1).2
     ·exact((a4.qP i c hi).2 b h1).2
    ·rcases bQ k' j c mC with⟨_,_,_,hp⟩|⟨_,hp⟩
     ·exact(a4.qP _ c hp).1
     ·exact cX.2.1 k' j c hp
    ·rcases bQ k1 j1 c1 h1 with⟨e1,q1,q2,hp⟩|⟨_,hp⟩
     ·rcases bQ k2 j2 c2 h2 with⟨e2,q3,q4,bi⟩|⟨_,bi⟩
      ·have jw:j1 - off≠j2 - off:=fun hh=>aB (by rw[e1,e2,show j1=j2 by omega])
       exact a4.vc _ _ c1 c2 b jw hp bi hb
      ·exact fun aY=>a4.qQ _ c1 n gr .ae rs xs b hp mD (by simp) hb ⟨k2,j2,c2,bi,aY⟩
     ·rcases bQ k2 j2 c2 h2 with⟨e2,q3,q4,bi⟩|⟨_,bi⟩
      ·exact fun aY=>a4.qQ _ c2 n gr .ae rs xs b bi mD (by simp) aY ⟨k1,j1,c1,hp,hb⟩
      ·exact cX.2.2 k1 j1 c1 k2 j2 c2 b hp bi aB hb
    ·rcases nh b hb with h1|⟨i,c,hi,h1⟩
     ·exact(cX.1 b h1).1
     ·exact OE i c b hi h1
    ·rcases nh b hb with h1|⟨i,c,hi,h1⟩
     ·exact H0.fJ n q gr .ae rs xs bk mo aJ aq mD hq (by simp) iZ (Ne.symm fD) b h1
     ·exact a4.qQ i c q bk mo aJ aq b hi hq iZ h1
 have Hn:HR B E w2 ⟨Im',au G.g n p'⟩ (au σ1.h n (some (.row gr m' rs (xs.set k (cj e off cs))))) σ.used []:=by
  refine H0.put (p:=p') (fun b hb aB=>dN b (aB rfl)) (by show w.heap.size<=w2.heap.size;rw[qS];exact Nat.le_refl _) (fun b _ hb=>uu b hb) (fun _ h=>h) wi
   (fun _=>⟨ry,qf,by show _<w2.heap.size;rw[qS];exact rz⟩)
   (fun _ q hq h0 kF=>(H0.inj q n h0 bM hq kF aL)) (fun _ q bk aJ aq hq h0 b hb=>H0.live q bk aJ aq h0 b hb n bM aL) (fun cs c q hb=>by cases hb) K2 ?_ ?_ ?_ (fun gr m sz xs _ _ i pc b hi=>by simp at hi) ?_
  ·refine⟨hr.pos,?_,(fun hl=>by cases hl),fun _=>⟨uu _ l1,fc,by show((G.g n).px.set k BX).length<=_;simpa using l3⟩,fun _ hgr=>?_,?_⟩
   ·show xs.set k (cj e off cs)=((G.g n).px.set k BX).map _
    rw[List.map_set,<-hr.er]
    congr 1
    show cj e off cs=(cj pe off bu).map PC.er
    rw[Ck,wa,a1]
   ·obtain⟨r2,jr,e',r3,r4⟩:=hr.room aL hgr
    rw[hg] at r3
    injection r3 with r3
    injection r3 with r3 _ _
    subst r3
    obtain⟨aeq,c1,c2⟩:=KI (vs:=us) (o:=(G.g n).o+k*rs+off) hg gh
    exact⟨r2,aeq,et,c1,by rw[c2];exact r4⟩
   ·show CJ B E w2 ⟨Im',_⟩ px' m'
    by_cases gZ:m'=.aD
    ·rw[gZ]
     intro b hb
     rcases nh b hb with h1|⟨i,c,hi,h1⟩
     ·have cX:=hr.mode
      rcases f0 with⟨_,h2,_⟩|⟨hm,_⟩
      ·rw[gZ] at h2;cases h2
      ·cases m with
       |aD=>exact cX b h1
       |ae=>exact(cX.1 b h1).1
       |live=>exact absurd rfl hm
     ·exact OE i c b hi h1
    ·obtain⟨o1,o2,o3,o4,o5⟩:=OD gZ
     cases m' with
     |aD=>exact absurd rfl gZ
     |ae=>exact⟨fun b hb=>⟨o3 rfl b hb,uu b (o1 b hb).1,(o1 b hb).2⟩,o2⟩
     |live=>
      refine⟨fun b hb=>⟨?_,uu b (o1 b hb).1,(o1 b hb).2⟩,o2⟩
      have cX:=hr.mode
      rcases f0 with⟨hm,_,_⟩|⟨hm,bJ⟩
      ·subst hm;exact(cX.1 b (o4 rfl b hb)).1
      ·cases ow
       ·simp at bJ
       ·simp at bJ;exact absurd bJ.symm hm
  ·intro bk m2 aJ aq hb gZ q AM mo jZ ii fD hq iZ b cF
   injection hb with _ hb _ _
   subst hb
   exact(OD gZ).2.2.2.2 q AM mo jZ ii fD hq iZ b cF
  ·intro bk aJ aq hb b cF
   injection hb with _ hb _ _
   subst hb
   have eR:=(OD (by simp)).2.2.2.1 rfl b cF
   have hm:m=.live:=by
    rcases f0 with⟨hm,_,_⟩|⟨hm,bJ⟩
    ·exact hm
    ·cases ow
     ·simp at bJ
     ·simp at bJ;exact absurd bJ.symm hm
   subst hm
   exact⟨fun _=>H0.live n gr rs xs mD b eR n bM aL,fun q fD hq OK=>H0.live n gr rs xs mD b eR q hq OK⟩
  ·intro _ _ b hb
   obtain⟨q,bk,mo,aJ,aq,hq,h0,cF⟩:=hb
   exact H0.sC bM aL h0 cF
 refine⟨⟨Im',au G.g n p'⟩,?_⟩
 exact r.step (σ':=σ1.dn n (.row gr m' rs (xs.set k (cj e off cs)))) a6 (fun q hq=>by show σ1.used q=true;rw[a7];exact hq)
  (bc.trans (u2:=fun n=>σ.used n=true) (fun _ h=>h) a5 K2) (by show HR B E w2 _ (au σ1.h n _) σ1.used [];rw[a7];exact Hn) (r.fr.one qf (fun b hb aB=>dN b aB) (by show w.heap.size<=w2.heap.size;rw[qS];exact Nat.le_refl _) (Cy hg gh) rfl rfl rfl)
end
end Go.Am
