/- Am12: stores. No condition. -/
import Derived.Test.YtfkfmbhknekkdaaAm11
set_option linter.unusedVariables false
namespace Go.Am
theorem Hk {α:Type} {l vs:List α} {off:Nat} (h:off+vs.length<=l.length):(bY l off vs).length=l.length:=by
 simp[bY];omega
theorem u6 {α:Type} {l vs:List α} {off j:Nat} (h:off+vs.length<=l.length):(bY l off vs)[j]? =if off<=j/\j<off+vs.length then vs[j - off]? else l[j]? :=by
 unfold bY
 have ht:(l.take off).length=off:=by simp;omega
 by_cases h1:j<off
 ·rw[if_neg (by omega),List.append_assoc,List.getElem?_append_left (by omega),List.getElem?_take_of_lt h1]
 ·by_cases h2:j<off+vs.length
  ·rw[if_pos ⟨by omega,h2⟩,List.append_assoc,List.getElem?_append_right (by omega),List.getElem?_append_left (by omega),ht]
  ·rw[if_neg (by omega),List.getElem?_append_right (by simp;omega),List.getElem?_drop]
   congr 1
   simp
   omega
theorem z6 {α β:Type} (f:α->β) (l vs:List α) (off:Nat):(bY l off vs).map f=bY (l.map f) off (vs.map f):=by
 simp[bY,List.map_take,List.map_drop]
def dY (w:World) (b o:Nat) (vs:List Value) (cur:Array Value):World:=w.setRow b (cur.toList.take o++vs++cur.toList.drop (o+vs.length)).toArray
section
variable {w:World} {b o:Nat} {vs:List Value} {cur:Array Value} {e:TypeId}
theorem Ap (hg:w.heap[b]? =some (.cells cur e (0,0))) (hl:o+vs.length<=cur.size) (x:Nat):
  (dY w b o vs cur).cell? (ad b x)=if o<=x/\x<o+vs.length then vs[x - o]? else w.cell? (ad b x):=by
 unfold dY ad
 rw[cell_setRow_same w b x cur _ e (0,0) hg]
 have h1:=u6 (l:=cur.toList) (vs:=vs) (off:=o) (j:=x) (by simpa using hl)
 simp only[bY] at h1
 rw[List.getElem?_toArray,h1]
 have h2:w.cell? ⟨b,x,none⟩=cur[x]? :=by simp[World.cell?,hg]
 rw[h2]
 simp
theorem xw (k:Nat) (hk:k≠b):(dY w b o vs cur).heap[k]? =w.heap[k]? :=setRow_other w b k _ hk
theorem oU:(dY w b o vs cur).heap.size=w.heap.size:=setRow_size _ _ _
theorem HI (hg:w.heap[b]? =some (.cells cur e (0,0))) (hl:o+vs.length<=cur.size):∃iw,(dY w b o vs cur).heap[b]? =some (.cells iw e (0,0))/\iw.size=cur.size:=by
 refine⟨_,setRow_heap w b cur _ e (0,0) hg,?_⟩
 simp
 omega
theorem Aq (hg:w.heap[b]? =some (.cells cur e (0,0))) (hl:o+vs.length<=cur.size):Cz w (dY w b o vs cur) b:=by
 intro arr e' h
 obtain⟨iw,h1,h2⟩:=HI (vs:=vs) (o:=o) hg hl
 rw[hg] at h
 injection h with h
 injection h with ha hb
 subst ha hb
 exact⟨iw,h1,h2⟩
theorem HJ (hg:w.heap[b]? =some (.cells cur e (0,0))) (hl:o+vs.length<=cur.size) (k:Nat) (hk:dm w k):dm (dY w b o vs cur) k:=by
 by_cases T9:k=b
 ·subst T9
  obtain⟨iw,h1,_⟩:=HI (vs:=vs) (o:=o) hg hl
  exact⟨iw,e,h1⟩
 ·exact hk.congr (xw k T9)
end
section
variable {B:Nat} {E:Ex} {w0 w w':World} {G G':Gh} {h h':Nat->Option ak} {used used':Nat->Bool} {tk:List PC} {N:Nat}
variable {P:Program} {o:Oper} {a:Act} {σ σ':St} {Q:Exit->Act->World->Prop}
theorem Dd {α:Type} (f:Nat->α) (n:Nat):aq f n (f n)=f:=by
 funext m;simp only[ik];split
 ·rename_i h;rw[h]
 ·rfl
theorem GN {t:TypeId} {i:TypeInfo} {b off:Nat} {v:Value} {cur:Array Value} {e:TypeId} (hi:P.info? t=some i) (bo:v.cells.size=i.size) (hg:w.heap[b]? =some (.cells cur e (0,0)))
  (hl:off+v.cells.size<=cur.size) (h1:∀u∈v.cells.toList,u.oneCell'=true):
  (storeVar t (ad b off) v).run P w=.ok () (dY w b off v.cells.toList cur):=by
 have lE:=run_storeCells_at P b off e v.cells.toList 0 cur w hg (by simpa using hl) h1
 simp only[Nat.add_zero] at lE
 simp[storeVar,sizeOf,typeInfo,hi,bo,ad,lE,dY]
theorem HR.qI (H:HR B E w G h used tk) {n m:Nat} {gr:Bool} {mo:Mode} {sz:Nat} {xs:List (List C)} (hn:h n≠none) (hl:(G.g n).nl=false) (hm:h m=some (.row gr mo sz xs)) {b:Nat} (hb:aN b (G.g m).px):b≠(G.g n).b:=by
 have cU:=(H.row m gr mo sz xs hm).mode
 cases mo with
 |aF=>rintro rfl;exact(H.own n hn hl).1 (cU _ hb)
 |aj=>rintro rfl;exact(H.own n hn hl).1 (cU.1 _ hb).1
 |live=>exact H.live m gr sz xs hm b hb n hn hl
theorem R.akT (r:R B E w0 N σ a w G) {n:Nat} {cs:List ae} {vs:List ae} {us:List Value} {off:Nat} (hn:σ.h n=some (.box cs)) (hv:cL w G σ.h vs us) (gE:∀c∈vs,∀m,c.ref m->σ.used m=true)
  (hl:off+vs.length<=cs.length) {cur:Array Value} {e:TypeId} (hg:w.heap[(G.g n).b]? =some (.cells cur e (0,0))) (fJ:(G.g n).o+off+us.length<=cur.size):
  R B E w0 N (σ.df n (.box (bY cs off vs))) a (dY w (G.g n).b ((G.g n).o+off) us cur) G:=by
 have H:=r.hr
 have bJ:σ.h n≠none:=by rw[hn];simp
 obtain⟨aE,qW,fI⟩:=H.box n cs hn
 obtain⟨pH,n9,pI⟩:=H.own n bJ aE
 have ub:=H.gN n bJ
 have hG:(⟨G.Im,aq G.g n (G.g n)⟩:Gh)=G:=by rw[Dd]
 have hlen:us.length=vs.length:=hv.1
 have dk:∀b,b<w.heap.size->b≠(G.g n).b->(dY w (G.g n).b ((G.g n).o+off) us cur).heap[b]? =w.heap[b]? :=fun b _ hb=>xw b hb
 have K:aQ w G σ.h (fun n=>σ.used n=true) (dY w (G.g n).b ((G.g n).o+off) us cur) G (aq σ.h n (some (.box (bY cs off vs)))):=by
  refine⟨fun _ h=>h,fun b hb x=>gL (dk b (H.fv b hb) (fun he=>pH (he▸hb))) x,fun m hm h0=>?_,fun m gr sz xs hm h0=>?_⟩
  ·by_cases br:m=n
   ·subst br;exact⟨bJ,rfl,rfl,rfl,rfl,rfl⟩
   ·rw[cd _ _ _ _ br] at h0;exact⟨h0,rfl,rfl,rfl,rfl,rfl⟩
  ·by_cases br:m=n
   ·subst br;rw[bu] at h0;cases h0
   ·rw[cd _ _ _ _ br] at h0;exact⟨⟨gr,xs,h0⟩,fun k j pc h1 h2=>⟨pc,h1,rfl,h2⟩⟩
 have Hn:HR B E (dY w (G.g n).b ((G.g n).o+off) us cur) ⟨G.Im,aq G.g n (G.g n)⟩ (aq σ.h n (some (.box (bY cs off vs)))) σ.used []:=by
  refine H.put (fun b hb av=>dk b hb (av aE)) (by rw[oU];exact Nat.le_refl _) (fun b _ hb=>HJ hg fJ b hb) (fun _ h=>h) ub (fun _=>⟨pH,n9,by rw[oU];exact pI⟩)
   (fun _ m hm h0 lA=>(H.inj m n h0 bJ hm lA aE)) (fun _ m gr sz xs hm h0 b hb=>H.live m gr sz xs h0 b hb n bJ aE) ?_ (by rw[hG];exact K) ?_
   (fun gr m sz xs hb=>by cases hb) (fun gr sz xs hb=>by cases hb) (fun gr m sz xs hb=>by cases hb) ?_
  ·intro cs' c m hb hc hm
   injection hb with hb
   subst hb
   simp only[bY,List.mem_append] at hc
   rcases hc with(hc|hc)|hc
   ·exact H.fW n cs c m hn (List.mem_of_mem_take hc) hm
   ·exact gE c hc m hm
   ·exact H.fW n cs c m hn (List.mem_of_mem_drop hc) hm
  ·rw[hG]
   refine⟨aE,HJ hg fJ _ qW,fun j c hj=>?_⟩
   rw[u6 hl] at hj
   rw[Ap hg fJ]
   by_cases fu:off<=j/\j<off+vs.length
   ·rw[if_pos fu] at hj
    rw[if_pos (by omega)]
    have pF:j - off<us.length:=by omega
    have hu:us[j - off]? =some (us[j - off]'pF):=List.getElem?_eq_getElem pF
    obtain⟨q1,q2⟩:=hv.2 _ _ _ hj hu
    refine⟨_,by rw[<-hu];congr 1;omega,q1,q2.eI K (gE c (List.mem_of_getElem? hj))⟩
   ·rw[if_neg fu] at hj
    rw[if_neg (by omega)]
    obtain⟨v,v1,v2,v3⟩:=fI j c hj
    exact⟨v,v1,v2,v3.eI K (fun m hm=>H.fW n cs c m hn (List.mem_of_getElem? hj) hm)⟩
  ·intro _ _ b hb
   obtain⟨m,gr,mo,sz,xs,hm,h0,cz⟩:=hb
   exact H.qI bJ aE h0 cz
 rw[hG] at Hn
 exact r.step (σ':=σ.df n (.box (bY cs off vs))) rfl (fun _ h=>h) K Hn (r.fr.one n9 (fun b hb av=>dk b hb av) (by rw[oU];exact Nat.le_refl _) (Aq hg fJ) rfl rfl rfl)
theorem Eg {α:Type} {px:List (List α)} {k k' j:Nat} {pe:List α} {c:α} (hk:k<px.length) (h:At (px.set k pe) k' j c):(k'=k/\pe[j]? =some c)\/(k'≠k/\At px k' j c):=by
 obtain⟨e,he,hj⟩:=h
 by_cases tV:k'=k
 ·subst tV
  rw[List.getElem?_set_self hk] at he
  injection he with he
  subst he
  exact .inl ⟨rfl,hj⟩
 ·rw[List.getElem?_set_ne (Ne.symm tV)] at he
  exact .inr ⟨tV,e,he,hj⟩
theorem PC.Wa {pc:PC} (h:pc.fR=true):pc.er.dX=false:=by
 cases pc<;>simp[PC.fR] at h
 simp[PC.du,C.dX]
theorem R.k7 (r:R B E w0 N σ a w G) {n:Nat} {gr:Bool} {m:Mode} {rs:Nat} {xs:List (List C)} {k off:Nat} {e:List C} {vs:List ae} {us:List Value} {σ2:St}
  (hn:σ.h n=some (.row gr m rs xs)) (aE:(G.g n).nl=false) (hk:xs[k]? =some e) (hv:cL w G σ.h vs us) (gE:∀c∈vs,∀m,c.ref m->σ.used m=true)
  (hx:Am.k7 σ n gr m rs xs k off e vs=some σ2) {cur:Array Value} {et:TypeId} (hg:w.heap[(G.g n).b]? =some (.cells cur et (0,0))) (fJ:(G.g n).o+k*rs+off+us.length<=cur.size):
  ∃G',R B E w0 N σ2 a (dY w (G.g n).b ((G.g n).o+k*rs+off) us cur) G':=by
 unfold Am.k7 at hx
 split at hx
 ·cases hx
 rename_i eQ eA
 obtain⟨s1,s2,s3⟩:=Ad eA
 split at hx
 ·cases hx
 rename_i cs ow σ1 Ld
 obtain⟨Im',bk,a1,a2,a3,a4,a5,a6,a7,a8⟩:=HR.eS r.hr Ld hv gE
 simp only[List.nil_append] at a4
 have H0:HR B E w ⟨Im',G.g⟩ σ1.h σ.used []:=by
  cases ow
  ·simpa using a4
  ·have ZZ:HR B E w ⟨Im',G.g⟩ σ1.h σ.used ([]++bk):=by simpa using a4
   exact ZZ.vg
 have hlen:us.length=vs.length:=hv.1
 have eH:bk.length=vs.length:=by have:=congrArg List.length a2;simp at this;omega
 have acQ:(σ1.h n).isSome=true/\∃m',σ2=σ1.df n (.row gr m' rs (xs.set k (bY e off cs)))/\
   ((m=.live/\m'=.live/\eW cs=true/\eW eQ=true)\/(m≠ .live/\m'=if ow=true then m else .aF)):=by
  split at hx
  ·rename_i hm
   split at hx
   ·rename_i hc
    injection hx with hx
    exact⟨hc.2.2,m,by rw[<-hx],.inl ⟨hm,hm,hc.1,hc.2.1⟩⟩
   ·cases hx
  ·rename_i hm
   split at hx
   ·rename_i hs
    injection hx with hx
    exact⟨hs,_,hx.symm,.inr ⟨hm,rfl⟩⟩
   ·cases hx
 obtain⟨yV,m',rfl,gj⟩:=acQ
 have lB:σ1.h n=some (.row gr m rs xs):=by
  cases hh:σ1.h n with
  |none=>rw[hh] at yV;cases yV
  |some b=>rw[<-a8 n b hh,hn]
 have bJ:σ1.h n≠none:=by rw[lB];simp
 have hr:=H0.row n gr m rs xs lB
 obtain⟨pH,n9,pI⟩:=H0.own n bJ aE
 have ub:=H0.gN n bJ
 obtain⟨l1,l2,l3⟩:=hr.dv aE
 have sD:∃pe,(G.g n).px[k]? =some pe/\pe.map PC.er=e:=by
  have sx:=hr.er
  rw[sx,List.getElem?_map] at hk
  cases hp:(G.g n).px[k]? with
  |none=>rw[hp] at hk;cases hk
  |some pe=>rw[hp] at hk;simp at hk;exact⟨pe,rfl,hk⟩
 obtain⟨pe,t7,t8⟩:=sD
 have wm:k<(G.g n).px.length:=(List.getElem?_eq_some_iff.1 t7).1
 have Fx:pe.length=rs:=l2.1 pe (List.mem_of_getElem? t7)
 have Fw:off+bk.length<=pe.length:=by rw[<-t8] at s1;simp at s1;omega
 let zL:=bY pe off bk
 let px':=(G.g n).px.set k zL
 let w2:=dY w (G.g n).b ((G.g n).o+k*rs+off) us cur
 let p':PB:=⟨false,(G.g n).b,(G.g n).o,(G.g n).cap,px',(G.g n).na⟩
 have Ug:zL.length=rs:=by show(bY pe off bk).length=rs;rw[Hk Fw,Fx]
 have bK:∀k' j c,At px' k' j c->(k'=k/\off<=j/\j<off+bk.length/\bk[j - off]? =some c)\/((k'≠k\/¬(off<=j/\j<off+bk.length))/\At (G.g n).px k' j c):=by
  intro k' j c h
  rcases Eg wm h with⟨rfl,hj⟩|⟨av,h⟩
  ·rw[u6 Fw] at hj
   by_cases fu:off<=j/\j<off+bk.length
   ·rw[if_pos fu] at hj;exact .inl ⟨rfl,fu.1,fu.2,hj⟩
   ·rw[if_neg fu] at hj;exact .inr ⟨.inr fu,pe,t7,hj⟩
  ·exact .inr ⟨.inl av,h⟩
 have acN:∀k' j c,At px' k' j c->j<rs:=by
  intro k' j c h
  obtain⟨e1,he,hj⟩:=h
  have:e1.length=rs:=by
   rcases List.mem_or_eq_of_mem_set (List.mem_of_getElem? he) with h1|h1
   ·exact l2.1 e1 h1
   ·rw[h1];exact Ug
  rw[<-this]
  exact(List.getElem?_eq_some_iff.1 hj).1
 have kK:∀b,aN b px'->aN b (G.g n).px\/∃(i:Nat) (c:PC),bk[i]? =some c/\aM b c:=by
  rintro b ⟨k',j,c,kL,hb⟩
  rcases bK k' j c kL with⟨_,_,_,hp⟩|⟨_,hp⟩
  ·exact .inr ⟨_,c,hp,hb⟩
  ·exact .inl ⟨k',j,c,hp,hb⟩
 have dk:∀b,b≠(G.g n).b->w2.heap[b]? =w.heap[b]? :=fun b hb=>xw b hb
 have KY:∀(i:Nat) (c:PC) (b:Nat),bk[i]? =some c->aM b c->Im' b:=fun i c b hi hb=>(a3 c (List.mem_of_getElem? hi)).2 b hb
 have Fc:∀b,Im' b->b≠(G.g n).b:=fun b hb he=>pH (he▸hb)
 have KV:∀b,aN b (G.g n).px->b≠(G.g n).b:=fun b hb=>H0.qI bJ aE lB hb
 have d9:mQ w2 (G.g n).b (G.g n).o rs px':=by
  refine⟨fun e1 he=>?_,fun k' j c kL=>?_,fun k' j c kL=>?_⟩
  ·rcases List.mem_or_eq_of_mem_set he with h1|h1
   ·exact l2.1 e1 h1
   ·rw[h1];exact Ug
  ·have hj:=acN k' j c kL
   show w2.cell? _=_
   rw[Ap hg fJ]
   rcases bK k' j c kL with⟨rfl,h1,h2,hp⟩|⟨av,hp⟩
   ·rw[if_pos (by omega)]
    have hu:us[j - off]? =some c.val:=by rw[<-a2,List.getElem?_map,hp];rfl
    rw[<-hu]
    congr 1
    omega
   ·rw[if_neg ?_]
    ·exact l2.2.1 k' j c hp
    ·rintro⟨q1,q2⟩
     rcases av with av|av
     ·rcases Nat.lt_or_gt_of_ne av with bB|wi
      ·have:(k'+1)*rs<=k*rs:=Nat.mul_le_mul_right _ bB
       rw[Nat.add_mul] at this
       omega
      ·have:(k+1)*rs<=k'*rs:=Nat.mul_le_mul_right _ wi
       rw[Nat.add_mul] at this
       omega
     ·have:k'=k:=by
       rcases Nat.lt_trichotomy k' k with bB|dM|wi
       ·have:(k'+1)*rs<=k*rs:=Nat.mul_le_mul_right _ bB
        rw[Nat.add_mul] at this
        omega
       ·exact dM
       ·have:(k+1)*rs<=k'*rs:=Nat.mul_le_mul_right _ wi
        rw[Nat.add_mul] at this
        omega
      subst this
      omega
  ·rcases bK k' j c kL with⟨_,_,_,hp⟩|⟨_,hp⟩
   ·exact(a3 c (List.mem_of_getElem? hp)).1.congr fun b hb x=>gL (dk b (Fc b (KY _ c b hp hb))) x
   ·exact(l2.2.2 k' j c hp).congr fun b hb x=>gL (dk b (KV b ⟨k',j,c,hp,hb⟩)) x
 have alK:(G.g n).o+k*rs+off+us.length<=cur.size:=fJ
 have ib:eW cs=true->∀(i:Nat) (c:PC) (b:Nat),bk[i]? =some c->¬aM b c:=by
  intro hs i c b hi
  have hc:c.er∈cs:=by rw[<-a1];exact List.mem_map_of_mem (List.mem_of_getElem? hi)
  exact(Sep.jI (pc:=c) (List.all_eq_true.1 hs _ hc)).2 b
 have hold:eW eQ=true->∀j c,off<=j->j<off+bk.length->pe[j]? =some c->c.er.dX=true:=by
  intro hs j c h1 h2 hj
  have:c.er∈eQ:=by
   have h3:eQ[j - off]? =some c.er:=by
    have e0:eQ[j - off]? =((e.drop off).take vs.length)[j - off]? :=congrArg (fun q:List C=>q[j - off]?) s2
    rw[e0,vd (by omega),<-t8,List.getElem?_map,show off+(j - off)=j by omega,hj]
    rfl
   exact List.mem_of_getElem? h3
  exact List.all_eq_true.1 hs _ this
 have K2:aQ w ⟨Im',G.g⟩ σ1.h (fun n=>σ.used n=true) w2 ⟨Im',aq G.g n p'⟩ (aq σ1.h n (some (.row gr m' rs (xs.set k (bY e off cs))))):=by
  refine⟨fun _ h=>h,fun b hb x=>gL (dk b (Fc b hb)) x,fun q hq h0=>?_,fun q aU aC ao hq h0=>?_⟩
  ·by_cases e7:q=n
   ·subst e7
    refine⟨bJ,?_⟩
    simp only[bu]
    exact⟨aE.symm,rfl,rfl,rfl,rfl⟩
   ·rw[cd _ _ _ _ e7] at h0
    simp only[cd _ _ _ _ e7]
    exact⟨h0,trivial,trivial,trivial,trivial,trivial⟩
  ·by_cases e7:q=n
   ·subst e7
    rw[bu] at h0
    injection h0 with h0
    injection h0 with e1 e2 e3 e4
    subst e1;subst e2;subst e3
    rcases gj with⟨hm,_,hs,Up⟩|⟨hm,bx⟩
    ·subst hm
     refine⟨⟨gr,xs,lB⟩,fun k' j pc kL hL=>?_⟩
     simp only[bu]
     refine⟨pc,?_,rfl,hL⟩
     obtain⟨e1,he,hj⟩:=kL
     by_cases tV:k'=k
     ·subst tV
      rw[t7] at he
      injection he with he
      subst he
      refine⟨zL,List.getElem?_set_self wm,?_⟩
      show(bY pe off bk)[j]? =some pc
      rw[u6 Fw]
      rw[if_neg ?_]
      ·exact hj
      ·rintro⟨q1,q2⟩
       have:=hold Up j pc q1 q2 hj
       rw[PC.Wa hL] at this
       cases this
     ·exact⟨e1,by show((G.g q).px.set k zL)[k']? =some e1;rw[List.getElem?_set_ne (Ne.symm tV)];exact he,hj⟩
    ·cases ow
     ·simp at bx
     ·simp at bx;exact absurd bx.symm hm
   ·rw[cd _ _ _ _ e7] at h0
    simp only[cd _ _ _ _ e7]
    exact⟨⟨aU,ao,h0⟩,fun k j pc h1 h2=>⟨pc,h1,rfl,h2⟩⟩
 have sI:∀b,dm w b->dm w2 b:=fun b hb=>HJ hg fJ b hb
 have KX:m'≠ .aF->(∀b,aN b px'->dm w b/\(B<=b\/E b))/\gx px'/\(m'=.aj->∀b,aN b px'->Im' b)/\(m'=.live->∀b,aN b px'->aN b (G.g n).px)/\
   (∀q aU mo aC ao,q≠n->σ1.h q=some (.row aU mo aC ao)->mo≠ .aF->∀b,aN b px'->¬aN b (G.g q).px):=by
  intro gi
  have cU:=hr.mode
  rcases gj with⟨rfl,rfl,hs,Up⟩|⟨hm,bx⟩
  ·have eA:∀b,aN b px'->aN b (G.g n).px:=fun b hb=>(kK b hb).resolve_right (fun⟨i,c,hi,hb⟩=>ib hs i c b hi hb)
   refine⟨fun b hb=>(cU.1 b (eA b hb)).2,⟨fun k' j c kL=>?_,fun k1 j1 c1 k2 j2 c2 b h1 h2 av hb=>?_⟩,(fun h=>by cases h),fun _=>eA,fun q aU mo aC ao e7 hq ia b hb=>H0.fg n q gr .live rs xs aU mo aC ao lB hq (by simp) ia (Ne.symm e7) b (eA b hb)⟩
   ·rcases bK k' j c kL with⟨_,_,_,hp⟩|⟨_,hp⟩
    ·exact Sep.CD (fun b hb=>ib hs _ c b hp hb) (a3 c (List.mem_of_getElem? hp)).1
    ·exact cU.2.1 k' j c hp
   ·rcases bK k1 j1 c1 h1 with⟨_,_,_,hp⟩|⟨_,hp⟩
    ·exact absurd hb (ib hs _ c1 b hp)
    ·rcases bK k2 j2 c2 h2 with⟨_,_,_,aX⟩|⟨_,aX⟩
     ·exact ib hs _ c2 b aX
     ·exact cU.2.2 k1 j1 c1 k2 j2 c2 b hp aX av hb
  ·cases ow
   ·simp at bx;exact absurd bx gi
   ·simp only[if_true] at bx a4
    subst bx
    have Fl:m'=.aj:=by cases m'<;>first|rfl|exact absurd rfl hm|exact absurd rfl gi
    subst Fl
    refine⟨fun b hb=>?_,⟨fun k' j c kL=>?_,fun k1 j1 c1 k2 j2 c2 b h1 h2 av hb=>?_⟩,fun _ b hb=>?_,(fun h=>by cases h),fun q aU mo aC ao e7 hq ia b hb=>?_⟩
    ·rcases kK b hb with h1|⟨i,c,hi,h1⟩
     ·exact(cU.1 b h1).2
     ·exact((a4.oQ i c hi).2 b h1).2
    ·rcases bK k' j c kL with⟨_,_,_,hp⟩|⟨_,hp⟩
     ·exact(a4.oQ _ c hp).1
     ·exact cU.2.1 k' j c hp
    ·rcases bK k1 j1 c1 h1 with⟨e1,q1,q2,hp⟩|⟨_,hp⟩
     ·rcases bK k2 j2 c2 h2 with⟨e2,q3,q4,aX⟩|⟨_,aX⟩
      ·have hZ:j1 - off≠j2 - off:=fun hh=>av (by rw[e1,e2,show j1=j2 by omega])
       exact a4.tg _ _ c1 c2 b hZ hp aX hb
      ·exact fun aL=>a4.oR _ c1 n gr .aj rs xs b hp lB (by simp) hb ⟨k2,j2,c2,aX,aL⟩
     ·rcases bK k2 j2 c2 h2 with⟨e2,q3,q4,aX⟩|⟨_,aX⟩
      ·exact fun aL=>a4.oR _ c2 n gr .aj rs xs b aX lB (by simp) aL ⟨k1,j1,c1,hp,hb⟩
      ·exact cU.2.2 k1 j1 c1 k2 j2 c2 b hp aX av hb
    ·rcases kK b hb with h1|⟨i,c,hi,h1⟩
     ·exact(cU.1 b h1).1
     ·exact KY i c b hi h1
    ·rcases kK b hb with h1|⟨i,c,hi,h1⟩
     ·exact H0.fg n q gr .aj rs xs aU mo aC ao lB hq (by simp) ia (Ne.symm e7) b h1
     ·exact a4.oR i c q aU mo aC ao b hi hq ia h1
 have Hn:HR B E w2 ⟨Im',aq G.g n p'⟩ (aq σ1.h n (some (.row gr m' rs (xs.set k (bY e off cs))))) σ.used []:=by
  refine H0.put (p:=p') (fun b hb av=>dk b (av rfl)) (by show w.heap.size<=w2.heap.size;rw[oU];exact Nat.le_refl _) (fun b _ hb=>sI b hb) (fun _ h=>h) ub
   (fun _=>⟨pH,n9,by show _<w2.heap.size;rw[oU];exact pI⟩)
   (fun _ q hq h0 lA=>(H0.inj q n h0 bJ hq lA aE)) (fun _ q aU aC ao hq h0 b hb=>H0.live q aU aC ao h0 b hb n bJ aE) (fun cs c q hb=>by cases hb) K2 ?_ ?_ ?_ (fun gr m sz xs _ _ i pc b hi=>by simp at hi) ?_
  ·refine⟨hr.pos,?_,(fun hl=>by cases hl),fun _=>⟨sI _ l1,d9,by show((G.g n).px.set k zL).length<=_;simpa using l3⟩,fun _ hgr=>?_,?_⟩
   ·show xs.set k (bY e off cs)=((G.g n).px.set k zL).map _
    rw[List.map_set,<-hr.er]
    congr 1
    show bY e off cs=(bY pe off bk).map PC.er
    rw[z6,t8,a1]
   ·obtain⟨r2,iw,e',r3,r4⟩:=hr.room aE hgr
    rw[hg] at r3
    injection r3 with r3
    injection r3 with r3 _ _
    subst r3
    obtain⟨aaV,c1,c2⟩:=HI (vs:=us) (o:=(G.g n).o+k*rs+off) hg fJ
    exact⟨r2,aaV,et,c1,by rw[c2];exact r4⟩
   ·show Az B E w2 ⟨Im',_⟩ px' m'
    by_cases gi:m'=.aF
    ·rw[gi]
     intro b hb
     rcases kK b hb with h1|⟨i,c,hi,h1⟩
     ·have cU:=hr.mode
      rcases gj with⟨_,h2,_⟩|⟨hm,_⟩
      ·rw[gi] at h2;cases h2
      ·cases m with
       |aF=>exact cU b h1
       |aj=>exact(cU.1 b h1).1
       |live=>exact absurd rfl hm
     ·exact KY i c b hi h1
    ·obtain⟨o1,o2,o3,o4,o5⟩:=KX gi
     cases m' with
     |aF=>exact absurd rfl gi
     |aj=>exact⟨fun b hb=>⟨o3 rfl b hb,sI b (o1 b hb).1,(o1 b hb).2⟩,o2⟩
     |live=>
      refine⟨fun b hb=>⟨?_,sI b (o1 b hb).1,(o1 b hb).2⟩,o2⟩
      have cU:=hr.mode
      rcases gj with⟨hm,_,_⟩|⟨hm,bx⟩
      ·subst hm;exact(cU.1 b (o4 rfl b hb)).1
      ·cases ow
       ·simp at bx
       ·simp at bx;exact absurd bx.symm hm
  ·intro aU m2 aC ao hb gi q yB mo iS gw e7 hq ia b cz
   injection hb with _ hb _ _
   subst hb
   exact(KX gi).2.2.2.2 q yB mo iS gw e7 hq ia b cz
  ·intro aU aC ao hb b cz
   injection hb with _ hb _ _
   subst hb
   have eA:=(KX (by simp)).2.2.2.1 rfl b cz
   have hm:m=.live:=by
    rcases gj with⟨hm,_,_⟩|⟨hm,bx⟩
    ·exact hm
    ·cases ow
     ·simp at bx
     ·simp at bx;exact absurd bx.symm hm
   subst hm
   exact⟨fun _=>H0.live n gr rs xs lB b eA n bJ aE,fun q e7 hq K6=>H0.live n gr rs xs lB b eA q hq K6⟩
  ·intro _ _ b hb
   obtain⟨q,aU,mo,aC,ao,hq,h0,cz⟩:=hb
   exact H0.qI bJ aE h0 cz
 refine⟨⟨Im',aq G.g n p'⟩,?_⟩
 exact r.step (σ':=σ1.df n (.row gr m' rs (xs.set k (bY e off cs)))) a6 (fun q hq=>by show σ1.used q=true;rw[a7];exact hq)
  (aQ.trans (u2:=fun n=>σ.used n=true) (fun _ h=>h) a5 K2) (by show HR B E w2 _ (aq σ1.h n _) σ1.used [];rw[a7];exact Hn) (r.fr.one n9 (fun b hb av=>dk b av) (by show w.heap.size<=w2.heap.size;rw[oU];exact Nat.le_refl _) (Aq hg fJ) rfl rfl rfl)
end
end Go.Am
