/- Am12: stores. No condition. -/
import Derived.Test.YtbgmbplglejidaaAm11
set_option linter.unusedVariables false
namespace Go.Am
theorem K7 {α:Type} {l vs:List α} {off:Nat} (h:off+vs.length<=l.length):(cu l off vs).length=l.length:=by
 simp[cu];omega
theorem xn {α:Type} {l vs:List α} {off j:Nat} (h:off+vs.length<=l.length):(cu l off vs)[j]? =if off<=j/\j<off+vs.length then vs[j - off]? else l[j]? :=by
 unfold cu
 have ht:(l.take off).length=off:=by simp;omega
 by_cases h1:j<off
 ·rw[if_neg (by omega),List.append_assoc,List.getElem?_append_left (by omega),List.getElem?_take_of_lt h1]
 ·by_cases h2:j<off+vs.length
  ·rw[if_pos ⟨by omega,h2⟩,List.append_assoc,List.getElem?_append_right (by omega),List.getElem?_append_left (by omega),ht]
  ·rw[if_neg (by omega),List.getElem?_append_right (by simp;omega),List.getElem?_drop]
   congr 1
   simp
   omega
theorem CR {α β:Type} (f:α->β) (l vs:List α) (off:Nat):(cu l off vs).map f=cu (l.map f) off (vs.map f):=by
 simp[cu,List.map_take,List.map_drop]
def eS (w:World) (b o:Nat) (vs:List Value) (cur:Array Value):World:=w.setRow b (cur.toList.take o++vs++cur.toList.drop (o+vs.length)).toArray
section
variable {w:World} {b o:Nat} {vs:List Value} {cur:Array Value} {e:TypeId}
theorem C4 (hg:w.heap[b]? =some (.cells cur e (0,0))) (hl:o+vs.length<=cur.size) (x:Nat):
  (eS w b o vs cur).cell? (ad b x)=if o<=x/\x<o+vs.length then vs[x - o]? else w.cell? (ad b x):=by
 unfold eS ad
 rw[cell_setRow_same w b x cur _ e (0,0) hg]
 have h1:=xn (l:=cur.toList) (vs:=vs) (off:=o) (j:=x) (by simpa using hl)
 simp only[cu] at h1
 rw[List.getElem?_toArray,h1]
 have h2:w.cell? ⟨b,x,none⟩=cur[x]? :=by simp[World.cell?,hg]
 rw[h2]
 simp
theorem zY (k:Nat) (hk:k≠b):(eS w b o vs cur).heap[k]? =w.heap[k]? :=setRow_other w b k _ hk
theorem rF:(eS w b o vs cur).heap.size=w.heap.size:=setRow_size _ _ _
theorem Lw (hg:w.heap[b]? =some (.cells cur e (0,0))) (hl:o+vs.length<=cur.size):∃jC,(eS w b o vs cur).heap[b]? =some (.cells jC e (0,0))/\jC.size=cur.size:=by
 refine⟨_,setRow_heap w b cur _ e (0,0) hg,?_⟩
 simp
 omega
theorem C5 (hg:w.heap[b]? =some (.cells cur e (0,0))) (hl:o+vs.length<=cur.size):Cz w (eS w b o vs cur) b:=by
 intro arr e' h
 obtain⟨jC,h1,h2⟩:=Lw (vs:=vs) (o:=o) hg hl
 rw[hg] at h
 injection h with h
 injection h with ha hb
 subst ha hb
 exact⟨jC,h1,h2⟩
theorem Lx (hg:w.heap[b]? =some (.cells cur e (0,0))) (hl:o+vs.length<=cur.size) (k:Nat) (hk:dH w k):dH (eS w b o vs cur) k:=by
 by_cases ZD:k=b
 ·subst ZD
  obtain⟨jC,h1,_⟩:=Lw (vs:=vs) (o:=o) hg hl
  exact⟨jC,e,h1⟩
 ·exact hk.congr (zY k ZD)
end
section
variable {B:Nat} {E:Ex} {w0 w w':World} {G G':Gh} {h h':Nat->Option ao} {used used':Nat->Bool} {tk:List PC} {N:Nat}
variable {P:Program} {o:Oper} {a:Act} {σ σ':St} {Q:Exit->Act->World->Prop}
theorem Gc {α:Type} (f:Nat->α) (n:Nat):av f n (f n)=f:=by
 funext m;simp only[iY];split
 ·rename_i h;rw[h]
 ·rfl
theorem KN {t:TypeId} {i:TypeInfo} {b off:Nat} {v:Value} {cur:Array Value} {e:TypeId} (hi:P.info? t=some i) (bI:v.cells.size=i.size) (hg:w.heap[b]? =some (.cells cur e (0,0)))
  (hl:off+v.cells.size<=cur.size) (h1:∀u∈v.cells.toList,u.oneCell'=true):
  (storeVar t (ad b off) v).run P w=.ok () (eS w b off v.cells.toList cur):=by
 have dA:=run_storeCells_at P b off e v.cells.toList 0 cur w hg (by simpa using hl) h1
 simp only[Nat.add_zero] at dA
 simp[storeVar,sizeOf,typeInfo,hi,bI,ad,dA,eS]
theorem HR.s9 (H:HR B E w G h used tk) {n m:Nat} {gr:Bool} {mo:Mode} {sz:Nat} {xs:List (List C)} (hn:h n≠none) (hl:(G.g n).nl=false) (hm:h m=some (.row gr mo sz xs)) {b:Nat} (hb:aX b (G.g m).px):b≠(G.g n).b:=by
 have c6:=(H.row m gr mo sz xs hm).mode
 cases mo with
 |aF=>rintro rfl;exact(H.own n hn hl).1 (c6 _ hb)
 |ab=>rintro rfl;exact(H.own n hn hl).1 (c6.1 _ hb).1
 |live=>exact H.live m gr sz xs hm b hb n hn hl
theorem R.app (r:R B E w0 N σ a w G) {n:Nat} {cs:List ah} {vs:List ah} {us:List Value} {off:Nat} (hn:σ.h n=some (.box cs)) (hv:cT w G σ.h vs us) (iN:∀c∈vs,∀m,c.ref m->σ.used m=true)
  (hl:off+vs.length<=cs.length) {cur:Array Value} {e:TypeId} (hg:w.heap[(G.g n).b]? =some (.cells cur e (0,0))) (fJ:(G.g n).o+off+us.length<=cur.size):
  R B E w0 N (σ.dB n (.box (cu cs off vs))) a (eS w (G.g n).b ((G.g n).o+off) us cur) G:=by
 have H:=r.hr
 have bP:σ.h n≠none:=by rw[hn];simp
 obtain⟨aL,tn,ii⟩:=H.box n cs hn
 obtain⟨sa,qP,sb⟩:=H.own n bP aL
 have wF:=H.iK n bP
 have hG:(⟨G.Im,av G.g n (G.g n)⟩:Gh)=G:=by rw[Gc]
 have hlen:us.length=vs.length:=hv.1
 have dQ:∀b,b<w.heap.size->b≠(G.g n).b->(eS w (G.g n).b ((G.g n).o+off) us cur).heap[b]? =w.heap[b]? :=fun b _ hb=>zY b hb
 have K:bf w G σ.h (fun n=>σ.used n=true) (eS w (G.g n).b ((G.g n).o+off) us cur) G (av σ.h n (some (.box (cu cs off vs)))):=by
  refine⟨fun _ h=>h,fun b hb x=>iJ (dQ b (H.fW b hb) (fun he=>sa (he▸hb))) x,fun m hm h0=>?_,fun m gr sz xs hm h0=>?_⟩
  ·by_cases bE:m=n
   ·subst bE;exact⟨bP,rfl,rfl,rfl,rfl,rfl⟩
   ·rw[cz _ _ _ _ bE] at h0;exact⟨h0,rfl,rfl,rfl,rfl,rfl⟩
  ·by_cases bE:m=n
   ·subst bE;rw[bG] at h0;cases h0
   ·rw[cz _ _ _ _ bE] at h0;exact⟨⟨gr,xs,h0⟩,fun k j pc h1 h2=>⟨pc,h1,rfl,h2⟩⟩
 have Hn:HR B E (eS w (G.g n).b ((G.g n).o+off) us cur) ⟨G.Im,av G.g n (G.g n)⟩ (av σ.h n (some (.box (cu cs off vs)))) σ.used []:=by
  refine H.put (fun b hb aC=>dQ b hb (aC aL)) (by rw[rF];exact Nat.le_refl _) (fun b _ hb=>Lx hg fJ b hb) (fun _ h=>h) wF (fun _=>⟨sa,qP,by rw[rF];exact sb⟩)
   (fun _ m hm h0 lm=>(H.inj m n h0 bP hm lm aL)) (fun _ m gr sz xs hm h0 b hb=>H.live m gr sz xs h0 b hb n bP aL) ?_ (by rw[hG];exact K) ?_
   (fun gr m sz xs hb=>by cases hb) (fun gr sz xs hb=>by cases hb) (fun gr m sz xs hb=>by cases hb) ?_
  ·intro cs' c m hb hc hm
   injection hb with hb
   subst hb
   simp only[cu,List.mem_append] at hc
   rcases hc with(hc|hc)|hc
   ·exact H.gV n cs c m hn (List.mem_of_mem_take hc) hm
   ·exact iN c hc m hm
   ·exact H.gV n cs c m hn (List.mem_of_mem_drop hc) hm
  ·rw[hG]
   refine⟨aL,Lx hg fJ _ tn,fun j c hj=>?_⟩
   rw[xn hl] at hj
   rw[C4 hg fJ]
   by_cases fT:off<=j/\j<off+vs.length
   ·rw[if_pos fT] at hj
    rw[if_pos (by omega)]
    have mX:j - off<us.length:=by omega
    have hu:us[j - off]? =some (us[j - off]'mX):=List.getElem?_eq_getElem mX
    obtain⟨q1,q2⟩:=hv.2 _ _ _ hj hu
    refine⟨_,by rw[<-hu];congr 1;omega,q1,q2.ff K (iN c (List.mem_of_getElem? hj))⟩
   ·rw[if_neg fT] at hj
    rw[if_neg (by omega)]
    obtain⟨v,v1,v2,v3⟩:=ii j c hj
    exact⟨v,v1,v2,v3.ff K (fun m hm=>H.gV n cs c m hn (List.mem_of_getElem? hj) hm)⟩
  ·intro _ _ b hb
   obtain⟨m,gr,mo,sz,xs,hm,h0,cH⟩:=hb
   exact H.s9 bP aL h0 cH
 rw[hG] at Hn
 exact r.step (σ':=σ.dB n (.box (cu cs off vs))) rfl (fun _ h=>h) K Hn (r.fr.one qP (fun b hb aC=>dQ b hb aC) (by rw[rF];exact Nat.le_refl _) (C5 hg fJ) rfl rfl rfl)
theorem Ie {α:Type} {px:List (List α)} {k k' j:Nat} {pe:List α} {c:α} (hk:k<px.length) (h:At (px.set k pe) k' j c):(k'=k/\pe[j]? =some c)\/(k'≠k/\At px k' j c):=by
 obtain⟨e,he,hj⟩:=h
 by_cases wv:k'=k
 ·subst wv
  rw[List.getElem?_set_self hk] at he
  injection he with he
  subst he
  exact .inl ⟨rfl,hj⟩
 ·rw[List.getElem?_set_ne (Ne.symm wv)] at he
  exact .inr ⟨wv,e,he,hj⟩
theorem PC.aau {pc:PC} (h:pc.gL=true):pc.er.eR=false:=by
 cases pc<;>simp[PC.gL] at h
 simp[PC.dO,C.eR]
theorem R.nw (r:R B E w0 N σ a w G) {n:Nat} {gr:Bool} {m:Mode} {rs:Nat} {xs:List (List C)} {k off:Nat} {e:List C} {vs:List ah} {us:List Value} {σ2:St}
  (hn:σ.h n=some (.row gr m rs xs)) (aL:(G.g n).nl=false) (hk:xs[k]? =some e) (hv:cT w G σ.h vs us) (iN:∀c∈vs,∀m,c.ref m->σ.used m=true)
  (hx:Am.nw σ n gr m rs xs k off e vs=some σ2) {cur:Array Value} {et:TypeId} (hg:w.heap[(G.g n).b]? =some (.cells cur et (0,0))) (fJ:(G.g n).o+k*rs+off+us.length<=cur.size):
  ∃G',R B E w0 N σ2 a (eS w (G.g n).b ((G.g n).o+k*rs+off) us cur) G':=by
 unfold Am.nw at hx
 split at hx
 ·cases hx
 rename_i fu eX
 obtain⟨s1,s2,s3⟩:=F4 eX
 split at hx
 ·cases hx
 rename_i cs ow σ1 PM
 obtain⟨Im',bw,a1,a2,a3,a4,a5,a6,a7,a8⟩:=HR.fv r.hr PM hv iN
 simp only[List.nil_append] at a4
 have H0:HR B E w ⟨Im',G.g⟩ σ1.h σ.used []:=by
  cases ow
  ·simpa using a4
  ·have a4':HR B E w ⟨Im',G.g⟩ σ1.h σ.used ([]++bw):=by simpa using a4
   exact a4'.xu
 have hlen:us.length=vs.length:=hv.1
 have fK:bw.length=vs.length:=by have:=congrArg List.length a2;simp at this;omega
 have OY:(σ1.h n).isSome=true/\∃m',σ2=σ1.dB n (.row gr m' rs (xs.set k (cu e off cs)))/\
   ((m=.live/\m'=.live/\fA cs=true/\fA fu=true)\/(m≠ .live/\m'=if ow=true then m else .aF)):=by
  split at hx
  ·rename_i hm
   split at hx
   ·rename_i hc
    injection hx with hx
    exact⟨hc.2.2,m,by rw[<-hx],.inl ⟨hm,hm,hc.1,hc.2.1⟩⟩
   ·cases hx
  ·rename_i hm
   split at hx
   ·rename_i hs
    injection hx with hx
    exact⟨hs,_,hx.symm,.inr ⟨hm,rfl⟩⟩
   ·cases hx
 obtain⟨BG,m',rfl,gf⟩:=OY
 have mZ:σ1.h n=some (.row gr m rs xs):=by
  cases hh:σ1.h n with
  |none=>rw[hh] at BG;cases BG
  |some b=>rw[<-a8 n b hh,hn]
 have bP:σ1.h n≠none:=by rw[mZ];simp
 have hr:=H0.row n gr m rs xs mZ
 obtain⟨sa,qP,sb⟩:=H0.own n bP aL
 have wF:=H0.iK n bP
 obtain⟨l1,l2,l3⟩:=hr.dV aL
 have tj:∃pe,(G.g n).px[k]? =some pe/\pe.map PC.er=e:=by
  have uC:=hr.er
  rw[uC,List.getElem?_map] at hk
  cases hp:(G.g n).px[k]? with
  |none=>rw[hp] at hk;cases hk
  |some pe=>rw[hp] at hk;simp at hk;exact⟨pe,rfl,hk⟩
 obtain⟨pe,wA,wB⟩:=tj
 have iM:k<(G.g n).px.length:=(List.getElem?_eq_some_iff.1 wA).1
 have JC:pe.length=rs:=l2.1 pe (List.mem_of_getElem? wA)
 have BB:off+bw.length<=pe.length:=by rw[<-wB] at s1;simp at s1;omega
 let Cv:=cu pe off bw
 let px':=(G.g n).px.set k Cv
 let w2:=eS w (G.g n).b ((G.g n).o+k*rs+off) us cur
 let p':PB:=⟨false,(G.g n).b,(G.g n).o,(G.g n).cap,px',(G.g n).na⟩
 have ZP:Cv.length=rs:=by show(cu pe off bw).length=rs;rw[K7 BB,JC]
 have bU:∀k' j c,At px' k' j c->(k'=k/\off<=j/\j<off+bw.length/\bw[j - off]? =some c)\/((k'≠k\/¬(off<=j/\j<off+bw.length))/\At (G.g n).px k' j c):=by
  intro k' j c h
  rcases Ie iM h with⟨rfl,hj⟩|⟨aC,h⟩
  ·rw[xn BB] at hj
   by_cases fT:off<=j/\j<off+bw.length
   ·rw[if_pos fT] at hj;exact .inl ⟨rfl,fT.1,fT.2,hj⟩
   ·rw[if_neg fT] at hj;exact .inr ⟨.inr fT,pe,wA,hj⟩
  ·exact .inr ⟨.inl aC,h⟩
 have ahH:∀k' j c,At px' k' j c->j<rs:=by
  intro k' j c h
  obtain⟨e1,he,hj⟩:=h
  have:e1.length=rs:=by
   rcases List.mem_or_eq_of_mem_set (List.mem_of_getElem? he) with h1|h1
   ·exact l2.1 e1 h1
   ·rw[h1];exact ZP
  rw[<-this]
  exact(List.getElem?_eq_some_iff.1 hj).1
 have nM:∀b,aX b px'->aX b (G.g n).px\/∃(i:Nat) (c:PC),bw[i]? =some c/\aT b c:=by
  rintro b ⟨k',j,c,mY,hb⟩
  rcases bU k' j c mY with⟨_,_,_,hp⟩|⟨_,hp⟩
  ·exact .inr ⟨_,c,hp,hb⟩
  ·exact .inl ⟨k',j,c,hp,hb⟩
 have dQ:∀b,b≠(G.g n).b->w2.heap[b]? =w.heap[b]? :=fun b hb=>zY b hb
 have Pz:∀(i:Nat) (c:PC) (b:Nat),bw[i]? =some c->aT b c->Im' b:=fun i c b hi hb=>(a3 c (List.mem_of_getElem? hi)).2 b hb
 have Jj:∀b,Im' b->b≠(G.g n).b:=fun b hb he=>sa (he▸hb)
 have Pw:∀b,aX b (G.g n).px->b≠(G.g n).b:=fun b hb=>H0.s9 bP aL mZ hb
 have eW:pg w2 (G.g n).b (G.g n).o rs px':=by
  refine⟨fun e1 he=>?_,fun k' j c mY=>?_,fun k' j c mY=>?_⟩
  ·rcases List.mem_or_eq_of_mem_set he with h1|h1
   ·exact l2.1 e1 h1
   ·rw[h1];exact ZP
  ·have hj:=ahH k' j c mY
   show w2.cell? _=_
   rw[C4 hg fJ]
   rcases bU k' j c mY with⟨rfl,h1,h2,hp⟩|⟨aC,hp⟩
   ·rw[if_pos (by omega)]
    have hu:us[j - off]? =some c.val:=by rw[<-a2,List.getElem?_map,hp];rfl
    rw[<-hu]
    congr 1
    omega
   ·rw[if_neg ?_]
    ·exact l2.2.1 k' j c hp
    ·rintro⟨q1,q2⟩
     rcases aC with aC|aC
     ·rcases Nat.lt_or_gt_of_ne aC with bH|yE
      ·have:(k'+1)*rs<=k*rs:=Nat.mul_le_mul_right _ bH
       rw[Nat.add_mul] at this
       omega
      ·have:(k+1)*rs<=k'*rs:=Nat.mul_le_mul_right _ yE
       rw[Nat.add_mul] at this
       omega
     ·have:k'=k:=by
       rcases Nat.lt_trichotomy k' k with bH|ef|yE
       ·have:(k'+1)*rs<=k*rs:=Nat.mul_le_mul_right _ bH
        rw[Nat.add_mul] at this
        omega
       ·exact ef
       ·have:(k+1)*rs<=k'*rs:=Nat.mul_le_mul_right _ yE
        rw[Nat.add_mul] at this
        omega
      subst this
      omega
  ·rcases bU k' j c mY with⟨_,_,_,hp⟩|⟨_,hp⟩
   ·exact(a3 c (List.mem_of_getElem? hp)).1.congr fun b hb x=>iJ (dQ b (Jj b (Pz _ c b hp hb))) x
   ·exact(l2.2.2 k' j c hp).congr fun b hb x=>iJ (dQ b (Pw b ⟨k',j,c,hp,hb⟩)) x
 have aqd:(G.g n).o+k*rs+off+us.length<=cur.size:=fJ
 have jh:fA cs=true->∀(i:Nat) (c:PC) (b:Nat),bw[i]? =some c->¬aT b c:=by
  intro hs i c b hi
  have hc:c.er∈cs:=by rw[<-a1];exact List.mem_map_of_mem (List.mem_of_getElem? hi)
  exact(Sep.lF (pc:=c) (List.all_eq_true.1 hs _ hc)).2 b
 have hold:fA fu=true->∀j c,off<=j->j<off+bw.length->pe[j]? =some c->c.er.eR=true:=by
  intro hs j c h1 h2 hj
  have:c.er∈fu:=by
   have h3:fu[j - off]? =some c.er:=by
    have e0:fu[j - off]? =((e.drop off).take vs.length)[j - off]? :=congrArg (fun q:List C=>q[j - off]?) s2
    rw[e0,CW (by omega),<-wB,List.getElem?_map,show off+(j - off)=j by omega,hj]
    rfl
   exact List.mem_of_getElem? h3
  exact List.all_eq_true.1 hs _ this
 have K2:bf w ⟨Im',G.g⟩ σ1.h (fun n=>σ.used n=true) w2 ⟨Im',av G.g n p'⟩ (av σ1.h n (some (.row gr m' rs (xs.set k (cu e off cs))))):=by
  refine⟨fun _ h=>h,fun b hb x=>iJ (dQ b (Jj b hb)) x,fun q hq h0=>?_,fun q bm aJ aq hq h0=>?_⟩
  ·by_cases fE:q=n
   ·subst fE
    refine⟨bP,?_⟩
    simp only[bG]
    exact⟨aL.symm,rfl,rfl,rfl,rfl⟩
   ·rw[cz _ _ _ _ fE] at h0
    simp only[cz _ _ _ _ fE]
    exact⟨h0,trivial,trivial,trivial,trivial,trivial⟩
  ·by_cases fE:q=n
   ·subst fE
    rw[bG] at h0
    injection h0 with h0
    injection h0 with e1 e2 e3 e4
    subst e1;subst e2;subst e3
    rcases gf with⟨hm,_,hs,ZZ⟩|⟨hm,bM⟩
    ·subst hm
     refine⟨⟨gr,xs,mZ⟩,fun k' j pc mY hL=>?_⟩
     simp only[bG]
     refine⟨pc,?_,rfl,hL⟩
     obtain⟨e1,he,hj⟩:=mY
     by_cases wv:k'=k
     ·subst wv
      rw[wA] at he
      injection he with he
      subst he
      refine⟨Cv,List.getElem?_set_self iM,?_⟩
      show(cu pe off bw)[j]? =some pc
      rw[xn BB]
      rw[if_neg ?_]
      ·exact hj
      ·rintro⟨q1,q2⟩
       have:=hold ZZ j pc q1 q2 hj
       rw[PC.aau hL] at this
       cases this
     ·exact⟨e1,by show((G.g q).px.set k Cv)[k']? =some e1;rw[List.getElem?_set_ne (Ne.symm wv)];exact he,hj⟩
    ·cases ow
     ·simp at bM
     ·simp at bM;exact absurd bM.symm hm
   ·rw[cz _ _ _ _ fE] at h0
    simp only[cz _ _ _ _ fE]
    exact⟨⟨bm,aq,h0⟩,fun k j pc h1 h2=>⟨pc,h1,rfl,h2⟩⟩
 have uO:∀b,dH w b->dH w2 b:=fun b hb=>Lx hg fJ b hb
 have Py:m'≠ .aF->(∀b,aX b px'->dH w b/\(B<=b\/E b))/\iy px'/\(m'=.ab->∀b,aX b px'->Im' b)/\(m'=.live->∀b,aX b px'->aX b (G.g n).px)/\
   (∀q bm mo aJ aq,q≠n->σ1.h q=some (.row bm mo aJ aq)->mo≠ .aF->∀b,aX b px'->¬aX b (G.g q).px):=by
  intro ik
  have c6:=hr.mode
  rcases gf with⟨rfl,rfl,hs,ZZ⟩|⟨hm,bM⟩
  ·have eX:∀b,aX b px'->aX b (G.g n).px:=fun b hb=>(nM b hb).resolve_right (fun⟨i,c,hi,hb⟩=>jh hs i c b hi hb)
   refine⟨fun b hb=>(c6.1 b (eX b hb)).2,⟨fun k' j c mY=>?_,fun k1 j1 c1 k2 j2 c2 b h1 h2 aC hb=>?_⟩,(fun h=>by cases h),fun _=>eX,fun q bm mo aJ aq fE hq jg b hb=>H0.fI n q gr .live rs xs bm mo aJ aq mZ hq (by simp) jg (Ne.symm fE) b (eX b hb)⟩
   ·rcases bU k' j c mY with⟨_,_,_,hp⟩|⟨_,hp⟩
    ·exact Sep.Fg (fun b hb=>jh hs _ c b hp hb) (a3 c (List.mem_of_getElem? hp)).1
    ·exact c6.2.1 k' j c hp
   ·rcases bU k1 j1 c1 h1 with⟨_,_,_,hp⟩|⟨_,hp⟩
    ·exact absurd hb (jh hs _ c1 b hp)
    ·rcases bU k2 j2 c2 h2 with⟨_,_,_,bj⟩|⟨_,bj⟩
     ·exact jh hs _ c2 b bj
     ·exact c6.2.2 k1 j1 c1 k2 j2 c2 b hp bj aC hb
  ·cases ow
   ·simp at bM;exact absurd bM ik
   ·simp only[if_true] at bM a4
    subst bM
    have Jv:m'=.ab:=by cases m'<;>first|rfl|exact absurd rfl hm|exact absurd rfl ik
    subst Jv
    refine⟨fun b hb=>?_,⟨fun k' j c mY=>?_,fun k1 j1 c1 k2 j2 c2 b h1 h2 aC hb=>?_⟩,fun _ b hb=>?_,(fun h=>by cases h),fun q bm mo aJ aq fE hq jg b hb=>?_⟩
    ·rcases nM b hb with h1|⟨i,c,hi,h1⟩
     ·exact(c6.1 b h1).2
     ·exact((a4.rC i c hi).2 b h1).2
    ·rcases bU k' j c mY with⟨_,_,_,hp⟩|⟨_,hp⟩
     ·exact(a4.rC _ c hp).1
     ·exact c6.2.1 k' j c hp
    ·rcases bU k1 j1 c1 h1 with⟨e1,q1,q2,hp⟩|⟨_,hp⟩
     ·rcases bU k2 j2 c2 h2 with⟨e2,q3,q4,bj⟩|⟨_,bj⟩
      ·have jG:j1 - off≠j2 - off:=fun hh=>aC (by rw[e1,e2,show j1=j2 by omega])
       exact a4.vr _ _ c1 c2 b jG hp bj hb
      ·exact fun aY=>a4.rD _ c1 n gr .ab rs xs b hp mZ (by simp) hb ⟨k2,j2,c2,bj,aY⟩
     ·rcases bU k2 j2 c2 h2 with⟨e2,q3,q4,bj⟩|⟨_,bj⟩
      ·exact fun aY=>a4.rD _ c2 n gr .ab rs xs b bj mZ (by simp) aY ⟨k1,j1,c1,hp,hb⟩
      ·exact c6.2.2 k1 j1 c1 k2 j2 c2 b hp bj aC hb
    ·rcases nM b hb with h1|⟨i,c,hi,h1⟩
     ·exact(c6.1 b h1).1
     ·exact Pz i c b hi h1
    ·rcases nM b hb with h1|⟨i,c,hi,h1⟩
     ·exact H0.fI n q gr .ab rs xs bm mo aJ aq mZ hq (by simp) jg (Ne.symm fE) b h1
     ·exact a4.rD i c q bm mo aJ aq b hi hq jg h1
 have Hn:HR B E w2 ⟨Im',av G.g n p'⟩ (av σ1.h n (some (.row gr m' rs (xs.set k (cu e off cs))))) σ.used []:=by
  refine H0.put (p:=p') (fun b hb aC=>dQ b (aC rfl)) (by show w.heap.size<=w2.heap.size;rw[rF];exact Nat.le_refl _) (fun b _ hb=>uO b hb) (fun _ h=>h) wF
   (fun _=>⟨sa,qP,by show _<w2.heap.size;rw[rF];exact sb⟩)
   (fun _ q hq h0 lm=>(H0.inj q n h0 bP hq lm aL)) (fun _ q bm aJ aq hq h0 b hb=>H0.live q bm aJ aq h0 b hb n bP aL) (fun cs c q hb=>by cases hb) K2 ?_ ?_ ?_ (fun gr m sz xs _ _ i pc b hi=>by simp at hi) ?_
  ·refine⟨hr.pos,?_,(fun hl=>by cases hl),fun _=>⟨uO _ l1,eW,by show((G.g n).px.set k Cv).length<=_;simpa using l3⟩,fun _ hgr=>?_,?_⟩
   ·show xs.set k (cu e off cs)=((G.g n).px.set k Cv).map _
    rw[List.map_set,<-hr.er]
    congr 1
    show cu e off cs=(cu pe off bw).map PC.er
    rw[CR,wB,a1]
   ·obtain⟨r2,jC,e',r3,r4⟩:=hr.room aL hgr
    rw[hg] at r3
    injection r3 with r3
    injection r3 with r3 _ _
    subst r3
    obtain⟨afe,c1,c2⟩:=Lw (vs:=us) (o:=(G.g n).o+k*rs+off) hg fJ
    exact⟨r2,afe,et,c1,by rw[c2];exact r4⟩
   ·show Dg B E w2 ⟨Im',_⟩ px' m'
    by_cases ik:m'=.aF
    ·rw[ik]
     intro b hb
     rcases nM b hb with h1|⟨i,c,hi,h1⟩
     ·have c6:=hr.mode
      rcases gf with⟨_,h2,_⟩|⟨hm,_⟩
      ·rw[ik] at h2;cases h2
      ·cases m with
       |aF=>exact c6 b h1
       |ab=>exact(c6.1 b h1).1
       |live=>exact absurd rfl hm
     ·exact Pz i c b hi h1
    ·obtain⟨o1,o2,o3,o4,o5⟩:=Py ik
     cases m' with
     |aF=>exact absurd rfl ik
     |ab=>exact⟨fun b hb=>⟨o3 rfl b hb,uO b (o1 b hb).1,(o1 b hb).2⟩,o2⟩
     |live=>
      refine⟨fun b hb=>⟨?_,uO b (o1 b hb).1,(o1 b hb).2⟩,o2⟩
      have c6:=hr.mode
      rcases gf with⟨hm,_,_⟩|⟨hm,bM⟩
      ·subst hm;exact(c6.1 b (o4 rfl b hb)).1
      ·cases ow
       ·simp at bM
       ·simp at bM;exact absurd bM.symm hm
  ·intro bm m2 aJ aq hb ik q Bk mo ko iw fE hq jg b cH
   injection hb with _ hb _ _
   subst hb
   exact(Py ik).2.2.2.2 q Bk mo ko iw fE hq jg b cH
  ·intro bm aJ aq hb b cH
   injection hb with _ hb _ _
   subst hb
   have eX:=(Py (by simp)).2.2.2.1 rfl b cH
   have hm:m=.live:=by
    rcases gf with⟨hm,_,_⟩|⟨hm,bM⟩
    ·exact hm
    ·cases ow
     ·simp at bM
     ·simp at bM;exact absurd bM.symm hm
   subst hm
   exact⟨fun _=>H0.live n gr rs xs mZ b eX n bP aL,fun q fE hq PH=>H0.live n gr rs xs mZ b eX q hq PH⟩
  ·intro _ _ b hb
   obtain⟨q,bm,mo,aJ,aq,hq,h0,cH⟩:=hb
   exact H0.s9 bP aL h0 cH
 refine⟨⟨Im',av G.g n p'⟩,?_⟩
 exact r.step (σ':=σ1.dB n (.row gr m' rs (xs.set k (cu e off cs)))) a6 (fun q hq=>by show σ1.used q=true;rw[a7];exact hq)
  (bf.trans (u2:=fun n=>σ.used n=true) (fun _ h=>h) a5 K2) (by show HR B E w2 _ (av σ1.h n _) σ1.used [];rw[a7];exact Hn) (r.fr.one qP (fun b hb aC=>dQ b aC) (by show w.heap.size<=w2.heap.size;rw[rF];exact Nat.le_refl _) (C5 hg fJ) rfl rfl rfl)
end
end Go.Am
