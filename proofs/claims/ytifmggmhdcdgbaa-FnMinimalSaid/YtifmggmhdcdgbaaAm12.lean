/- Am12: stores. No condition. -/
import Derived.Test.YtifmggmhdcdgbaaAm11
set_option linter.unusedVariables false
namespace Go.Am
theorem IK {α:Type} {l vs:List α} {off:Nat} (h:off+vs.length<=l.length):(bW l off vs).length=l.length:=by
 simp[bW];omega
theorem wb {α:Type} {l vs:List α} {off j:Nat} (h:off+vs.length<=l.length):(bW l off vs)[j]? =if off<=j/\j<off+vs.length then vs[j - off]? else l[j]? :=by
 unfold bW
 have ht:(l.take off).length=off:=by simp;omega
 by_cases h1:j<off
 ·rw[if_neg (by omega),List.append_assoc,List.getElem?_append_left (by omega),List.getElem?_take_of_lt h1]
 ·by_cases h2:j<off+vs.length
  ·rw[if_pos ⟨by omega,h2⟩,List.append_assoc,List.getElem?_append_right (by omega),List.getElem?_append_left (by omega),ht]
  ·rw[if_neg (by omega),List.getElem?_append_right (by simp;omega),List.getElem?_drop]
   congr 1
   simp
   omega
theorem Bo {α β:Type} (f:α->β) (l vs:List α) (off:Nat):(bW l off vs).map f=bW (l.map f) off (vs.map f):=by
 simp[bW,List.map_take,List.map_drop]
def dU (w:World) (b o:Nat) (vs:List Value) (cur:Array Value):World:=w.setRow b (cur.toList.take o++vs++cur.toList.drop (o+vs.length)).toArray
section
variable {w:World} {b o:Nat} {vs:List Value} {cur:Array Value} {e:TypeId}
theorem BD (hg:w.heap[b]? =some (.cells cur e (0,0))) (hl:o+vs.length<=cur.size) (x:Nat):
  (dU w b o vs cur).cell? (ad b x)=if o<=x/\x<o+vs.length then vs[x - o]? else w.cell? (ad b x):=by
 unfold dU ad
 rw[cell_setRow_same w b x cur _ e (0,0) hg]
 have h1:=wb (l:=cur.toList) (vs:=vs) (off:=o) (j:=x) (by simpa using hl)
 simp only[bW] at h1
 rw[List.getElem?_toArray,h1]
 have h2:w.cell? ⟨b,x,none⟩=cur[x]? :=by simp[World.cell?,hg]
 rw[h2]
 simp
theorem yP (k:Nat) (hk:k≠b):(dU w b o vs cur).heap[k]? =w.heap[k]? :=setRow_other w b k _ hk
theorem qe:(dU w b o vs cur).heap.size=w.heap.size:=setRow_size _ _ _
theorem Jf (hg:w.heap[b]? =some (.cells cur e (0,0))) (hl:o+vs.length<=cur.size):∃iO,(dU w b o vs cur).heap[b]? =some (.cells iO e (0,0))/\iO.size=cur.size:=by
 refine⟨_,setRow_heap w b cur _ e (0,0) hg,?_⟩
 simp
 omega
theorem BE (hg:w.heap[b]? =some (.cells cur e (0,0))) (hl:o+vs.length<=cur.size):Cz w (dU w b o vs cur) b:=by
 intro arr e' h
 obtain⟨iO,h1,h2⟩:=Jf (vs:=vs) (o:=o) hg hl
 rw[hg] at h
 injection h with h
 injection h with ha hb
 subst ha hb
 exact⟨iO,h1,h2⟩
theorem Jg (hg:w.heap[b]? =some (.cells cur e (0,0))) (hl:o+vs.length<=cur.size) (k:Nat) (hk:dk w k):dk (dU w b o vs cur) k:=by
 by_cases Vx:k=b
 ·subst Vx
  obtain⟨iO,h1,_⟩:=Jf (vs:=vs) (o:=o) hg hl
  exact⟨iO,e,h1⟩
 ·exact hk.congr (yP k Vx)
end
section
variable {B:Nat} {E:Ex} {w0 w w':World} {G G':Gh} {h h':Nat->Option aq} {used used':Nat->Bool} {tk:List PC} {N:Nat}
variable {P:Program} {o:Oper} {a:Act} {σ σ':St} {Q:Exit->Act->World->Prop}
theorem Eo {α:Type} (f:Nat->α) (n:Nat):au f n (f n)=f:=by
 funext m;simp only[iK];split
 ·rename_i h;rw[h]
 ·rfl
theorem Iw {t:TypeId} {i:TypeInfo} {b off:Nat} {v:Value} {cur:Array Value} {e:TypeId} (hi:P.info? t=some i) (bE:v.cells.size=i.size) (hg:w.heap[b]? =some (.cells cur e (0,0)))
  (hl:off+v.cells.size<=cur.size) (h1:∀u∈v.cells.toList,u.oneCell'=true):
  (storeVar t (ad b off) v).run P w=.ok () (dU w b off v.cells.toList cur):=by
 have mL:=run_storeCells_at P b off e v.cells.toList 0 cur w hg (by simpa using hl) h1
 simp only[Nat.add_zero] at mL
 simp[storeVar,sizeOf,typeInfo,hi,bE,ad,mL,dU]
theorem HR.rK (H:HR B E w G h used tk) {n m:Nat} {gr:Bool} {mo:Mode} {sz:Nat} {xs:List (List C)} (hn:h n≠none) (hl:(G.g n).nl=false) (hm:h m=some (.row gr mo sz xs)) {b:Nat} (hb:aP b (G.g m).px):b≠(G.g n).b:=by
 have cR:=(H.row m gr mo sz xs hm).mode
 cases mo with
 |aA=>rintro rfl;exact(H.own n hn hl).1 (cR _ hb)
 |ae=>rintro rfl;exact(H.own n hn hl).1 (cR.1 _ hb).1
 |live=>exact H.live m gr sz xs hm b hb n hn hl
theorem R.aky (r:R B E w0 N σ a w G) {n:Nat} {cs:List ai} {vs:List ai} {us:List Value} {off:Nat} (hn:σ.h n=some (.box cs)) (hv:cA w G σ.h vs us) (ic:∀c∈vs,∀m,c.ref m->σ.used m=true)
  (hl:off+vs.length<=cs.length) {cur:Array Value} {e:TypeId} (hg:w.heap[(G.g n).b]? =some (.cells cur e (0,0))) (gD:(G.g n).o+off+us.length<=cur.size):
  R B E w0 N (σ.dd n (.box (bW cs off vs))) a (dU w (G.g n).b ((G.g n).o+off) us cur) G:=by
 have H:=r.hr
 have bM:σ.h n≠none:=by rw[hn];simp
 obtain⟨aK,rY,gC⟩:=H.box n cs hn
 obtain⟨qE,po,qF⟩:=H.own n bM aK
 have vj:=H.iA n bM
 have hG:(⟨G.Im,au G.g n (G.g n)⟩:Gh)=G:=by rw[Eo]
 have hlen:us.length=vs.length:=hv.1
 have ez:∀b,b<w.heap.size->b≠(G.g n).b->(dU w (G.g n).b ((G.g n).o+off) us cur).heap[b]? =w.heap[b]? :=fun b _ hb=>yP b hb
 have K:aT w G σ.h (fun n=>σ.used n=true) (dU w (G.g n).b ((G.g n).o+off) us cur) G (au σ.h n (some (.box (bW cs off vs)))):=by
  refine⟨fun _ h=>h,fun b hb x=>hZ (ez b (H.fx b hb) (fun he=>qE (he▸hb))) x,fun m hm h0=>?_,fun m gr sz xs hm h0=>?_⟩
  ·by_cases bB:m=n
   ·subst bB;exact⟨bM,rfl,rfl,rfl,rfl,rfl⟩
   ·rw[cb _ _ _ _ bB] at h0;exact⟨h0,rfl,rfl,rfl,rfl,rfl⟩
  ·by_cases bB:m=n
   ·subst bB;rw[bC] at h0;cases h0
   ·rw[cb _ _ _ _ bB] at h0;exact⟨⟨gr,xs,h0⟩,fun k j pc h1 h2=>⟨pc,h1,rfl,h2⟩⟩
 have Hn:HR B E (dU w (G.g n).b ((G.g n).o+off) us cur) ⟨G.Im,au G.g n (G.g n)⟩ (au σ.h n (some (.box (bW cs off vs)))) σ.used []:=by
  refine H.put (fun b hb aw=>ez b hb (aw aK)) (by rw[qe];exact Nat.le_refl _) (fun b _ hb=>Jg hg gD b hb) (fun _ h=>h) vj (fun _=>⟨qE,po,by rw[qe];exact qF⟩)
   (fun _ m hm h0 kq=>(H.inj m n h0 bM hm kq aK)) (fun _ m gr sz xs hm h0 b hb=>H.live m gr sz xs h0 b hb n bM aK) ?_ (by rw[hG];exact K) ?_
   (fun gr m sz xs hb=>by cases hb) (fun gr sz xs hb=>by cases hb) (fun gr m sz xs hb=>by cases hb) ?_
  ·intro cs' c m hb hc hm
   injection hb with hb
   subst hb
   simp only[bW,List.mem_append] at hc
   rcases hc with(hc|hc)|hc
   ·exact H.gi n cs c m hn (List.mem_of_mem_take hc) hm
   ·exact ic c hc m hm
   ·exact H.gi n cs c m hn (List.mem_of_mem_drop hc) hm
  ·rw[hG]
   refine⟨aK,Jg hg gD _ rY,fun j c hj=>?_⟩
   rw[wb hl] at hj
   rw[BD hg gD]
   by_cases eo:off<=j/\j<off+vs.length
   ·rw[if_pos eo] at hj
    rw[if_pos (by omega)]
    have tu:j - off<us.length:=by omega
    have hu:us[j - off]? =some (us[j - off]'tu):=List.getElem?_eq_getElem tu
    obtain⟨q1,q2⟩:=hv.2 _ _ _ hj hu
    refine⟨_,by rw[<-hu];congr 1;omega,q1,q2.eI K (ic c (List.mem_of_getElem? hj))⟩
   ·rw[if_neg eo] at hj
    rw[if_neg (by omega)]
    obtain⟨v,v1,v2,v3⟩:=gC j c hj
    exact⟨v,v1,v2,v3.eI K (fun m hm=>H.gi n cs c m hn (List.mem_of_getElem? hj) hm)⟩
  ·intro _ _ b hb
   obtain⟨m,gr,mo,sz,xs,hm,h0,cq⟩:=hb
   exact H.rK bM aK h0 cq
 rw[hG] at Hn
 exact r.step (σ':=σ.dd n (.box (bW cs off vs))) rfl (fun _ h=>h) K Hn (r.fr.one po (fun b hb aw=>ez b hb aw) (by rw[qe];exact Nat.le_refl _) (BE hg gD) rfl rfl rfl)
theorem FQ {α:Type} {px:List (List α)} {k k' j:Nat} {pe:List α} {c:α} (hk:k<px.length) (h:At (px.set k pe) k' j c):(k'=k/\pe[j]? =some c)\/(k'≠k/\At px k' j c):=by
 obtain⟨e,he,hj⟩:=h
 by_cases rR:k'=k
 ·subst rR
  rw[List.getElem?_set_self hk] at he
  injection he with he
  subst he
  exact .inl ⟨rfl,hj⟩
 ·rw[List.getElem?_set_ne (Ne.symm rR)] at he
  exact .inr ⟨rR,e,he,hj⟩
theorem PC.WT {pc:PC} (h:pc.f7=true):pc.er.dT=false:=by
 cases pc<;>simp[PC.f7] at h
 simp[PC.dr,C.dT]
theorem R.mn (r:R B E w0 N σ a w G) {n:Nat} {gr:Bool} {m:Mode} {rs:Nat} {xs:List (List C)} {k off:Nat} {e:List C} {vs:List ai} {us:List Value} {σ2:St}
  (hn:σ.h n=some (.row gr m rs xs)) (aK:(G.g n).nl=false) (hk:xs[k]? =some e) (hv:cA w G σ.h vs us) (ic:∀c∈vs,∀m,c.ref m->σ.used m=true)
  (hx:Am.mn σ n gr m rs xs k off e vs=some σ2) {cur:Array Value} {et:TypeId} (hg:w.heap[(G.g n).b]? =some (.cells cur et (0,0))) (gD:(G.g n).o+k*rs+off+us.length<=cur.size):
  ∃G',R B E w0 N σ2 a (dU w (G.g n).b ((G.g n).o+k*rs+off) us cur) G':=by
 unfold Am.mn at hx
 split at hx
 ·cases hx
 rename_i eR eO
 obtain⟨s1,s2,s3⟩:=Eg eO
 split at hx
 ·cases hx
 rename_i cs ow σ1 Mn
 obtain⟨Im',bu,a1,a2,a3,a4,a5,a6,a7,a8⟩:=HR.fc r.hr Mn hv ic
 simp only[List.nil_append] at a4
 have H0:HR B E w ⟨Im',G.g⟩ σ1.h σ.used []:=by
  cases ow
  ·simpa using a4
  ·have a4':HR B E w ⟨Im',G.g⟩ σ1.h σ.used ([]++bu):=by simpa using a4
   exact a4'.wu
 have hlen:us.length=vs.length:=hv.1
 have fM:bu.length=vs.length:=by have:=congrArg List.length a2;simp at this;omega
 have ac3:(σ1.h n).isSome=true/\∃m',σ2=σ1.dd n (.row gr m' rs (xs.set k (bW e off cs)))/\
   ((m=.live/\m'=.live/\eW cs=true/\eW eR=true)\/(m≠ .live/\m'=if ow=true then m else .aA)):=by
  split at hx
  ·rename_i hm
   split at hx
   ·rename_i hc
    injection hx with hx
    exact⟨hc.2.2,m,by rw[<-hx],.inl ⟨hm,hm,hc.1,hc.2.1⟩⟩
   ·cases hx
  ·rename_i hm
   split at hx
   ·rename_i hs
    injection hx with hx
    exact⟨hs,_,hx.symm,.inr ⟨hm,rfl⟩⟩
   ·cases hx
 obtain⟨zV,m',rfl,gu⟩:=ac3
 have mI:σ1.h n=some (.row gr m rs xs):=by
  cases hh:σ1.h n with
  |none=>rw[hh] at zV;cases zV
  |some b=>rw[<-a8 n b hh,hn]
 have bM:σ1.h n≠none:=by rw[mI];simp
 have hr:=H0.row n gr m rs xs mI
 obtain⟨qE,po,qF⟩:=H0.own n bM aK
 have vj:=H0.iA n bM
 obtain⟨l1,l2,l3⟩:=hr.dB aK
 have tA:∃pe,(G.g n).px[k]? =some pe/\pe.map PC.er=e:=by
  have tq:=hr.er
  rw[tq,List.getElem?_map] at hk
  cases hp:(G.g n).px[k]? with
  |none=>rw[hp] at hk;cases hk
  |some pe=>rw[hp] at hk;simp at hk;exact⟨pe,rfl,hk⟩
 obtain⟨pe,vd,ve⟩:=tA
 have xE:k<(G.g n).px.length:=(List.getElem?_eq_some_iff.1 vd).1
 have G5:pe.length=rs:=l2.1 pe (List.mem_of_getElem? vd)
 have G4:off+bu.length<=pe.length:=by rw[<-ve] at s1;simp at s1;omega
 let A5:=bW pe off bu
 let px':=(G.g n).px.set k A5
 let w2:=dU w (G.g n).b ((G.g n).o+k*rs+off) us cur
 let p':PB:=⟨false,(G.g n).b,(G.g n).o,(G.g n).cap,px',(G.g n).na⟩
 have VH:A5.length=rs:=by show(bW pe off bu).length=rs;rw[IK G4,G5]
 have bO:∀k' j c,At px' k' j c->(k'=k/\off<=j/\j<off+bu.length/\bu[j - off]? =some c)\/((k'≠k\/¬(off<=j/\j<off+bu.length))/\At (G.g n).px k' j c):=by
  intro k' j c h
  rcases FQ xE h with⟨rfl,hj⟩|⟨aw,h⟩
  ·rw[wb G4] at hj
   by_cases eo:off<=j/\j<off+bu.length
   ·rw[if_pos eo] at hj;exact .inl ⟨rfl,eo.1,eo.2,hj⟩
   ·rw[if_neg eo] at hj;exact .inr ⟨.inr eo,pe,vd,hj⟩
  ·exact .inr ⟨.inl aw,h⟩
 have acZ:∀k' j c,At px' k' j c->j<rs:=by
  intro k' j c h
  obtain⟨e1,he,hj⟩:=h
  have:e1.length=rs:=by
   rcases List.mem_or_eq_of_mem_set (List.mem_of_getElem? he) with h1|h1
   ·exact l2.1 e1 h1
   ·rw[h1];exact VH
  rw[<-this]
  exact(List.getElem?_eq_some_iff.1 hj).1
 have qB:∀b,aP b px'->aP b (G.g n).px\/∃(i:Nat) (c:PC),bu[i]? =some c/\aM b c:=by
  rintro b ⟨k',j,c,lN,hb⟩
  rcases bO k' j c lN with⟨_,_,_,hp⟩|⟨_,hp⟩
  ·exact .inr ⟨_,c,hp,hb⟩
  ·exact .inl ⟨k',j,c,hp,hb⟩
 have ez:∀b,b≠(G.g n).b->w2.heap[b]? =w.heap[b]? :=fun b hb=>yP b hb
 have Me:∀(i:Nat) (c:PC) (b:Nat),bu[i]? =some c->aM b c->Im' b:=fun i c b hi hb=>(a3 c (List.mem_of_getElem? hi)).2 b hb
 have GK:∀b,Im' b->b≠(G.g n).b:=fun b hb he=>qE (he▸hb)
 have Mb:∀b,aP b (G.g n).px->b≠(G.g n).b:=fun b hb=>H0.rK bM aK mI hb
 have fZ:nT w2 (G.g n).b (G.g n).o rs px':=by
  refine⟨fun e1 he=>?_,fun k' j c lN=>?_,fun k' j c lN=>?_⟩
  ·rcases List.mem_or_eq_of_mem_set he with h1|h1
   ·exact l2.1 e1 h1
   ·rw[h1];exact VH
  ·have hj:=acZ k' j c lN
   show w2.cell? _=_
   rw[BD hg gD]
   rcases bO k' j c lN with⟨rfl,h1,h2,hp⟩|⟨aw,hp⟩
   ·rw[if_pos (by omega)]
    have hu:us[j - off]? =some c.val:=by rw[<-a2,List.getElem?_map,hp];rfl
    rw[<-hu]
    congr 1
    omega
   ·rw[if_neg ?_]
    ·exact l2.2.1 k' j c hp
    ·rintro⟨q1,q2⟩
     rcases aw with aw|aw
     ·rcases Nat.lt_or_gt_of_ne aw with bL|xC
      ·have:(k'+1)*rs<=k*rs:=Nat.mul_le_mul_right _ bL
       rw[Nat.add_mul] at this
       omega
      ·have:(k+1)*rs<=k'*rs:=Nat.mul_le_mul_right _ xC
       rw[Nat.add_mul] at this
       omega
     ·have:k'=k:=by
       rcases Nat.lt_trichotomy k' k with bL|du|xC
       ·have:(k'+1)*rs<=k*rs:=Nat.mul_le_mul_right _ bL
        rw[Nat.add_mul] at this
        omega
       ·exact du
       ·have:(k+1)*rs<=k'*rs:=Nat.mul_le_mul_right _ xC
        rw[Nat.add_mul] at this
        omega
      subst this
      omega
  ·rcases bO k' j c lN with⟨_,_,_,hp⟩|⟨_,hp⟩
   ·exact(a3 c (List.mem_of_getElem? hp)).1.congr fun b hb x=>hZ (ez b (GK b (Me _ c b hp hb))) x
   ·exact(l2.2.2 k' j c hp).congr fun b hb x=>hZ (ez b (Mb b ⟨k',j,c,hp,hb⟩)) x
 have alv:(G.g n).o+k*rs+off+us.length<=cur.size:=gD
 have iD:eW cs=true->∀(i:Nat) (c:PC) (b:Nat),bu[i]? =some c->¬aM b c:=by
  intro hs i c b hi
  have hc:c.er∈cs:=by rw[<-a1];exact List.mem_map_of_mem (List.mem_of_getElem? hi)
  exact(Sep.kA (pc:=c) (List.all_eq_true.1 hs _ hc)).2 b
 have hold:eW eR=true->∀j c,off<=j->j<off+bu.length->pe[j]? =some c->c.er.dT=true:=by
  intro hs j c h1 h2 hj
  have:c.er∈eR:=by
   have h3:eR[j - off]? =some c.er:=by
    have e0:eR[j - off]? =((e.drop off).take vs.length)[j - off]? :=congrArg (fun q:List C=>q[j - off]?) s2
    rw[e0,Bt (by omega),<-ve,List.getElem?_map,show off+(j - off)=j by omega,hj]
    rfl
   exact List.mem_of_getElem? h3
  exact List.all_eq_true.1 hs _ this
 have K2:aT w ⟨Im',G.g⟩ σ1.h (fun n=>σ.used n=true) w2 ⟨Im',au G.g n p'⟩ (au σ1.h n (some (.row gr m' rs (xs.set k (bW e off cs))))):=by
  refine⟨fun _ h=>h,fun b hb x=>hZ (ez b (GK b hb)) x,fun q hq h0=>?_,fun q bh aG ar hq h0=>?_⟩
  ·by_cases eG:q=n
   ·subst eG
    refine⟨bM,?_⟩
    simp only[bC]
    exact⟨aK.symm,rfl,rfl,rfl,rfl⟩
   ·rw[cb _ _ _ _ eG] at h0
    simp only[cb _ _ _ _ eG]
    exact⟨h0,trivial,trivial,trivial,trivial,trivial⟩
  ·by_cases eG:q=n
   ·subst eG
    rw[bC] at h0
    injection h0 with h0
    injection h0 with e1 e2 e3 e4
    subst e1;subst e2;subst e3
    rcases gu with⟨hm,_,hs,VQ⟩|⟨hm,bI⟩
    ·subst hm
     refine⟨⟨gr,xs,mI⟩,fun k' j pc lN hL=>?_⟩
     simp only[bC]
     refine⟨pc,?_,rfl,hL⟩
     obtain⟨e1,he,hj⟩:=lN
     by_cases rR:k'=k
     ·subst rR
      rw[vd] at he
      injection he with he
      subst he
      refine⟨A5,List.getElem?_set_self xE,?_⟩
      show(bW pe off bu)[j]? =some pc
      rw[wb G4]
      rw[if_neg ?_]
      ·exact hj
      ·rintro⟨q1,q2⟩
       have:=hold VQ j pc q1 q2 hj
       rw[PC.WT hL] at this
       cases this
     ·exact⟨e1,by show((G.g q).px.set k A5)[k']? =some e1;rw[List.getElem?_set_ne (Ne.symm rR)];exact he,hj⟩
    ·cases ow
     ·simp at bI
     ·simp at bI;exact absurd bI.symm hm
   ·rw[cb _ _ _ _ eG] at h0
    simp only[cb _ _ _ _ eG]
    exact⟨⟨bh,ar,h0⟩,fun k j pc h1 h2=>⟨pc,h1,rfl,h2⟩⟩
 have tI:∀b,dk w b->dk w2 b:=fun b hb=>Jg hg gD b hb
 have Md:m'≠ .aA->(∀b,aP b px'->dk w b/\(B<=b\/E b))/\gS px'/\(m'=.ae->∀b,aP b px'->Im' b)/\(m'=.live->∀b,aP b px'->aP b (G.g n).px)/\
   (∀q bh mo aG ar,q≠n->σ1.h q=some (.row bh mo aG ar)->mo≠ .aA->∀b,aP b px'->¬aP b (G.g q).px):=by
  intro gF
  have cR:=hr.mode
  rcases gu with⟨rfl,rfl,hs,VQ⟩|⟨hm,bI⟩
  ·have eO:∀b,aP b px'->aP b (G.g n).px:=fun b hb=>(qB b hb).resolve_right (fun⟨i,c,hi,hb⟩=>iD hs i c b hi hb)
   refine⟨fun b hb=>(cR.1 b (eO b hb)).2,⟨fun k' j c lN=>?_,fun k1 j1 c1 k2 j2 c2 b h1 h2 aw hb=>?_⟩,(fun h=>by cases h),fun _=>eO,fun q bh mo aG ar eG hq iC b hb=>H0.fi n q gr .live rs xs bh mo aG ar mI hq (by simp) iC (Ne.symm eG) b (eO b hb)⟩
   ·rcases bO k' j c lN with⟨_,_,_,hp⟩|⟨_,hp⟩
    ·exact Sep.DD (fun b hb=>iD hs _ c b hp hb) (a3 c (List.mem_of_getElem? hp)).1
    ·exact cR.2.1 k' j c hp
   ·rcases bO k1 j1 c1 h1 with⟨_,_,_,hp⟩|⟨_,hp⟩
    ·exact absurd hb (iD hs _ c1 b hp)
    ·rcases bO k2 j2 c2 h2 with⟨_,_,_,aX⟩|⟨_,aX⟩
     ·exact iD hs _ c2 b aX
     ·exact cR.2.2 k1 j1 c1 k2 j2 c2 b hp aX aw hb
  ·cases ow
   ·simp at bI;exact absurd bI gF
   ·simp only[if_true] at bI a4
    subst bI
    have GW:m'=.ae:=by cases m'<;>first|rfl|exact absurd rfl hm|exact absurd rfl gF
    subst GW
    refine⟨fun b hb=>?_,⟨fun k' j c lN=>?_,fun k1 j1 c1 k2 j2 c2 b h1 h2 aw hb=>?_⟩,fun _ b hb=>?_,(fun h=>by cases h),fun q bh mo aG ar eG hq iC b hb=>?_⟩
    ·rcases qB b hb with h1|⟨i,c,hi,h1⟩
     ·exact(cR.1 b h1).2
     ·exact((a4.qa i c hi).2 b h1).2
    ·rcases bO k' j c lN with⟨_,_,_,hp⟩|⟨_,hp⟩
     ·exact(a4.qa _ c hp).1
     ·exact cR.2.1 k' j c hp
    ·rcases bO k1 j1 c1 h1 with⟨e1,q1,q2,hp⟩|⟨_,hp⟩
     ·rcases bO k2 j2 c2 h2 with⟨e2,q3,q4,aX⟩|⟨_,aX⟩
      ·have jN:j1 - off≠j2 - off:=fun hh=>aw (by rw[e1,e2,show j1=j2 by omega])
       exact a4.uh _ _ c1 c2 b jN hp aX hb
      ·exact fun aR=>a4.qb _ c1 n gr .ae rs xs b hp mI (by simp) hb ⟨k2,j2,c2,aX,aR⟩
     ·rcases bO k2 j2 c2 h2 with⟨e2,q3,q4,aX⟩|⟨_,aX⟩
      ·exact fun aR=>a4.qb _ c2 n gr .ae rs xs b aX mI (by simp) aR ⟨k1,j1,c1,hp,hb⟩
      ·exact cR.2.2 k1 j1 c1 k2 j2 c2 b hp aX aw hb
    ·rcases qB b hb with h1|⟨i,c,hi,h1⟩
     ·exact(cR.1 b h1).1
     ·exact Me i c b hi h1
    ·rcases qB b hb with h1|⟨i,c,hi,h1⟩
     ·exact H0.fi n q gr .ae rs xs bh mo aG ar mI hq (by simp) iC (Ne.symm eG) b h1
     ·exact a4.qb i c q bh mo aG ar b hi hq iC h1
 have Hn:HR B E w2 ⟨Im',au G.g n p'⟩ (au σ1.h n (some (.row gr m' rs (xs.set k (bW e off cs))))) σ.used []:=by
  refine H0.put (p:=p') (fun b hb aw=>ez b (aw rfl)) (by show w.heap.size<=w2.heap.size;rw[qe];exact Nat.le_refl _) (fun b _ hb=>tI b hb) (fun _ h=>h) vj
   (fun _=>⟨qE,po,by show _<w2.heap.size;rw[qe];exact qF⟩)
   (fun _ q hq h0 kq=>(H0.inj q n h0 bM hq kq aK)) (fun _ q bh aG ar hq h0 b hb=>H0.live q bh aG ar h0 b hb n bM aK) (fun cs c q hb=>by cases hb) K2 ?_ ?_ ?_ (fun gr m sz xs _ _ i pc b hi=>by simp at hi) ?_
  ·refine⟨hr.pos,?_,(fun hl=>by cases hl),fun _=>⟨tI _ l1,fZ,by show((G.g n).px.set k A5).length<=_;simpa using l3⟩,fun _ hgr=>?_,?_⟩
   ·show xs.set k (bW e off cs)=((G.g n).px.set k A5).map _
    rw[List.map_set,<-hr.er]
    congr 1
    show bW e off cs=(bW pe off bu).map PC.er
    rw[Bo,ve,a1]
   ·obtain⟨r2,iO,e',r3,r4⟩:=hr.room aK hgr
    rw[hg] at r3
    injection r3 with r3
    injection r3 with r3 _ _
    subst r3
    obtain⟨aa5,c1,c2⟩:=Jf (vs:=us) (o:=(G.g n).o+k*rs+off) hg gD
    exact⟨r2,aa5,et,c1,by rw[c2];exact r4⟩
   ·show BP B E w2 ⟨Im',_⟩ px' m'
    by_cases gF:m'=.aA
    ·rw[gF]
     intro b hb
     rcases qB b hb with h1|⟨i,c,hi,h1⟩
     ·have cR:=hr.mode
      rcases gu with⟨_,h2,_⟩|⟨hm,_⟩
      ·rw[gF] at h2;cases h2
      ·cases m with
       |aA=>exact cR b h1
       |ae=>exact(cR.1 b h1).1
       |live=>exact absurd rfl hm
     ·exact Me i c b hi h1
    ·obtain⟨o1,o2,o3,o4,o5⟩:=Md gF
     cases m' with
     |aA=>exact absurd rfl gF
     |ae=>exact⟨fun b hb=>⟨o3 rfl b hb,tI b (o1 b hb).1,(o1 b hb).2⟩,o2⟩
     |live=>
      refine⟨fun b hb=>⟨?_,tI b (o1 b hb).1,(o1 b hb).2⟩,o2⟩
      have cR:=hr.mode
      rcases gu with⟨hm,_,_⟩|⟨hm,bI⟩
      ·subst hm;exact(cR.1 b (o4 rfl b hb)).1
      ·cases ow
       ·simp at bI
       ·simp at bI;exact absurd bI.symm hm
  ·intro bh m2 aG ar hb gF q zD mo j5 gR eG hq iC b cq
   injection hb with _ hb _ _
   subst hb
   exact(Md gF).2.2.2.2 q zD mo j5 gR eG hq iC b cq
  ·intro bh aG ar hb b cq
   injection hb with _ hb _ _
   subst hb
   have eO:=(Md (by simp)).2.2.2.1 rfl b cq
   have hm:m=.live:=by
    rcases gu with⟨hm,_,_⟩|⟨hm,bI⟩
    ·exact hm
    ·cases ow
     ·simp at bI
     ·simp at bI;exact absurd bI.symm hm
   subst hm
   exact⟨fun _=>H0.live n gr rs xs mI b eO n bM aK,fun q eG hq G6=>H0.live n gr rs xs mI b eO q hq G6⟩
  ·intro _ _ b hb
   obtain⟨q,bh,mo,aG,ar,hq,h0,cq⟩:=hb
   exact H0.rK bM aK h0 cq
 refine⟨⟨Im',au G.g n p'⟩,?_⟩
 exact r.step (σ':=σ1.dd n (.row gr m' rs (xs.set k (bW e off cs)))) a6 (fun q hq=>by show σ1.used q=true;rw[a7];exact hq)
  (aT.trans (u2:=fun n=>σ.used n=true) (fun _ h=>h) a5 K2) (by show HR B E w2 _ (au σ1.h n _) σ1.used [];rw[a7];exact Hn) (r.fr.one po (fun b hb aw=>ez b aw) (by show w.heap.size<=w2.heap.size;rw[qe];exact Nat.le_refl _) (BE hg gD) rfl rfl rfl)
end
end Go.Am
