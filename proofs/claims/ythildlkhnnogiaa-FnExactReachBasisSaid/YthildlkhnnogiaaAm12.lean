/- Am12: stores. No condition. -/
import Derived.Test.YthildlkhnnogiaaAm11
set_option linter.unusedVariables false
namespace Go.Am
theorem KC {α:Type} {l vs:List α} {off:Nat} (h:off+vs.length<=l.length):(ci l off vs).length=l.length:=by
 simp[ci];omega
theorem yg {α:Type} {l vs:List α} {off j:Nat} (h:off+vs.length<=l.length):(ci l off vs)[j]? =if off<=j/\j<off+vs.length then vs[j - off]? else l[j]? :=by
 unfold ci
 have ht:(l.take off).length=off:=by simp;omega
 by_cases h1:j<off
 ·rw[if_neg (by omega),List.append_assoc,List.getElem?_append_left (by omega),List.getElem?_take_of_lt h1]
 ·by_cases h2:j<off+vs.length
  ·rw[if_pos ⟨by omega,h2⟩,List.append_assoc,List.getElem?_append_right (by omega),List.getElem?_append_left (by omega),ht]
  ·rw[if_neg (by omega),List.getElem?_append_right (by simp;omega),List.getElem?_drop]
   congr 1
   simp
   omega
theorem C5 {α β:Type} (f:α->β) (l vs:List α) (off:Nat):(ci l off vs).map f=ci (l.map f) off (vs.map f):=by
 simp[ci,List.map_take,List.map_drop]
def dY (w:World) (b o:Nat) (vs:List Value) (cur:Array Value):World:=w.setRow b (cur.toList.take o++vs++cur.toList.drop (o+vs.length)).toArray
section
variable {w:World} {b o:Nat} {vs:List Value} {cur:Array Value} {e:TypeId}
theorem wv (hg:w.heap[b]? =some (.cells cur e (0,0))) (hl:o+vs.length<=cur.size) (x:Nat):
  (dY w b o vs cur).cell? (ad b x)=if o<=x/\x<o+vs.length then vs[x - o]? else w.cell? (ad b x):=by
 unfold dY ad
 rw[cell_setRow_same w b x cur _ e (0,0) hg]
 have h1:=yg (l:=cur.toList) (vs:=vs) (off:=o) (j:=x) (by simpa using hl)
 simp only[ci] at h1
 rw[List.getElem?_toArray,h1]
 have h2:w.cell? ⟨b,x,none⟩=cur[x]? :=by simp[World.cell?,hg]
 rw[h2]
 simp
theorem ww (k:Nat) (hk:k≠b):(dY w b o vs cur).heap[k]? =w.heap[k]? :=setRow_other w b k _ hk
theorem oO:(dY w b o vs cur).heap.size=w.heap.size:=setRow_size _ _ _
theorem Dg (hg:w.heap[b]? =some (.cells cur e (0,0))) (hl:o+vs.length<=cur.size):∃ie,(dY w b o vs cur).heap[b]? =some (.cells ie e (0,0))/\ie.size=cur.size:=by
 refine⟨_,setRow_heap w b cur _ e (0,0) hg,?_⟩
 simp
 omega
theorem yq (hg:w.heap[b]? =some (.cells cur e (0,0))) (hl:o+vs.length<=cur.size):Cz w (dY w b o vs cur) b:=by
 intro arr e' h
 obtain⟨ie,h1,h2⟩:=Dg (vs:=vs) (o:=o) hg hl
 rw[hg] at h
 injection h with h
 injection h with ha hb
 subst ha hb
 exact⟨ie,h1,h2⟩
theorem Gt (hg:w.heap[b]? =some (.cells cur e (0,0))) (hl:o+vs.length<=cur.size) (k:Nat) (hk:cP w k):cP (dY w b o vs cur) k:=by
 by_cases XN:k=b
 ·subst XN
  obtain⟨ie,h1,_⟩:=Dg (vs:=vs) (o:=o) hg hl
  exact⟨ie,e,h1⟩
 ·exact hk.congr (ww k XN)
end
section
variable {B:Nat} {E:Ex} {w0 w w':World} {G G':Gh} {h h':Nat->Option aj} {used used':Nat->Bool} {tk:List PC} {N:Nat}
variable {P:Program} {o:Oper} {a:Act} {σ σ':St} {Q:Exit->Act->World->Prop}
theorem Gp {α:Type} (f:Nat->α) (n:Nat):ao f n (f n)=f:=by
 funext m;simp only[iU];split
 ·rename_i h;rw[h]
 ·rfl
theorem FF {t:TypeId} {i:TypeInfo} {b off:Nat} {v:Value} {cur:Array Value} {e:TypeId} (hi:P.info? t=some i) (bn:v.cells.size=i.size) (hg:w.heap[b]? =some (.cells cur e (0,0)))
  (hl:off+v.cells.size<=cur.size) (h1:∀u∈v.cells.toList,u.oneCell'=true):
  (storeVar t (ad b off) v).run P w=.ok () (dY w b off v.cells.toList cur):=by
 have lB:=run_storeCells_at P b off e v.cells.toList 0 cur w hg (by simpa using hl) h1
 simp only[Nat.add_zero] at lB
 simp[storeVar,sizeOf,typeInfo,hi,bn,ad,lB,dY]
theorem HR.nc (H:HR B E w G h used tk) {n m:Nat} {gr:Bool} {mo:Mode} {sz:Nat} {xs:List (List C)} (hn:h n≠none) (hl:(G.g n).nl=false) (hm:h m=some (.row gr mo sz xs)) {b:Nat} (hb:aP b (G.g m).px):b≠(G.g n).b:=by
 have cv:=(H.row m gr mo sz xs hm).mode
 cases mo with
 |aG=>rintro rfl;exact(H.own n hn hl).1 (cv _ hb)
 |af=>rintro rfl;exact(H.own n hn hl).1 (cv.1 _ hb).1
 |live=>exact H.live m gr sz xs hm b hb n hn hl
theorem R.amf (r:R B E w0 N σ a w G) {n:Nat} {cs:List ab} {vs:List ab} {us:List Value} {off:Nat} (hn:σ.h n=some (.box cs)) (hv:cb w G σ.h vs us) (io:∀c∈vs,∀m,c.ref m->σ.used m=true)
  (hl:off+vs.length<=cs.length) {cur:Array Value} {e:TypeId} (hg:w.heap[(G.g n).b]? =some (.cells cur e (0,0))) (eP:(G.g n).o+off+us.length<=cur.size):
  R B E w0 N (σ.cW n (.box (ci cs off vs))) a (dY w (G.g n).b ((G.g n).o+off) us cur) G:=by
 have H:=r.hr
 have bi:σ.h n≠none:=by rw[hn];simp
 obtain⟨aD,tA,fQ⟩:=H.box n cs hn
 obtain⟨oe,nj,pu⟩:=H.own n bi aD
 have xm:=H.gT n bi
 have hG:(⟨G.Im,ao G.g n (G.g n)⟩:Gh)=G:=by rw[Gp]
 have hlen:us.length=vs.length:=hv.1
 have cB:∀b,b<w.heap.size->b≠(G.g n).b->(dY w (G.g n).b ((G.g n).o+off) us cur).heap[b]? =w.heap[b]? :=fun b _ hb=>ww b hb
 have K:aR w G σ.h (fun n=>σ.used n=true) (dY w (G.g n).b ((G.g n).o+off) us cur) G (ao σ.h n (some (.box (ci cs off vs)))):=by
  refine⟨fun _ h=>h,fun b hb x=>fO (cB b (H.e7 b hb) (fun he=>oe (he▸hb))) x,fun m hm h0=>?_,fun m gr sz xs hm h0=>?_⟩
  ·by_cases bj:m=n
   ·subst bj;exact⟨bi,rfl,rfl,rfl,rfl,rfl⟩
   ·rw[bP _ _ _ _ bj] at h0;exact⟨h0,rfl,rfl,rfl,rfl,rfl⟩
  ·by_cases bj:m=n
   ·subst bj;rw[bo] at h0;cases h0
   ·rw[bP _ _ _ _ bj] at h0;exact⟨⟨gr,xs,h0⟩,fun k j pc h1 h2=>⟨pc,h1,rfl,h2⟩⟩
 have Hn:HR B E (dY w (G.g n).b ((G.g n).o+off) us cur) ⟨G.Im,ao G.g n (G.g n)⟩ (ao σ.h n (some (.box (ci cs off vs)))) σ.used []:=by
  refine H.put (fun b hb av=>cB b hb (av aD)) (by rw[oO];exact Nat.le_refl _) (fun b _ hb=>Gt hg eP b hb) (fun _ h=>h) xm (fun _=>⟨oe,nj,by rw[oO];exact pu⟩)
   (fun _ m hm h0 fa=>(H.inj m n h0 bi hm fa aD)) (fun _ m gr sz xs hm h0 b hb=>H.live m gr sz xs h0 b hb n bi aD) ?_ (by rw[hG];exact K) ?_
   (fun gr m sz xs hb=>by cases hb) (fun gr sz xs hb=>by cases hb) (fun gr m sz xs hb=>by cases hb) ?_
  ·intro cs' c m hb hc hm
   injection hb with hb
   subst hb
   simp only[ci,List.mem_append] at hc
   rcases hc with(hc|hc)|hc
   ·exact H.gd n cs c m hn (List.mem_of_mem_take hc) hm
   ·exact io c hc m hm
   ·exact H.gd n cs c m hn (List.mem_of_mem_drop hc) hm
  ·rw[hG]
   refine⟨aD,Gt hg eP _ tA,fun j c hj=>?_⟩
   rw[yg hl] at hj
   rw[wv hg eP]
   by_cases dw:off<=j/\j<off+vs.length
   ·rw[if_pos dw] at hj
    rw[if_pos (by omega)]
    have rU:j - off<us.length:=by omega
    have hu:us[j - off]? =some (us[j - off]'rU):=List.getElem?_eq_getElem rU
    obtain⟨q1,q2⟩:=hv.2 _ _ _ hj hu
    refine⟨_,by rw[<-hu];congr 1;omega,q1,q2.eJ K (io c (List.mem_of_getElem? hj))⟩
   ·rw[if_neg dw] at hj
    rw[if_neg (by omega)]
    obtain⟨v,v1,v2,v3⟩:=fQ j c hj
    exact⟨v,v1,v2,v3.eJ K (fun m hm=>H.gd n cs c m hn (List.mem_of_getElem? hj) hm)⟩
  ·intro _ _ b hb
   obtain⟨m,gr,mo,sz,xs,hm,h0,bL⟩:=hb
   exact H.nc bi aD h0 bL
 rw[hG] at Hn
 exact r.step (σ':=σ.cW n (.box (ci cs off vs))) rfl (fun _ h=>h) K Hn (r.fr.one nj (fun b hb av=>cB b hb av) (by rw[oO];exact Nat.le_refl _) (yq hg eP) rfl rfl rfl)
theorem HY {α:Type} {px:List (List α)} {k k' j:Nat} {pe:List α} {c:α} (hk:k<px.length) (h:At (px.set k pe) k' j c):(k'=k/\pe[j]? =some c)\/(k'≠k/\At px k' j c):=by
 obtain⟨e,he,hj⟩:=h
 by_cases xd:k'=k
 ·subst xd
  rw[List.getElem?_set_self hk] at he
  injection he with he
  subst he
  exact .inl ⟨rfl,hj⟩
 ·rw[List.getElem?_set_ne (Ne.symm xd)] at he
  exact .inr ⟨xd,e,he,hj⟩
theorem PC.YG {pc:PC} (h:pc.f6=true):pc.er.dL=false:=by
 cases pc<;>simp[PC.f6] at h
 simp[PC.cN,C.dL]
theorem R.mQ (r:R B E w0 N σ a w G) {n:Nat} {gr:Bool} {m:Mode} {rs:Nat} {xs:List (List C)} {k off:Nat} {e:List C} {vs:List ab} {us:List Value} {σ2:St}
  (hn:σ.h n=some (.row gr m rs xs)) (aD:(G.g n).nl=false) (hk:xs[k]? =some e) (hv:cb w G σ.h vs us) (io:∀c∈vs,∀m,c.ref m->σ.used m=true)
  (hx:Am.mQ σ n gr m rs xs k off e vs=some σ2) {cur:Array Value} {et:TypeId} (hg:w.heap[(G.g n).b]? =some (.cells cur et (0,0))) (eP:(G.g n).o+k*rs+off+us.length<=cur.size):
  ∃G',R B E w0 N σ2 a (dY w (G.g n).b ((G.g n).o+k*rs+off) us cur) G':=by
 unfold Am.mQ at hx
 split at hx
 ·cases hx
 rename_i f8 dJ
 obtain⟨s1,s2,s3⟩:=C9 dJ
 split at hx
 ·cases hx
 rename_i cs ow σ1 OT
 obtain⟨Im',bg,a1,a2,a3,a4,a5,a6,a7,a8⟩:=HR.fi r.hr OT hv io
 simp only[List.nil_append] at a4
 have H0:HR B E w ⟨Im',G.g⟩ σ1.h σ.used []:=by
  cases ow
  ·simpa using a4
  ·have a4':HR B E w ⟨Im',G.g⟩ σ1.h σ.used ([]++bg):=by simpa using a4
   exact a4'.wm
 have hlen:us.length=vs.length:=hv.1
 have dz:bg.length=vs.length:=by have:=congrArg List.length a2;simp at this;omega
 have aft:(σ1.h n).isSome=true/\∃m',σ2=σ1.cW n (.row gr m' rs (xs.set k (ci e off cs)))/\
   ((m=.live/\m'=.live/\eo cs=true/\eo f8=true/\gr=false)\/(m≠ .live/\m'=if ow=true then m else .aG)):=by
  split at hx
  ·rename_i hm
   split at hx
   ·rename_i hc
    injection hx with hx
    exact⟨hc.2.2.1,m,by rw[<-hx],.inl ⟨hm,hm,hc.1,hc.2.1,hc.2.2.2⟩⟩
   ·cases hx
  ·rename_i hm
   split at hx
   ·rename_i hs
    injection hx with hx
    exact⟨hs,_,hx.symm,.inr ⟨hm,rfl⟩⟩
   ·cases hx
 obtain⟨B3,m',rfl,eY⟩:=aft
 have ni:σ1.h n=some (.row gr m rs xs):=by
  cases hh:σ1.h n with
  |none=>rw[hh] at B3;cases B3
  |some b=>rw[<-a8 n b hh,hn]
 have bi:σ1.h n≠none:=by rw[ni];simp
 have hr:=H0.row n gr m rs xs ni
 obtain⟨oe,nj,pu⟩:=H0.own n bi aD
 have xm:=H0.gT n bi
 obtain⟨l1,l2,l3⟩:=hr.cZ aD
 have gN:∃pe,(G.g n).px[k]? =some pe/\pe.map PC.er=e:=by
  have fz:=hr.er
  rw[fz,List.getElem?_map] at hk
  cases hp:(G.g n).px[k]? with
  |none=>rw[hp] at hk;cases hk
  |some pe=>rw[hp] at hk;simp at hk;exact⟨pe,rfl,hk⟩
 obtain⟨pe,qM,tw⟩:=gN
 have tr:k<(G.g n).px.length:=(List.getElem?_eq_some_iff.1 qM).1
 have vl:pe.length=rs:=l2.1 pe (List.mem_of_getElem? qM)
 have mq:off+bg.length<=pe.length:=by rw[<-tw] at s1;simp at s1;omega
 let CH:=ci pe off bg
 let px':=(G.g n).px.set k CH
 let w2:=dY w (G.g n).b ((G.g n).o+k*rs+off) us cur
 let p':PB:=⟨false,(G.g n).b,(G.g n).o,(G.g n).cap,px',(G.g n).na⟩
 have XS:CH.length=rs:=by show(ci pe off bg).length=rs;rw[KC mq,vl]
 have bO:∀k' j c,At px' k' j c->(k'=k/\off<=j/\j<off+bg.length/\bg[j - off]? =some c)\/((k'≠k\/¬(off<=j/\j<off+bg.length))/\At (G.g n).px k' j c):=by
  intro k' j c h
  rcases HY tr h with⟨rfl,hj⟩|⟨av,h⟩
  ·rw[yg mq] at hj
   by_cases dw:off<=j/\j<off+bg.length
   ·rw[if_pos dw] at hj;exact .inl ⟨rfl,dw.1,dw.2,hj⟩
   ·rw[if_neg dw] at hj;exact .inr ⟨.inr dw,pe,qM,hj⟩
  ·exact .inr ⟨.inl av,h⟩
 have afq:∀k' j c,At px' k' j c->j<rs:=by
  intro k' j c h
  obtain⟨e1,he,hj⟩:=h
  have:e1.length=rs:=by
   rcases List.mem_or_eq_of_mem_set (List.mem_of_getElem? he) with h1|h1
   ·exact l2.1 e1 h1
   ·rw[h1];exact XS
  rw[<-this]
  exact(List.getElem?_eq_some_iff.1 hj).1
 have jJ:∀b,aP b px'->aP b (G.g n).px\/∃(i:Nat) (c:PC),bg[i]? =some c/\aK b c:=by
  rintro b ⟨k',j,c,mn,hb⟩
  rcases bO k' j c mn with⟨_,_,_,hp⟩|⟨_,hp⟩
  ·exact .inr ⟨_,c,hp,hb⟩
  ·exact .inl ⟨k',j,c,hp,hb⟩
 have cB:∀b,b≠(G.g n).b->w2.heap[b]? =w.heap[b]? :=fun b hb=>ww b hb
 have OH:∀(i:Nat) (c:PC) (b:Nat),bg[i]? =some c->aK b c->Im' b:=fun i c b hi hb=>(a3 c (List.mem_of_getElem? hi)).2 b hb
 have zi:∀b,Im' b->b≠(G.g n).b:=fun b hb he=>oe (he▸hb)
 have gw:∀b,aP b (G.g n).px->b≠(G.g n).b:=fun b hb=>H0.nc bi aD ni hb
 have dR:lR w2 (G.g n).b (G.g n).o rs px':=by
  refine⟨fun e1 he=>?_,fun k' j c mn=>?_,fun k' j c mn=>?_⟩
  ·rcases List.mem_or_eq_of_mem_set he with h1|h1
   ·exact l2.1 e1 h1
   ·rw[h1];exact XS
  ·have hj:=afq k' j c mn
   show w2.cell? _=_
   rw[wv hg eP]
   rcases bO k' j c mn with⟨rfl,h1,h2,hp⟩|⟨av,hp⟩
   ·rw[if_pos (by omega)]
    have hu:us[j - off]? =some c.val:=by rw[<-a2,List.getElem?_map,hp];rfl
    rw[<-hu]
    congr 1
    omega
   ·rw[if_neg ?_]
    ·exact l2.2.1 k' j c hp
    ·rintro⟨q1,q2⟩
     rcases av with av|av
     ·rcases Nat.lt_or_gt_of_ne av with bS|zt
      ·have:(k'+1)*rs<=k*rs:=Nat.mul_le_mul_right _ bS
       rw[Nat.add_mul] at this
       omega
      ·have:(k+1)*rs<=k'*rs:=Nat.mul_le_mul_right _ zt
       rw[Nat.add_mul] at this
       omega
     ·have:k'=k:=by
       rcases Nat.lt_trichotomy k' k with bS|dP|zt
       ·have:(k'+1)*rs<=k*rs:=Nat.mul_le_mul_right _ bS
        rw[Nat.add_mul] at this
        omega
       ·exact dP
       ·have:(k+1)*rs<=k'*rs:=Nat.mul_le_mul_right _ zt
        rw[Nat.add_mul] at this
        omega
      subst this
      omega
  ·rcases bO k' j c mn with⟨_,_,_,hp⟩|⟨_,hp⟩
   ·exact(a3 c (List.mem_of_getElem? hp)).1.congr fun b hb x=>fO (cB b (zi b (OH _ c b hp hb))) x
   ·exact(l2.2.2 k' j c hp).congr fun b hb x=>fO (cB b (gw b ⟨k',j,c,hp,hb⟩)) x
 have XE:(G.g n).o+k*rs+off+us.length<=cur.size:=eP
 have gy:eo cs=true->∀(i:Nat) (c:PC) (b:Nat),bg[i]? =some c->¬aK b c:=by
  intro hs i c b hi
  have hc:c.er∈cs:=by rw[<-a1];exact List.mem_map_of_mem (List.mem_of_getElem? hi)
  exact(Sep.fT (pc:=c) (List.all_eq_true.1 hs _ hc)).2 b
 have hold:eo f8=true->∀j c,off<=j->j<off+bg.length->pe[j]? =some c->c.er.dL=true:=by
  intro hs j c h1 h2 hj
  have:c.er∈f8:=by
   have h3:f8[j - off]? =some c.er:=by
    have e0:f8[j - off]? =((e.drop off).take vs.length)[j - off]? :=congrArg (fun q:List C=>q[j - off]?) s2
    rw[e0,ym (by omega),<-tw,List.getElem?_map,show off+(j - off)=j by omega,hj]
    rfl
   exact List.mem_of_getElem? h3
  exact List.all_eq_true.1 hs _ this
 have K2:aR w ⟨Im',G.g⟩ σ1.h (fun n=>σ.used n=true) w2 ⟨Im',ao G.g n p'⟩ (ao σ1.h n (some (.row gr m' rs (xs.set k (ci e off cs))))):=by
  refine⟨fun _ h=>h,fun b hb x=>fO (cB b (zi b hb)) x,fun q hq h0=>?_,fun q aW ax ak hq h0=>?_⟩
  ·by_cases fB:q=n
   ·subst fB
    refine⟨bi,?_⟩
    simp only[bo]
    exact⟨aD.symm,rfl,rfl,rfl,rfl⟩
   ·rw[bP _ _ _ _ fB] at h0
    simp only[bP _ _ _ _ fB]
    exact⟨h0,trivial,trivial,trivial,trivial,trivial⟩
  ·by_cases fB:q=n
   ·subst fB
    rw[bo] at h0
    injection h0 with h0
    injection h0 with e1 e2 e3 e4
    subst e1;subst e2;subst e3
    rcases eY with⟨hm,_,hs,XZ,_⟩|⟨hm,bm⟩
    ·subst hm
     refine⟨⟨gr,xs,ni⟩,fun k' j pc mn hL=>?_⟩
     simp only[bo]
     refine⟨pc,?_,rfl,hL⟩
     obtain⟨e1,he,hj⟩:=mn
     by_cases xd:k'=k
     ·subst xd
      rw[qM] at he
      injection he with he
      subst he
      refine⟨CH,List.getElem?_set_self tr,?_⟩
      show(ci pe off bg)[j]? =some pc
      rw[yg mq]
      rw[if_neg ?_]
      ·exact hj
      ·rintro⟨q1,q2⟩
       have:=hold XZ j pc q1 q2 hj
       rw[PC.YG hL] at this
       cases this
     ·exact⟨e1,by show((G.g q).px.set k CH)[k']? =some e1;rw[List.getElem?_set_ne (Ne.symm xd)];exact he,hj⟩
    ·cases ow
     ·simp at bm
     ·simp at bm;exact absurd bm.symm hm
   ·rw[bP _ _ _ _ fB] at h0
    simp only[bP _ _ _ _ fB]
    exact⟨⟨aW,ak,h0⟩,fun k j pc h1 h2=>⟨pc,h1,rfl,h2⟩⟩
 have oh:∀b,cP w b->cP w2 b:=fun b hb=>Gt hg eP b hb
 have OG:m'≠ .aG->(∀b,aP b px'->cP w b/\(B<=b\/E b))/\gF px'/\(m'=.af->∀b,aP b px'->Im' b)/\(m'=.live->∀b,aP b px'->aP b (G.g n).px)/\
   (∀q aW mo ax ak,q≠n->σ1.h q=some (.row aW mo ax ak)->mo≠ .aG->∀b,aP b px'->¬aP b (G.g q).px):=by
  intro gi
  have cv:=hr.mode
  rcases eY with⟨rfl,rfl,hs,XZ,_⟩|⟨hm,bm⟩
  ·have dJ:∀b,aP b px'->aP b (G.g n).px:=fun b hb=>(jJ b hb).resolve_right (fun⟨i,c,hi,hb⟩=>gy hs i c b hi hb)
   refine⟨fun b hb=>(cv.1 b (dJ b hb)).2,⟨fun k' j c mn=>?_,fun k1 j1 c1 k2 j2 c2 b h1 h2 av hb=>?_⟩,(fun h=>by cases h),fun _=>dJ,fun q aW mo ax ak fB hq fY b hb=>H0.eV n q gr .live rs xs aW mo ax ak ni hq (by simp) fY (Ne.symm fB) b (dJ b hb)⟩
   ·rcases bO k' j c mn with⟨_,_,_,hp⟩|⟨_,hp⟩
    ·exact Sep.vT (fun b hb=>gy hs _ c b hp hb) (a3 c (List.mem_of_getElem? hp)).1
    ·exact cv.2.1 k' j c hp
   ·rcases bO k1 j1 c1 h1 with⟨_,_,_,hp⟩|⟨_,hp⟩
    ·exact absurd hb (gy hs _ c1 b hp)
    ·rcases bO k2 j2 c2 h2 with⟨_,_,_,be⟩|⟨_,be⟩
     ·exact gy hs _ c2 b be
     ·exact cv.2.2 k1 j1 c1 k2 j2 c2 b hp be av hb
  ·cases ow
   ·simp at bm;exact absurd bm gi
   ·simp only[if_true] at bm a4
    subst bm
    have I1:m'=.af:=by cases m'<;>first|rfl|exact absurd rfl hm|exact absurd rfl gi
    subst I1
    refine⟨fun b hb=>?_,⟨fun k' j c mn=>?_,fun k1 j1 c1 k2 j2 c2 b h1 h2 av hb=>?_⟩,fun _ b hb=>?_,(fun h=>by cases h),fun q aW mo ax ak fB hq fY b hb=>?_⟩
    ·rcases jJ b hb with h1|⟨i,c,hi,h1⟩
     ·exact(cv.1 b h1).2
     ·exact((a4.ru i c hi).2 b h1).2
    ·rcases bO k' j c mn with⟨_,_,_,hp⟩|⟨_,hp⟩
     ·exact(a4.ru _ c hp).1
     ·exact cv.2.1 k' j c hp
    ·rcases bO k1 j1 c1 h1 with⟨e1,q1,q2,hp⟩|⟨_,hp⟩
     ·rcases bO k2 j2 c2 h2 with⟨e2,q3,q4,be⟩|⟨_,be⟩
      ·have gL:j1 - off≠j2 - off:=fun hh=>av (by rw[e1,e2,show j1=j2 by omega])
       exact a4.wq _ _ c1 c2 b gL hp be hb
      ·exact fun aE=>a4.rv _ c1 n gr .af rs xs b hp ni (by simp) hb ⟨k2,j2,c2,be,aE⟩
     ·rcases bO k2 j2 c2 h2 with⟨e2,q3,q4,be⟩|⟨_,be⟩
      ·exact fun aE=>a4.rv _ c2 n gr .af rs xs b be ni (by simp) aE ⟨k1,j1,c1,hp,hb⟩
      ·exact cv.2.2 k1 j1 c1 k2 j2 c2 b hp be av hb
    ·rcases jJ b hb with h1|⟨i,c,hi,h1⟩
     ·exact(cv.1 b h1).1
     ·exact OH i c b hi h1
    ·rcases jJ b hb with h1|⟨i,c,hi,h1⟩
     ·exact H0.eV n q gr .af rs xs aW mo ax ak ni hq (by simp) fY (Ne.symm fB) b h1
     ·exact a4.rv i c q aW mo ax ak b hi hq fY h1
 have Hn:HR B E w2 ⟨Im',ao G.g n p'⟩ (ao σ1.h n (some (.row gr m' rs (xs.set k (ci e off cs))))) σ.used []:=by
  refine H0.put (p:=p') (fun b hb av=>cB b (av rfl)) (by show w.heap.size<=w2.heap.size;rw[oO];exact Nat.le_refl _) (fun b _ hb=>oh b hb) (fun _ h=>h) xm
   (fun _=>⟨oe,nj,by show _<w2.heap.size;rw[oO];exact pu⟩)
   (fun _ q hq h0 fa=>(H0.inj q n h0 bi hq fa aD)) (fun _ q aW ax ak hq h0 b hb=>H0.live q aW ax ak h0 b hb n bi aD) (fun cs c q hb=>by cases hb) K2 ?_ ?_ ?_ (fun gr m sz xs _ _ i pc b hi=>by simp at hi) ?_
  ·refine⟨hr.pos,?_,(fun hl=>by cases hl),fun _=>⟨oh _ l1,dR,by show((G.g n).px.set k CH).length<=_;simpa using l3⟩,fun _ Es=>?_,?_,fun XF eR=>?_⟩
   ·show xs.set k (ci e off cs)=((G.g n).px.set k CH).map _
    rw[List.map_set,<-hr.er]
    congr 1
    show ci e off cs=(ci pe off bg).map PC.er
    rw[C5,tw,a1]
   ·obtain⟨r2,ie,e',r3,r4⟩:=hr.room aD Es
    rw[hg] at r3
    injection r3 with r3
    injection r3 with r3 _ _
    subst r3
    obtain⟨MA,c1,c2⟩:=Dg (vs:=us) (o:=(G.g n).o+k*rs+off) hg eP
    exact⟨r2,MA,et,c1,by rw[c2];exact r4⟩
   ·show yJ B E w2 ⟨Im',_⟩ px' m'
    by_cases gi:m'=.aG
    ·rw[gi]
     intro b hb
     rcases jJ b hb with h1|⟨i,c,hi,h1⟩
     ·have cv:=hr.mode
      rcases eY with⟨_,h2,_⟩|⟨hm,_⟩
      ·rw[gi] at h2;cases h2
      ·cases m with
       |aG=>exact cv b h1
       |af=>exact(cv.1 b h1).1
       |live=>exact absurd rfl hm
     ·exact OH i c b hi h1
    ·obtain⟨o1,o2,o3,o4,o5⟩:=OG gi
     cases m' with
     |aG=>exact absurd rfl gi
     |af=>exact⟨fun b hb=>⟨o3 rfl b hb,oh b (o1 b hb).1,(o1 b hb).2⟩,o2⟩
     |live=>
      refine⟨fun b hb=>⟨?_,oh b (o1 b hb).1,(o1 b hb).2⟩,o2⟩
      have cv:=hr.mode
      rcases eY with⟨hm,_,_⟩|⟨hm,bm⟩
      ·subst hm;exact(cv.1 b (o4 rfl b hb)).1
      ·cases ow
       ·simp at bm
       ·simp at bm;exact absurd bm.symm hm
   ·rcases eY with⟨_,_,_,_,hg2⟩|⟨hm,bm⟩
    ·rw[hg2] at XF;cases XF
    ·rw[eR] at bm
     cases ow
     ·simp at bm
     ·simp at bm;exact absurd bm.symm hm
  ·intro aW m2 ax ak hb gi q BE mo gm eT fB hq fY b bL
   injection hb with _ hb _ _
   subst hb
   exact(OG gi).2.2.2.2 q BE mo gm eT fB hq fY b bL
  ·intro aW ax ak hb b bL
   injection hb with _ hb _ _
   subst hb
   have dJ:=(OG (by simp)).2.2.2.1 rfl b bL
   have hm:m=.live:=by
    rcases eY with⟨hm,_,_⟩|⟨hm,bm⟩
    ·exact hm
    ·cases ow
     ·simp at bm
     ·simp at bm;exact absurd bm.symm hm
   subst hm
   exact⟨fun _=>H0.live n gr rs xs ni b dJ n bi aD,fun q fB hq Jd=>H0.live n gr rs xs ni b dJ q hq Jd⟩
  ·intro _ _ b hb
   obtain⟨q,aW,mo,ax,ak,hq,h0,bL⟩:=hb
   exact H0.nc bi aD h0 bL
 refine⟨⟨Im',ao G.g n p'⟩,?_⟩
 exact r.step (σ':=σ1.cW n (.row gr m' rs (xs.set k (ci e off cs)))) a6 (fun q hq=>by show σ1.used q=true;rw[a7];exact hq)
  (aR.trans (u2:=fun n=>σ.used n=true) (fun _ h=>h) a5 K2) (by show HR B E w2 _ (ao σ1.h n _) σ1.used [];rw[a7];exact Hn) (r.fr.one nj (fun b hb av=>cB b av) (by show w.heap.size<=w2.heap.size;rw[oO];exact Nat.le_refl _) (yq hg eP) rfl rfl rfl)
end
end Go.Am
