/- Am12: stores. No condition. -/
import Derived.Test.YtifmggmhdcdgbaaAm11
set_option linter.unusedVariables false
namespace Go.Am
theorem Kl {α:Type} {l vs:List α} {off:Nat} (h:off+vs.length<=l.length):(bP l off vs).length=l.length:=by
 simp[bP];omega
theorem wP {α:Type} {l vs:List α} {off j:Nat} (h:off+vs.length<=l.length):(bP l off vs)[j]? =if off<=j/\j<off+vs.length then vs[j - off]? else l[j]? :=by
 unfold bP
 have ht:(l.take off).length=off:=by simp;omega
 by_cases h1:j<off
 ·rw[if_neg (by omega),List.append_assoc,List.getElem?_append_left (by omega),List.getElem?_take_of_lt h1]
 ·by_cases h2:j<off+vs.length
  ·rw[if_pos ⟨by omega,h2⟩,List.append_assoc,List.getElem?_append_right (by omega),List.getElem?_append_left (by omega),ht]
  ·rw[if_neg (by omega),List.getElem?_append_right (by simp;omega),List.getElem?_drop]
   congr 1
   simp
   omega
theorem BT {α β:Type} (f:α->β) (l vs:List α) (off:Nat):(bP l off vs).map f=bP (l.map f) off (vs.map f):=by
 simp[bP,List.map_take,List.map_drop]
def dS (w:World) (b o:Nat) (vs:List Value) (cur:Array Value):World:=w.setRow b (cur.toList.take o++vs++cur.toList.drop (o+vs.length)).toArray
section
variable {w:World} {b o:Nat} {vs:List Value} {cur:Array Value} {e:TypeId}
theorem B7 (hg:w.heap[b]? =some (.cells cur e (0,0))) (hl:o+vs.length<=cur.size) (x:Nat):
  (dS w b o vs cur).cell? (ad b x)=if o<=x/\x<o+vs.length then vs[x - o]? else w.cell? (ad b x):=by
 unfold dS ad
 rw[cell_setRow_same w b x cur _ e (0,0) hg]
 have h1:=wP (l:=cur.toList) (vs:=vs) (off:=o) (j:=x) (by simpa using hl)
 simp only[bP] at h1
 rw[List.getElem?_toArray,h1]
 have h2:w.cell? ⟨b,x,none⟩=cur[x]? :=by simp[World.cell?,hg]
 rw[h2]
 simp
theorem zb (k:Nat) (hk:k≠b):(dS w b o vs cur).heap[k]? =w.heap[k]? :=setRow_other w b k _ hk
theorem qk:(dS w b o vs cur).heap.size=w.heap.size:=setRow_size _ _ _
theorem KI (hg:w.heap[b]? =some (.cells cur e (0,0))) (hl:o+vs.length<=cur.size):∃iK,(dS w b o vs cur).heap[b]? =some (.cells iK e (0,0))/\iK.size=cur.size:=by
 refine⟨_,setRow_heap w b cur _ e (0,0) hg,?_⟩
 simp
 omega
theorem B8 (hg:w.heap[b]? =some (.cells cur e (0,0))) (hl:o+vs.length<=cur.size):Cz w (dS w b o vs cur) b:=by
 intro arr e' h
 obtain⟨iK,h1,h2⟩:=KI (vs:=vs) (o:=o) hg hl
 rw[hg] at h
 injection h with h
 injection h with ha hb
 subst ha hb
 exact⟨iK,h1,h2⟩
theorem KJ (hg:w.heap[b]? =some (.cells cur e (0,0))) (hl:o+vs.length<=cur.size) (k:Nat) (hk:da w k):da (dS w b o vs cur) k:=by
 by_cases Xo:k=b
 ·subst Xo
  obtain⟨iK,h1,_⟩:=KI (vs:=vs) (o:=o) hg hl
  exact⟨iK,e,h1⟩
 ·exact hk.congr (zb k Xo)
end
section
variable {B:Nat} {E:Ex} {w0 w w':World} {G G':Gh} {h h':Nat->Option ar} {used used':Nat->Bool} {tk:List PC} {N:Nat}
variable {P:Program} {o:Oper} {a:Act} {σ σ':St} {Q:Exit->Act->World->Prop}
theorem Fc {α:Type} (f:Nat->α) (n:Nat):av f n (f n)=f:=by
 funext m;simp only[iE];split
 ·rename_i h;rw[h]
 ·rfl
theorem J7 {t:TypeId} {i:TypeInfo} {b off:Nat} {v:Value} {cur:Array Value} {e:TypeId} (hi:P.info? t=some i) (bA:v.cells.size=i.size) (hg:w.heap[b]? =some (.cells cur e (0,0)))
  (hl:off+v.cells.size<=cur.size) (h1:∀u∈v.cells.toList,u.oneCell'=true):
  (storeVar t (ad b off) v).run P w=.ok () (dS w b off v.cells.toList cur):=by
 have mI:=run_storeCells_at P b off e v.cells.toList 0 cur w hg (by simpa using hl) h1
 simp only[Nat.add_zero] at mI
 simp[storeVar,sizeOf,typeInfo,hi,bA,ad,mI,dS]
theorem HR.rR (H:HR B E w G h used tk) {n m:Nat} {gr:Bool} {mo:Mode} {sz:Nat} {xs:List (List C)} (hn:h n≠none) (hl:(G.g n).nl=false) (hm:h m=some (.row gr mo sz xs)) {b:Nat} (hb:aR b (G.g m).px):b≠(G.g n).b:=by
 have cA:=(H.row m gr mo sz xs hm).mode
 cases mo with
 |aE=>rintro rfl;exact(H.own n hn hl).1 (cA _ hb)
 |aa=>rintro rfl;exact(H.own n hn hl).1 (cA.1 _ hb).1
 |live=>exact H.live m gr sz xs hm b hb n hn hl
theorem R.anV (r:R B E w0 N σ a w G) {n:Nat} {cs:List ah} {vs:List ah} {us:List Value} {off:Nat} (hn:σ.h n=some (.box cs)) (hv:cj w G σ.h vs us) (g0:∀c∈vs,∀m,c.ref m->σ.used m=true)
  (hl:off+vs.length<=cs.length) {cur:Array Value} {e:TypeId} (hg:w.heap[(G.g n).b]? =some (.cells cur e (0,0))) (gz:(G.g n).o+off+us.length<=cur.size):
  R B E w0 N (σ.cX n (.box (bP cs off vs))) a (dS w (G.g n).b ((G.g n).o+off) us cur) G:=by
 have H:=r.hr
 have bF:σ.h n≠none:=by rw[hn];simp
 obtain⟨aL,r7,gy⟩:=H.box n cs hn
 obtain⟨qN,pC,qO⟩:=H.own n bF aL
 have vL:=H.iq n bF
 have hG:(⟨G.Im,av G.g n (G.g n)⟩:Gh)=G:=by rw[Fc]
 have hlen:us.length=vs.length:=hv.1
 have ed:∀b,b<w.heap.size->b≠(G.g n).b->(dS w (G.g n).b ((G.g n).o+off) us cur).heap[b]? =w.heap[b]? :=fun b _ hb=>zb b hb
 have K:aV w G σ.h (fun n=>σ.used n=true) (dS w (G.g n).b ((G.g n).o+off) us cur) G (av σ.h n (some (.box (bP cs off vs)))):=by
  refine⟨fun _ h=>h,fun b hb x=>gW (ed b (H.fk b hb) (fun he=>qN (he▸hb))) x,fun m hm h0=>?_,fun m gr sz xs hm h0=>?_⟩
  ·by_cases bu:m=n
   ·subst bu;exact⟨bF,rfl,rfl,rfl,rfl,rfl⟩
   ·rw[bS _ _ _ _ bu] at h0;exact⟨h0,rfl,rfl,rfl,rfl,rfl⟩
  ·by_cases bu:m=n
   ·subst bu;rw[bw] at h0;cases h0
   ·rw[bS _ _ _ _ bu] at h0;exact⟨⟨gr,xs,h0⟩,fun k j pc h1 h2=>⟨pc,h1,rfl,h2⟩⟩
 have Hn:HR B E (dS w (G.g n).b ((G.g n).o+off) us cur) ⟨G.Im,av G.g n (G.g n)⟩ (av σ.h n (some (.box (bP cs off vs)))) σ.used []:=by
  refine H.put (fun b hb aA=>ed b hb (aA aL)) (by rw[qk];exact Nat.le_refl _) (fun b _ hb=>KJ hg gz b hb) (fun _ h=>h) vL (fun _=>⟨qN,pC,by rw[qk];exact qO⟩)
   (fun _ m hm h0 kb=>(H.inj m n h0 bF hm kb aL)) (fun _ m gr sz xs hm h0 b hb=>H.live m gr sz xs h0 b hb n bF aL) ?_ (by rw[hG];exact K) ?_
   (fun gr m sz xs hb=>by cases hb) (fun gr sz xs hb=>by cases hb) (fun gr m sz xs hb=>by cases hb) ?_
  ·intro cs' c m hb hc hm
   injection hb with hb
   subst hb
   simp only[bP,List.mem_append] at hc
   rcases hc with(hc|hc)|hc
   ·exact H.f8 n cs c m hn (List.mem_of_mem_take hc) hm
   ·exact g0 c hc m hm
   ·exact H.f8 n cs c m hn (List.mem_of_mem_drop hc) hm
  ·rw[hG]
   refine⟨aL,KJ hg gz _ r7,fun j c hj=>?_⟩
   rw[wP hl] at hj
   rw[B7 hg gz]
   by_cases fH:off<=j/\j<off+vs.length
   ·rw[if_pos fH] at hj
    rw[if_pos (by omega)]
    have tO:j - off<us.length:=by omega
    have hu:us[j - off]? =some (us[j - off]'tO):=List.getElem?_eq_getElem tO
    obtain⟨q1,q2⟩:=hv.2 _ _ _ hj hu
    refine⟨_,by rw[<-hu];congr 1;omega,q1,q2.ek K (g0 c (List.mem_of_getElem? hj))⟩
   ·rw[if_neg fH] at hj
    rw[if_neg (by omega)]
    obtain⟨v,v1,v2,v3⟩:=gy j c hj
    exact⟨v,v1,v2,v3.ek K (fun m hm=>H.f8 n cs c m hn (List.mem_of_getElem? hj) hm)⟩
  ·intro _ _ b hb
   obtain⟨m,gr,mo,sz,xs,hm,h0,bW⟩:=hb
   exact H.rR bF aL h0 bW
 rw[hG] at Hn
 exact r.step (σ':=σ.cX n (.box (bP cs off vs))) rfl (fun _ h=>h) K Hn (r.fr.one pC (fun b hb aA=>ed b hb aA) (by rw[qk];exact Nat.le_refl _) (B8 hg gz) rfl rfl rfl)
theorem GQ {α:Type} {px:List (List α)} {k k' j:Nat} {pe:List α} {c:α} (hk:k<px.length) (h:At (px.set k pe) k' j c):(k'=k/\pe[j]? =some c)\/(k'≠k/\At px k' j c):=by
 obtain⟨e,he,hj⟩:=h
 by_cases vE:k'=k
 ·subst vE
  rw[List.getElem?_set_self hk] at he
  injection he with he
  subst he
  exact .inl ⟨rfl,hj⟩
 ·rw[List.getElem?_set_ne (Ne.symm vE)] at he
  exact .inr ⟨vE,e,he,hj⟩
theorem PC.YH {pc:PC} (h:pc.fV=true):pc.er.dR=false:=by
 cases pc<;>simp[PC.fV] at h
 simp[PC.df,C.dR]
theorem R.ma (r:R B E w0 N σ a w G) {n:Nat} {gr:Bool} {m:Mode} {rs:Nat} {xs:List (List C)} {k off:Nat} {e:List C} {vs:List ah} {us:List Value} {σ2:St}
  (hn:σ.h n=some (.row gr m rs xs)) (aL:(G.g n).nl=false) (hk:xs[k]? =some e) (hv:cj w G σ.h vs us) (g0:∀c∈vs,∀m,c.ref m->σ.used m=true)
  (hx:Am.ma σ n gr m rs xs k off e vs=some σ2) {cur:Array Value} {et:TypeId} (hg:w.heap[(G.g n).b]? =some (.cells cur et (0,0))) (gz:(G.g n).o+k*rs+off+us.length<=cur.size):
  ∃G',R B E w0 N σ2 a (dS w (G.g n).b ((G.g n).o+k*rs+off) us cur) G':=by
 unfold Am.ma at hx
 split at hx
 ·cases hx
 rename_i fB eT
 obtain⟨s1,s2,s3⟩:=EZ eT
 split at hx
 ·cases hx
 rename_i cs ow σ1 Oe
 obtain⟨Im',bo,a1,a2,a3,a4,a5,a6,a7,a8⟩:=HR.eY r.hr Oe hv g0
 simp only[List.nil_append] at a4
 have H0:HR B E w ⟨Im',G.g⟩ σ1.h σ.used []:=by
  cases ow
  ·simpa using a4
  ·have a4':HR B E w ⟨Im',G.g⟩ σ1.h σ.used ([]++bo):=by simpa using a4
   exact a4'.wX
 have hlen:us.length=vs.length:=hv.1
 have fK:bo.length=vs.length:=by have:=congrArg List.length a2;simp at this;omega
 have afs:(σ1.h n).isSome=true/\∃m',σ2=σ1.cX n (.row gr m' rs (xs.set k (bP e off cs)))/\
   ((m=.live/\m'=.live/\eO cs=true/\eO fB=true)\/(m≠ .live/\m'=if ow=true then m else .aE)):=by
  split at hx
  ·rename_i hm
   split at hx
   ·rename_i hc
    injection hx with hx
    exact⟨hc.2.2,m,by rw[<-hx],.inl ⟨hm,hm,hc.1,hc.2.1⟩⟩
   ·cases hx
  ·rename_i hm
   split at hx
   ·rename_i hs
    injection hx with hx
    exact⟨hs,_,hx.symm,.inr ⟨hm,rfl⟩⟩
   ·cases hx
 obtain⟨Al,m',rfl,gf⟩:=afs
 have mH:σ1.h n=some (.row gr m rs xs):=by
  cases hh:σ1.h n with
  |none=>rw[hh] at Al;cases Al
  |some b=>rw[<-a8 n b hh,hn]
 have bF:σ1.h n≠none:=by rw[mH];simp
 have hr:=H0.row n gr m rs xs mH
 obtain⟨qN,pC,qO⟩:=H0.own n bF aL
 have vL:=H0.iq n bF
 obtain⟨l1,l2,l3⟩:=hr.dq aL
 have tR:∃pe,(G.g n).px[k]? =some pe/\pe.map PC.er=e:=by
  have tL:=hr.er
  rw[tL,List.getElem?_map] at hk
  cases hp:(G.g n).px[k]? with
  |none=>rw[hp] at hk;cases hk
  |some pe=>rw[hp] at hk;simp at hk;exact⟨pe,rfl,hk⟩
 obtain⟨pe,vH,vI⟩:=tR
 have Ad:k<(G.g n).px.length:=(List.getElem?_eq_some_iff.1 vH).1
 have Ic:pe.length=rs:=l2.1 pe (List.mem_of_getElem? vH)
 have Ib:off+bo.length<=pe.length:=by rw[<-vI] at s1;simp at s1;omega
 let Bu:=bP pe off bo
 let px':=(G.g n).px.set k Bu
 let w2:=dS w (G.g n).b ((G.g n).o+k*rs+off) us cur
 let p':PB:=⟨false,(G.g n).b,(G.g n).o,(G.g n).cap,px',(G.g n).na⟩
 have Xw:Bu.length=rs:=by show(bP pe off bo).length=rs;rw[Kl Ib,Ic]
 have bZ:∀k' j c,At px' k' j c->(k'=k/\off<=j/\j<off+bo.length/\bo[j - off]? =some c)\/((k'≠k\/¬(off<=j/\j<off+bo.length))/\At (G.g n).px k' j c):=by
  intro k' j c h
  rcases GQ Ad h with⟨rfl,hj⟩|⟨aA,h⟩
  ·rw[wP Ib] at hj
   by_cases fH:off<=j/\j<off+bo.length
   ·rw[if_pos fH] at hj;exact .inl ⟨rfl,fH.1,fH.2,hj⟩
   ·rw[if_neg fH] at hj;exact .inr ⟨.inr fH,pe,vH,hj⟩
  ·exact .inr ⟨.inl aA,h⟩
 have afo:∀k' j c,At px' k' j c->j<rs:=by
  intro k' j c h
  obtain⟨e1,he,hj⟩:=h
  have:e1.length=rs:=by
   rcases List.mem_or_eq_of_mem_set (List.mem_of_getElem? he) with h1|h1
   ·exact l2.1 e1 h1
   ·rw[h1];exact Xw
  rw[<-this]
  exact(List.getElem?_eq_some_iff.1 hj).1
 have qK:∀b,aR b px'->aR b (G.g n).px\/∃(i:Nat) (c:PC),bo[i]? =some c/\aN b c:=by
  rintro b ⟨k',j,c,lG,hb⟩
  rcases bZ k' j c lG with⟨_,_,_,hp⟩|⟨_,hp⟩
  ·exact .inr ⟨_,c,hp,hb⟩
  ·exact .inl ⟨k',j,c,hp,hb⟩
 have ed:∀b,b≠(G.g n).b->w2.heap[b]? =w.heap[b]? :=fun b hb=>zb b hb
 have N4:∀(i:Nat) (c:PC) (b:Nat),bo[i]? =some c->aN b c->Im' b:=fun i c b hi hb=>(a3 c (List.mem_of_getElem? hi)).2 b hb
 have HS:∀b,Im' b->b≠(G.g n).b:=fun b hb he=>qN (he▸hb)
 have N1:∀b,aR b (G.g n).px->b≠(G.g n).b:=fun b hb=>H0.rR bF aL mH hb
 have jh:n5 w2 (G.g n).b (G.g n).o rs px':=by
  refine⟨fun e1 he=>?_,fun k' j c lG=>?_,fun k' j c lG=>?_⟩
  ·rcases List.mem_or_eq_of_mem_set he with h1|h1
   ·exact l2.1 e1 h1
   ·rw[h1];exact Xw
  ·have hj:=afo k' j c lG
   show w2.cell? _=_
   rw[B7 hg gz]
   rcases bZ k' j c lG with⟨rfl,h1,h2,hp⟩|⟨aA,hp⟩
   ·rw[if_pos (by omega)]
    have hu:us[j - off]? =some c.val:=by rw[<-a2,List.getElem?_map,hp];rfl
    rw[<-hu]
    congr 1
    omega
   ·rw[if_neg ?_]
    ·exact l2.2.1 k' j c hp
    ·rintro⟨q1,q2⟩
     rcases aA with aA|aA
     ·rcases Nat.lt_or_gt_of_ne aA with bN|x8
      ·have:(k'+1)*rs<=k*rs:=Nat.mul_le_mul_right _ bN
       rw[Nat.add_mul] at this
       omega
      ·have:(k+1)*rs<=k'*rs:=Nat.mul_le_mul_right _ x8
       rw[Nat.add_mul] at this
       omega
     ·have:k'=k:=by
       rcases Nat.lt_trichotomy k' k with bN|dh|x8
       ·have:(k'+1)*rs<=k*rs:=Nat.mul_le_mul_right _ bN
        rw[Nat.add_mul] at this
        omega
       ·exact dh
       ·have:(k+1)*rs<=k'*rs:=Nat.mul_le_mul_right _ x8
        rw[Nat.add_mul] at this
        omega
      subst this
      omega
  ·rcases bZ k' j c lG with⟨_,_,_,hp⟩|⟨_,hp⟩
   ·exact(a3 c (List.mem_of_getElem? hp)).1.congr fun b hb x=>gW (ed b (HS b (N4 _ c b hp hb))) x
   ·exact(l2.2.2 k' j c hp).congr fun b hb x=>gW (ed b (N1 b ⟨k',j,c,hp,hb⟩)) x
 have aoI:(G.g n).o+k*rs+off+us.length<=cur.size:=gz
 have iv:eO cs=true->∀(i:Nat) (c:PC) (b:Nat),bo[i]? =some c->¬aN b c:=by
  intro hs i c b hi
  have hc:c.er∈cs:=by rw[<-a1];exact List.mem_map_of_mem (List.mem_of_getElem? hi)
  exact(Sep.kx (pc:=c) (List.all_eq_true.1 hs _ hc)).2 b
 have hold:eO fB=true->∀j c,off<=j->j<off+bo.length->pe[j]? =some c->c.er.dR=true:=by
  intro hs j c h1 h2 hj
  have:c.er∈fB:=by
   have h3:fB[j - off]? =some c.er:=by
    have e0:fB[j - off]? =((e.drop off).take vs.length)[j - off]? :=congrArg (fun q:List C=>q[j - off]?) s2
    rw[e0,BZ (by omega),<-vI,List.getElem?_map,show off+(j - off)=j by omega,hj]
    rfl
   exact List.mem_of_getElem? h3
  exact List.all_eq_true.1 hs _ this
 have K2:aV w ⟨Im',G.g⟩ σ1.h (fun n=>σ.used n=true) w2 ⟨Im',av G.g n p'⟩ (av σ1.h n (some (.row gr m' rs (xs.set k (bP e off cs))))):=by
  refine⟨fun _ h=>h,fun b hb x=>gW (ed b (HS b hb)) x,fun q hq h0=>?_,fun q bf aK au hq h0=>?_⟩
  ·by_cases eS:q=n
   ·subst eS
    refine⟨bF,?_⟩
    simp only[bw]
    exact⟨aL.symm,rfl,rfl,rfl,rfl⟩
   ·rw[bS _ _ _ _ eS] at h0
    simp only[bS _ _ _ _ eS]
    exact⟨h0,trivial,trivial,trivial,trivial,trivial⟩
  ·by_cases eS:q=n
   ·subst eS
    rw[bw] at h0
    injection h0 with h0
    injection h0 with e1 e2 e3 e4
    subst e1;subst e2;subst e3
    rcases gf with⟨hm,_,hs,XF⟩|⟨hm,bz⟩
    ·subst hm
     refine⟨⟨gr,xs,mH⟩,fun k' j pc lG hL=>?_⟩
     simp only[bw]
     refine⟨pc,?_,rfl,hL⟩
     obtain⟨e1,he,hj⟩:=lG
     by_cases vE:k'=k
     ·subst vE
      rw[vH] at he
      injection he with he
      subst he
      refine⟨Bu,List.getElem?_set_self Ad,?_⟩
      show(bP pe off bo)[j]? =some pc
      rw[wP Ib]
      rw[if_neg ?_]
      ·exact hj
      ·rintro⟨q1,q2⟩
       have:=hold XF j pc q1 q2 hj
       rw[PC.YH hL] at this
       cases this
     ·exact⟨e1,by show((G.g q).px.set k Bu)[k']? =some e1;rw[List.getElem?_set_ne (Ne.symm vE)];exact he,hj⟩
    ·cases ow
     ·simp at bz
     ·simp at bz;exact absurd bz.symm hm
   ·rw[bS _ _ _ _ eS] at h0
    simp only[bS _ _ _ _ eS]
    exact⟨⟨bf,au,h0⟩,fun k j pc h1 h2=>⟨pc,h1,rfl,h2⟩⟩
 have tV:∀b,da w b->da w2 b:=fun b hb=>KJ hg gz b hb
 have N3:m'≠ .aE->(∀b,aR b px'->da w b/\(B<=b\/E b))/\gI px'/\(m'=.aa->∀b,aR b px'->Im' b)/\(m'=.live->∀b,aR b px'->aR b (G.g n).px)/\
   (∀q bf mo aK au,q≠n->σ1.h q=some (.row bf mo aK au)->mo≠ .aE->∀b,aR b px'->¬aR b (G.g q).px):=by
  intro gA
  have cA:=hr.mode
  rcases gf with⟨rfl,rfl,hs,XF⟩|⟨hm,bz⟩
  ·have eT:∀b,aR b px'->aR b (G.g n).px:=fun b hb=>(qK b hb).resolve_right (fun⟨i,c,hi,hb⟩=>iv hs i c b hi hb)
   refine⟨fun b hb=>(cA.1 b (eT b hb)).2,⟨fun k' j c lG=>?_,fun k1 j1 c1 k2 j2 c2 b h1 h2 aA hb=>?_⟩,(fun h=>by cases h),fun _=>eT,fun q bf mo aK au eS hq iu b hb=>H0.e7 n q gr .live rs xs bf mo aK au mH hq (by simp) iu (Ne.symm eS) b (eT b hb)⟩
   ·rcases bZ k' j c lG with⟨_,_,_,hp⟩|⟨_,hp⟩
    ·exact Sep.En (fun b hb=>iv hs _ c b hp hb) (a3 c (List.mem_of_getElem? hp)).1
    ·exact cA.2.1 k' j c hp
   ·rcases bZ k1 j1 c1 h1 with⟨_,_,_,hp⟩|⟨_,hp⟩
    ·exact absurd hb (iv hs _ c1 b hp)
    ·rcases bZ k2 j2 c2 h2 with⟨_,_,_,bc⟩|⟨_,bc⟩
     ·exact iv hs _ c2 b bc
     ·exact cA.2.2 k1 j1 c1 k2 j2 c2 b hp bc aA hb
  ·cases ow
   ·simp at bz;exact absurd bz gA
   ·simp only[if_true] at bz a4
    subst bz
    have H6:m'=.aa:=by cases m'<;>first|rfl|exact absurd rfl hm|exact absurd rfl gA
    subst H6
    refine⟨fun b hb=>?_,⟨fun k' j c lG=>?_,fun k1 j1 c1 k2 j2 c2 b h1 h2 aA hb=>?_⟩,fun _ b hb=>?_,(fun h=>by cases h),fun q bf mo aK au eS hq iu b hb=>?_⟩
    ·rcases qK b hb with h1|⟨i,c,hi,h1⟩
     ·exact(cA.1 b h1).2
     ·exact((a4.qh i c hi).2 b h1).2
    ·rcases bZ k' j c lG with⟨_,_,_,hp⟩|⟨_,hp⟩
     ·exact(a4.qh _ c hp).1
     ·exact cA.2.1 k' j c hp
    ·rcases bZ k1 j1 c1 h1 with⟨e1,q1,q2,hp⟩|⟨_,hp⟩
     ·rcases bZ k2 j2 c2 h2 with⟨e2,q3,q4,bc⟩|⟨_,bc⟩
      ·have jC:j1 - off≠j2 - off:=fun hh=>aA (by rw[e1,e2,show j1=j2 by omega])
       exact a4.uK _ _ c1 c2 b jC hp bc hb
      ·exact fun aU=>a4.qi _ c1 n gr .aa rs xs b hp mH (by simp) hb ⟨k2,j2,c2,bc,aU⟩
     ·rcases bZ k2 j2 c2 h2 with⟨e2,q3,q4,bc⟩|⟨_,bc⟩
      ·exact fun aU=>a4.qi _ c2 n gr .aa rs xs b bc mH (by simp) aU ⟨k1,j1,c1,hp,hb⟩
      ·exact cA.2.2 k1 j1 c1 k2 j2 c2 b hp bc aA hb
    ·rcases qK b hb with h1|⟨i,c,hi,h1⟩
     ·exact(cA.1 b h1).1
     ·exact N4 i c b hi h1
    ·rcases qK b hb with h1|⟨i,c,hi,h1⟩
     ·exact H0.e7 n q gr .aa rs xs bf mo aK au mH hq (by simp) iu (Ne.symm eS) b h1
     ·exact a4.qi i c q bf mo aK au b hi hq iu h1
 have Hn:HR B E w2 ⟨Im',av G.g n p'⟩ (av σ1.h n (some (.row gr m' rs (xs.set k (bP e off cs))))) σ.used []:=by
  refine H0.put (p:=p') (fun b hb aA=>ed b (aA rfl)) (by show w.heap.size<=w2.heap.size;rw[qk];exact Nat.le_refl _) (fun b _ hb=>tV b hb) (fun _ h=>h) vL
   (fun _=>⟨qN,pC,by show _<w2.heap.size;rw[qk];exact qO⟩)
   (fun _ q hq h0 kb=>(H0.inj q n h0 bF hq kb aL)) (fun _ q bf aK au hq h0 b hb=>H0.live q bf aK au h0 b hb n bF aL) (fun cs c q hb=>by cases hb) K2 ?_ ?_ ?_ (fun gr m sz xs _ _ i pc b hi=>by simp at hi) ?_
  ·refine⟨hr.pos,?_,(fun hl=>by cases hl),fun _=>⟨tV _ l1,jh,by show((G.g n).px.set k Bu).length<=_;simpa using l3⟩,fun _ hgr=>?_,?_⟩
   ·show xs.set k (bP e off cs)=((G.g n).px.set k Bu).map _
    rw[List.map_set,<-hr.er]
    congr 1
    show bP e off cs=(bP pe off bo).map PC.er
    rw[BT,vI,a1]
   ·obtain⟨r2,iK,e',r3,r4⟩:=hr.room aL hgr
    rw[hg] at r3
    injection r3 with r3
    injection r3 with r3 _ _
    subst r3
    obtain⟨ac5,c1,c2⟩:=KI (vs:=us) (o:=(G.g n).o+k*rs+off) hg gz
    exact⟨r2,ac5,et,c1,by rw[c2];exact r4⟩
   ·show Ch B E w2 ⟨Im',_⟩ px' m'
    by_cases gA:m'=.aE
    ·rw[gA]
     intro b hb
     rcases qK b hb with h1|⟨i,c,hi,h1⟩
     ·have cA:=hr.mode
      rcases gf with⟨_,h2,_⟩|⟨hm,_⟩
      ·rw[gA] at h2;cases h2
      ·cases m with
       |aE=>exact cA b h1
       |aa=>exact(cA.1 b h1).1
       |live=>exact absurd rfl hm
     ·exact N4 i c b hi h1
    ·obtain⟨o1,o2,o3,o4,o5⟩:=N3 gA
     cases m' with
     |aE=>exact absurd rfl gA
     |aa=>exact⟨fun b hb=>⟨o3 rfl b hb,tV b (o1 b hb).1,(o1 b hb).2⟩,o2⟩
     |live=>
      refine⟨fun b hb=>⟨?_,tV b (o1 b hb).1,(o1 b hb).2⟩,o2⟩
      have cA:=hr.mode
      rcases gf with⟨hm,_,_⟩|⟨hm,bz⟩
      ·subst hm;exact(cA.1 b (o4 rfl b hb)).1
      ·cases ow
       ·simp at bz
       ·simp at bz;exact absurd bz.symm hm
  ·intro bf m2 aK au hb gA q z5 mo jS gH eS hq iu b bW
   injection hb with _ hb _ _
   subst hb
   exact(N3 gA).2.2.2.2 q z5 mo jS gH eS hq iu b bW
  ·intro bf aK au hb b bW
   injection hb with _ hb _ _
   subst hb
   have eT:=(N3 (by simp)).2.2.2.1 rfl b bW
   have hm:m=.live:=by
    rcases gf with⟨hm,_,_⟩|⟨hm,bz⟩
    ·exact hm
    ·cases ow
     ·simp at bz
     ·simp at bz;exact absurd bz.symm hm
   subst hm
   exact⟨fun _=>H0.live n gr rs xs mH b eT n bF aL,fun q eS hq Ie=>H0.live n gr rs xs mH b eT q hq Ie⟩
  ·intro _ _ b hb
   obtain⟨q,bf,mo,aK,au,hq,h0,bW⟩:=hb
   exact H0.rR bF aL h0 bW
 refine⟨⟨Im',av G.g n p'⟩,?_⟩
 exact r.step (σ':=σ1.cX n (.row gr m' rs (xs.set k (bP e off cs)))) a6 (fun q hq=>by show σ1.used q=true;rw[a7];exact hq)
  (aV.trans (u2:=fun n=>σ.used n=true) (fun _ h=>h) a5 K2) (by show HR B E w2 _ (av σ1.h n _) σ1.used [];rw[a7];exact Hn) (r.fr.one pC (fun b hb aA=>ed b aA) (by show w.heap.size<=w2.heap.size;rw[qk];exact Nat.le_refl _) (B8 hg gz) rfl rfl rfl)
end
end Go.Am
