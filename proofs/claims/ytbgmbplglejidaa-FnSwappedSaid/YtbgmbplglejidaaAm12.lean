/- Am12: stores. No condition. -/
import Derived.Test.YtbgmbplglejidaaAm11
set_option linter.unusedVariables false
namespace Go.Am
theorem LF {α:Type} {l vs:List α} {off:Nat} (h:off+vs.length<=l.length):(cv l off vs).length=l.length:=by
 simp[cv];omega
theorem xS {α:Type} {l vs:List α} {off j:Nat} (h:off+vs.length<=l.length):(cv l off vs)[j]? =if off<=j/\j<off+vs.length then vs[j - off]? else l[j]? :=by
 unfold cv
 have ht:(l.take off).length=off:=by simp;omega
 by_cases h1:j<off
 ·rw[if_neg (by omega),List.append_assoc,List.getElem?_append_left (by omega),List.getElem?_take_of_lt h1]
 ·by_cases h2:j<off+vs.length
  ·rw[if_pos ⟨by omega,h2⟩,List.append_assoc,List.getElem?_append_right (by omega),List.getElem?_append_left (by omega),ht]
  ·rw[if_neg (by omega),List.getElem?_append_right (by simp;omega),List.getElem?_drop]
   congr 1
   simp
   omega
theorem DA {α β:Type} (f:α->β) (l vs:List α) (off:Nat):(cv l off vs).map f=cv (l.map f) off (vs.map f):=by
 simp[cv,List.map_take,List.map_drop]
def eX (w:World) (b o:Nat) (vs:List Value) (cur:Array Value):World:=w.setRow b (cur.toList.take o++vs++cur.toList.drop (o+vs.length)).toArray
section
variable {w:World} {b o:Nat} {vs:List Value} {cur:Array Value} {e:TypeId}
theorem DP (hg:w.heap[b]? =some (.cells cur e (0,0))) (hl:o+vs.length<=cur.size) (x:Nat):
  (eX w b o vs cur).cell? (ad b x)=if o<=x/\x<o+vs.length then vs[x - o]? else w.cell? (ad b x):=by
 unfold eX ad
 rw[cell_setRow_same w b x cur _ e (0,0) hg]
 have h1:=xS (l:=cur.toList) (vs:=vs) (off:=o) (j:=x) (by simpa using hl)
 simp only[cv] at h1
 rw[List.getElem?_toArray,h1]
 have h2:w.cell? ⟨b,x,none⟩=cur[x]? :=by simp[World.cell?,hg]
 rw[h2]
 simp
theorem AJ (k:Nat) (hk:k≠b):(eX w b o vs cur).heap[k]? =w.heap[k]? :=setRow_other w b k _ hk
theorem rJ:(eX w b o vs cur).heap.size=w.heap.size:=setRow_size _ _ _
theorem L7 (hg:w.heap[b]? =some (.cells cur e (0,0))) (hl:o+vs.length<=cur.size):∃jP,(eX w b o vs cur).heap[b]? =some (.cells jP e (0,0))/\jP.size=cur.size:=by
 refine⟨_,setRow_heap w b cur _ e (0,0) hg,?_⟩
 simp
 omega
theorem DQ (hg:w.heap[b]? =some (.cells cur e (0,0))) (hl:o+vs.length<=cur.size):Cz w (eX w b o vs cur) b:=by
 intro arr e' h
 obtain⟨jP,h1,h2⟩:=L7 (vs:=vs) (o:=o) hg hl
 rw[hg] at h
 injection h with h
 injection h with ha hb
 subst ha hb
 exact⟨jP,h1,h2⟩
theorem L8 (hg:w.heap[b]? =some (.cells cur e (0,0))) (hl:o+vs.length<=cur.size) (k:Nat) (hk:dK w k):dK (eX w b o vs cur) k:=by
 by_cases hkb:k=b
 ·subst hkb
  obtain⟨jP,h1,_⟩:=L7 (vs:=vs) (o:=o) hg hl
  exact⟨jP,e,h1⟩
 ·exact hk.congr (AJ k hkb)
end
section
variable {B:Nat} {E:Ex} {w0 w w':World} {G G':Gh} {h h':Nat->Option ar} {used used':Nat->Bool} {tk:List PC} {N:Nat}
variable {P:Program} {o:Oper} {a:Act} {σ σ':St} {Q:Exit->Act->World->Prop}
theorem GR {α:Type} (f:Nat->α) (n:Nat):aA f n (f n)=f:=by
 funext m;simp only[jr];split
 ·rename_i h;rw[h]
 ·rfl
theorem Lm {t:TypeId} {i:TypeInfo} {b off:Nat} {v:Value} {cur:Array Value} {e:TypeId} (hi:P.info? t=some i) (bP:v.cells.size=i.size) (hg:w.heap[b]? =some (.cells cur e (0,0)))
  (hl:off+v.cells.size<=cur.size) (h1:∀u∈v.cells.toList,u.oneCell'=true):
  (storeVar t (ad b off) v).run P w=.ok () (eX w b off v.cells.toList cur):=by
 have nY:=run_storeCells_at P b off e v.cells.toList 0 cur w hg (by simpa using hl) h1
 simp only[Nat.add_zero] at nY
 simp[storeVar,sizeOf,typeInfo,hi,bP,ad,nY,eX]
theorem HR.tm (H:HR B E w G h used tk) {n m:Nat} {gr:Bool} {mo:Mode} {sz:Nat} {xs:List (List C)} (hn:h n≠none) (hl:(G.g n).nl=false) (hm:h m=some (.row gr mo sz xs)) {b:Nat} (hb:aZ b (G.g m).px):b≠(G.g n).b:=by
 have dd:=(H.row m gr mo sz xs hm).mode
 cases mo with
 |aG=>rintro rfl;exact(H.own n hn hl).1 (dd _ hb)
 |ae=>rintro rfl;exact(H.own n hn hl).1 (dd.1 _ hb).1
 |live=>exact H.live m gr sz xs hm b hb n hn hl
theorem R.ast (r:R B E w0 N σ a w G) {n:Nat} {cs:List aj} {vs:List aj} {us:List Value} {off:Nat} (hn:σ.h n=some (.box cs)) (hv:cZ w G σ.h vs us) (je:∀c∈vs,∀m,c.ref m->σ.used m=true)
  (hl:off+vs.length<=cs.length) {cur:Array Value} {e:TypeId} (hg:w.heap[(G.g n).b]? =some (.cells cur e (0,0))) (fW:(G.g n).o+off+us.length<=cur.size):
  R B E w0 N (σ.dB n (.box (cv cs off vs))) a (eX w (G.g n).b ((G.g n).o+off) us cur) G:=by
 have H:=r.hr
 have bS:σ.h n≠none:=by rw[hn];simp
 obtain⟨aN,tB,iw⟩:=H.box n cs hn
 obtain⟨se,qV,sf⟩:=H.own n bS aN
 have w7:=H.jc n bS
 have hG:(⟨G.Im,aA G.g n (G.g n)⟩:Gh)=G:=by rw[GR]
 have hlen:us.length=vs.length:=hv.1
 have dS:∀b,b<w.heap.size->b≠(G.g n).b->(eX w (G.g n).b ((G.g n).o+off) us cur).heap[b]? =w.heap[b]? :=fun b _ hb=>AJ b hb
 have K:bf w G σ.h (fun n=>σ.used n=true) (eX w (G.g n).b ((G.g n).o+off) us cur) G (aA σ.h n (some (.box (cv cs off vs)))):=by
  refine⟨fun _ h=>h,fun b hb x=>ja (dS b (H.gi b hb) (fun he=>se (he▸hb))) x,fun m hm h0=>?_,fun m gr sz xs hm h0=>?_⟩
  ·by_cases bL:m=n
   ·subst bL;exact⟨bS,rfl,rfl,rfl,rfl,rfl⟩
   ·rw[cE _ _ _ _ bL] at h0;exact⟨h0,rfl,rfl,rfl,rfl,rfl⟩
  ·by_cases bL:m=n
   ·subst bL;rw[bN] at h0;cases h0
   ·rw[cE _ _ _ _ bL] at h0;exact⟨⟨gr,xs,h0⟩,fun k j pc h1 h2=>⟨pc,h1,rfl,h2⟩⟩
 have Hn:HR B E (eX w (G.g n).b ((G.g n).o+off) us cur) ⟨G.Im,aA G.g n (G.g n)⟩ (aA σ.h n (some (.box (cv cs off vs)))) σ.used []:=by
  refine H.put (fun b hb aD=>dS b hb (aD aN)) (by rw[rJ];exact Nat.le_refl _) (fun b _ hb=>L8 hg fW b hb) (fun _ h=>h) w7 (fun _=>⟨se,qV,by rw[rJ];exact sf⟩)
   (fun _ m hm h0 lK=>(H.inj m n h0 bS hm lK aN)) (fun _ m gr sz xs hm h0 b hb=>H.live m gr sz xs h0 b hb n bS aN) ?_ (by rw[hG];exact K) ?_
   (fun gr m sz xs hb=>by cases hb) (fun gr sz xs hb=>by cases hb) (fun gr m sz xs hb=>by cases hb) ?_
  ·intro cs' c m hb hc hm
   injection hb with hb
   subst hb
   simp only[cv,List.mem_append] at hc
   rcases hc with(hc|hc)|hc
   ·exact H.g8 n cs c m hn (List.mem_of_mem_take hc) hm
   ·exact je c hc m hm
   ·exact H.g8 n cs c m hn (List.mem_of_mem_drop hc) hm
  ·rw[hG]
   refine⟨aN,L8 hg fW _ tB,fun j c hj=>?_⟩
   rw[xS hl] at hj
   rw[DP hg fW]
   by_cases gf:off<=j/\j<off+vs.length
   ·rw[if_pos gf] at hj
    rw[if_pos (by omega)]
    have m7:j - off<us.length:=by omega
    have hu:us[j - off]? =some (us[j - off]'m7):=List.getElem?_eq_getElem m7
    obtain⟨q1,q2⟩:=hv.2 _ _ _ hj hu
    refine⟨_,by rw[<-hu];congr 1;omega,q1,q2.ft K (je c (List.mem_of_getElem? hj))⟩
   ·rw[if_neg gf] at hj
    rw[if_neg (by omega)]
    obtain⟨v,v1,v2,v3⟩:=iw j c hj
    exact⟨v,v1,v2,v3.ft K (fun m hm=>H.g8 n cs c m hn (List.mem_of_getElem? hj) hm)⟩
  ·intro _ _ b hb
   obtain⟨m,gr,mo,sz,xs,hm,h0,cR⟩:=hb
   exact H.tm bS aN h0 cR
 rw[hG] at Hn
 exact r.step (σ':=σ.dB n (.box (cv cs off vs))) rfl (fun _ h=>h) K Hn (r.fr.one qV (fun b hb aD=>dS b hb aD) (by rw[rJ];exact Nat.le_refl _) (DQ hg fW) rfl rfl rfl)
theorem I0 {α:Type} {px:List (List α)} {k k' j:Nat} {pe:List α} {c:α} (hk:k<px.length) (h:At (px.set k pe) k' j c):(k'=k/\pe[j]? =some c)\/(k'≠k/\At px k' j c):=by
 obtain⟨e,he,hj⟩:=h
 by_cases wW:k'=k
 ·subst wW
  rw[List.getElem?_set_self hk] at he
  injection he with he
  subst he
  exact .inl ⟨rfl,hj⟩
 ·rw[List.getElem?_set_ne (Ne.symm wW)] at he
  exact .inr ⟨wW,e,he,hj⟩
theorem PC.abk {pc:PC} (h:pc.gW=true):pc.er.eV=false:=by
 cases pc<;>simp[PC.gW] at h
 simp[PC.dR,C.eV]
theorem R.nC (r:R B E w0 N σ a w G) {n:Nat} {gr:Bool} {m:Mode} {rs:Nat} {xs:List (List C)} {k off:Nat} {e:List C} {vs:List aj} {us:List Value} {σ2:St}
  (hn:σ.h n=some (.row gr m rs xs)) (aN:(G.g n).nl=false) (hk:xs[k]? =some e) (hv:cZ w G σ.h vs us) (je:∀c∈vs,∀m,c.ref m->σ.used m=true)
  (hx:Am.nC σ n gr m rs xs k off e vs=some σ2) {cur:Array Value} {et:TypeId} (hg:w.heap[(G.g n).b]? =some (.cells cur et (0,0))) (fW:(G.g n).o+k*rs+off+us.length<=cur.size):
  ∃G',R B E w0 N σ2 a (eX w (G.g n).b ((G.g n).o+k*rs+off) us cur) G':=by
 unfold Am.nC at hx
 split at hx
 ·cases hx
 rename_i fB fq
 obtain⟨s1,s2,s3⟩:=GH fq
 split at hx
 ·cases hx
 rename_i cs ow σ1 Qd
 obtain⟨Im',bx,a1,a2,a3,a4,a5,a6,a7,a8⟩:=HR.fD r.hr Qd hv je
 simp only[List.nil_append] at a4
 have H0:HR B E w ⟨Im',G.g⟩ σ1.h σ.used []:=by
  cases ow
  ·simpa using a4
  ·have a4':HR B E w ⟨Im',G.g⟩ σ1.h σ.used ([]++bx):=by simpa using a4
   exact a4'.xZ
 have hlen:us.length=vs.length:=hv.1
 have fY:bx.length=vs.length:=by have:=congrArg List.length a2;simp at this;omega
 have Pw:(σ1.h n).isSome=true/\∃m',σ2=σ1.dB n (.row gr m' rs (xs.set k (cv e off cs)))/\
   ((m=.live/\m'=.live/\fK cs=true/\fK fB=true)\/(m≠ .live/\m'=if ow=true then m else .aG)):=by
  split at hx
  ·rename_i hm
   split at hx
   ·rename_i hc
    injection hx with hx
    exact⟨hc.2.2,m,by rw[<-hx],.inl ⟨hm,hm,hc.1,hc.2.1⟩⟩
   ·cases hx
  ·rename_i hm
   split at hx
   ·rename_i hs
    injection hx with hx
    exact⟨hs,_,hx.symm,.inr ⟨hm,rfl⟩⟩
   ·cases hx
 obtain⟨Ck,m',rfl,gx⟩:=Pw
 have m9:σ1.h n=some (.row gr m rs xs):=by
  cases hh:σ1.h n with
  |none=>rw[hh] at Ck;cases Ck
  |some b=>rw[<-a8 n b hh,hn]
 have bS:σ1.h n≠none:=by rw[m9];simp
 have hr:=H0.row n gr m rs xs m9
 obtain⟨se,qV,sf⟩:=H0.own n bS aN
 have w7:=H0.jc n bS
 obtain⟨l1,l2,l3⟩:=hr.dW aN
 have tz:∃pe,(G.g n).px[k]? =some pe/\pe.map PC.er=e:=by
  have uZ:=hr.er
  rw[uZ,List.getElem?_map] at hk
  cases hp:(G.g n).px[k]? with
  |none=>rw[hp] at hk;cases hk
  |some pe=>rw[hp] at hk;simp at hk;exact⟨pe,rfl,hk⟩
 obtain⟨pe,wZ,w4⟩:=tz
 have pR:k<(G.g n).px.length:=(List.getElem?_eq_some_iff.1 wZ).1
 have Kf:pe.length=rs:=l2.1 pe (List.mem_of_getElem? wZ)
 have Cd:off+bx.length<=pe.length:=by rw[<-w4] at s1;simp at s1;omega
 let Da:=cv pe off bx
 let px':=(G.g n).px.set k Da
 let w2:=eX w (G.g n).b ((G.g n).o+k*rs+off) us cur
 let p':PB:=⟨false,(G.g n).b,(G.g n).o,(G.g n).cap,px',(G.g n).na⟩
 have aaB:Da.length=rs:=by show(cv pe off bx).length=rs;rw[LF Cd,Kf]
 have bU:∀k' j c,At px' k' j c->(k'=k/\off<=j/\j<off+bx.length/\bx[j - off]? =some c)\/((k'≠k\/¬(off<=j/\j<off+bx.length))/\At (G.g n).px k' j c):=by
  intro k' j c h
  rcases I0 pR h with⟨rfl,hj⟩|⟨aD,h⟩
  ·rw[xS Cd] at hj
   by_cases gf:off<=j/\j<off+bx.length
   ·rw[if_pos gf] at hj;exact .inl ⟨rfl,gf.1,gf.2,hj⟩
   ·rw[if_neg gf] at hj;exact .inr ⟨.inr gf,pe,wZ,hj⟩
  ·exact .inr ⟨.inl aD,h⟩
 have aiM:∀k' j c,At px' k' j c->j<rs:=by
  intro k' j c h
  obtain⟨e1,he,hj⟩:=h
  have:e1.length=rs:=by
   rcases List.mem_or_eq_of_mem_set (List.mem_of_getElem? he) with h1|h1
   ·exact l2.1 e1 h1
   ·rw[h1];exact aaB
  rw[<-this]
  exact(List.getElem?_eq_some_iff.1 hj).1
 have nV:∀b,aZ b px'->aZ b (G.g n).px\/∃(i:Nat) (c:PC),bx[i]? =some c/\aX b c:=by
  rintro b ⟨k',j,c,m8,hb⟩
  rcases bU k' j c m8 with⟨_,_,_,hp⟩|⟨_,hp⟩
  ·exact .inr ⟨_,c,hp,hb⟩
  ·exact .inl ⟨k',j,c,hp,hb⟩
 have dS:∀b,b≠(G.g n).b->w2.heap[b]? =w.heap[b]? :=fun b hb=>AJ b hb
 have P1:∀(i:Nat) (c:PC) (b:Nat),bx[i]? =some c->aX b c->Im' b:=fun i c b hi hb=>(a3 c (List.mem_of_getElem? hi)).2 b hb
 have JT:∀b,Im' b->b≠(G.g n).b:=fun b hb he=>se (he▸hb)
 have PY:∀b,aZ b (G.g n).px->b≠(G.g n).b:=fun b hb=>H0.tm bS aN m9 hb
 have fo:pB w2 (G.g n).b (G.g n).o rs px':=by
  refine⟨fun e1 he=>?_,fun k' j c m8=>?_,fun k' j c m8=>?_⟩
  ·rcases List.mem_or_eq_of_mem_set he with h1|h1
   ·exact l2.1 e1 h1
   ·rw[h1];exact aaB
  ·have hj:=aiM k' j c m8
   show w2.cell? _=_
   rw[DP hg fW]
   rcases bU k' j c m8 with⟨rfl,h1,h2,hp⟩|⟨aD,hp⟩
   ·rw[if_pos (by omega)]
    have hu:us[j - off]? =some c.val:=by rw[<-a2,List.getElem?_map,hp];rfl
    rw[<-hu]
    congr 1
    omega
   ·rw[if_neg ?_]
    ·exact l2.2.1 k' j c hp
    ·rintro⟨q1,q2⟩
     rcases aD with aD|aD
     ·rcases Nat.lt_or_gt_of_ne aD with bK|zf
      ·have:(k'+1)*rs<=k*rs:=Nat.mul_le_mul_right _ bK
       rw[Nat.add_mul] at this
       omega
      ·have:(k+1)*rs<=k'*rs:=Nat.mul_le_mul_right _ zf
       rw[Nat.add_mul] at this
       omega
     ·have:k'=k:=by
       rcases Nat.lt_trichotomy k' k with bK|ez|zf
       ·have:(k'+1)*rs<=k*rs:=Nat.mul_le_mul_right _ bK
        rw[Nat.add_mul] at this
        omega
       ·exact ez
       ·have:(k+1)*rs<=k'*rs:=Nat.mul_le_mul_right _ zf
        rw[Nat.add_mul] at this
        omega
      subst this
      omega
  ·rcases bU k' j c m8 with⟨_,_,_,hp⟩|⟨_,hp⟩
   ·exact(a3 c (List.mem_of_getElem? hp)).1.congr fun b hb x=>ja (dS b (JT b (P1 _ c b hp hb))) x
   ·exact(l2.2.2 k' j c hp).congr fun b hb x=>ja (dS b (PY b ⟨k',j,c,hp,hb⟩)) x
 have ato:(G.g n).o+k*rs+off+us.length<=cur.size:=fW
 have jA:fK cs=true->∀(i:Nat) (c:PC) (b:Nat),bx[i]? =some c->¬aX b c:=by
  intro hs i c b hi
  have hc:c.er∈cs:=by rw[<-a1];exact List.mem_map_of_mem (List.mem_of_getElem? hi)
  exact(Sep.lS (pc:=c) (List.all_eq_true.1 hs _ hc)).2 b
 have hold:fK fB=true->∀j c,off<=j->j<off+bx.length->pe[j]? =some c->c.er.eV=true:=by
  intro hs j c h1 h2 hj
  have:c.er∈fB:=by
   have h3:fB[j - off]? =some c.er:=by
    have e0:fB[j - off]? =((e.drop off).take vs.length)[j - off]? :=congrArg (fun q:List C=>q[j - off]?) s2
    rw[e0,DF (by omega),<-w4,List.getElem?_map,show off+(j - off)=j by omega,hj]
    rfl
   exact List.mem_of_getElem? h3
  exact List.all_eq_true.1 hs _ this
 have K2:bf w ⟨Im',G.g⟩ σ1.h (fun n=>σ.used n=true) w2 ⟨Im',aA G.g n p'⟩ (aA σ1.h n (some (.row gr m' rs (xs.set k (cv e off cs))))):=by
  refine⟨fun _ h=>h,fun b hb x=>ja (dS b (JT b hb)) x,fun q hq h0=>?_,fun q bo aJ au hq h0=>?_⟩
  ·by_cases fO:q=n
   ·subst fO
    refine⟨bS,?_⟩
    simp only[bN]
    exact⟨aN.symm,rfl,rfl,rfl,rfl⟩
   ·rw[cE _ _ _ _ fO] at h0
    simp only[cE _ _ _ _ fO]
    exact⟨h0,trivial,trivial,trivial,trivial,trivial⟩
  ·by_cases fO:q=n
   ·subst fO
    rw[bN] at h0
    injection h0 with h0
    injection h0 with e1 e2 e3 e4
    subst e1;subst e2;subst e3
    rcases gx with⟨hm,_,hs,hso⟩|⟨hm,bO⟩
    ·subst hm
     refine⟨⟨gr,xs,m9⟩,fun k' j pc m8 hL=>?_⟩
     simp only[bN]
     refine⟨pc,?_,rfl,hL⟩
     obtain⟨e1,he,hj⟩:=m8
     by_cases wW:k'=k
     ·subst wW
      rw[wZ] at he
      injection he with he
      subst he
      refine⟨Da,List.getElem?_set_self pR,?_⟩
      show(cv pe off bx)[j]? =some pc
      rw[xS Cd]
      rw[if_neg ?_]
      ·exact hj
      ·rintro⟨q1,q2⟩
       have:=hold hso j pc q1 q2 hj
       rw[PC.abk hL] at this
       cases this
     ·exact⟨e1,by show((G.g q).px.set k Da)[k']? =some e1;rw[List.getElem?_set_ne (Ne.symm wW)];exact he,hj⟩
    ·cases ow
     ·simp at bO
     ·simp at bO;exact absurd bO.symm hm
   ·rw[cE _ _ _ _ fO] at h0
    simp only[cE _ _ _ _ fO]
    exact⟨⟨bo,au,h0⟩,fun k j pc h1 h2=>⟨pc,h1,rfl,h2⟩⟩
 have vg:∀b,dK w b->dK w2 b:=fun b hb=>L8 hg fW b hb
 have P0:m'≠ .aG->(∀b,aZ b px'->dK w b/\(B<=b\/E b))/\iI px'/\(m'=.ae->∀b,aZ b px'->Im' b)/\(m'=.live->∀b,aZ b px'->aZ b (G.g n).px)/\
   (∀q bo mo aJ au,q≠n->σ1.h q=some (.row bo mo aJ au)->mo≠ .aG->∀b,aZ b px'->¬aZ b (G.g q).px):=by
  intro iz
  have dd:=hr.mode
  rcases gx with⟨rfl,rfl,hs,hso⟩|⟨hm,bO⟩
  ·have fq:∀b,aZ b px'->aZ b (G.g n).px:=fun b hb=>(nV b hb).resolve_right (fun⟨i,c,hi,hb⟩=>jA hs i c b hi hb)
   refine⟨fun b hb=>(dd.1 b (fq b hb)).2,⟨fun k' j c m8=>?_,fun k1 j1 c1 k2 j2 c2 b h1 h2 aD hb=>?_⟩,(fun h=>by cases h),fun _=>fq,fun q bo mo aJ au fO hq jz b hb=>H0.fV n q gr .live rs xs bo mo aJ au m9 hq (by simp) jz (Ne.symm fO) b (fq b hb)⟩
   ·rcases bU k' j c m8 with⟨_,_,_,hp⟩|⟨_,hp⟩
    ·exact Sep.FY (fun b hb=>jA hs _ c b hp hb) (a3 c (List.mem_of_getElem? hp)).1
    ·exact dd.2.1 k' j c hp
   ·rcases bU k1 j1 c1 h1 with⟨_,_,_,hp⟩|⟨_,hp⟩
    ·exact absurd hb (jA hs _ c1 b hp)
    ·rcases bU k2 j2 c2 h2 with⟨_,_,_,bg⟩|⟨_,bg⟩
     ·exact jA hs _ c2 b bg
     ·exact dd.2.2 k1 j1 c1 k2 j2 c2 b hp bg aD hb
  ·cases ow
   ·simp at bO;exact absurd bO iz
   ·simp only[if_true] at bO a4
    subst bO
    have J6:m'=.ae:=by cases m'<;>first|rfl|exact absurd rfl hm|exact absurd rfl iz
    subst J6
    refine⟨fun b hb=>?_,⟨fun k' j c m8=>?_,fun k1 j1 c1 k2 j2 c2 b h1 h2 aD hb=>?_⟩,fun _ b hb=>?_,(fun h=>by cases h),fun q bo mo aJ au fO hq jz b hb=>?_⟩
    ·rcases nV b hb with h1|⟨i,c,hi,h1⟩
     ·exact(dd.1 b h1).2
     ·exact((a4.rF i c hi).2 b h1).2
    ·rcases bU k' j c m8 with⟨_,_,_,hp⟩|⟨_,hp⟩
     ·exact(a4.rF _ c hp).1
     ·exact dd.2.1 k' j c hp
    ·rcases bU k1 j1 c1 h1 with⟨e1,q1,q2,hp⟩|⟨_,hp⟩
     ·rcases bU k2 j2 c2 h2 with⟨e2,q3,q4,bg⟩|⟨_,bg⟩
      ·have jS:j1 - off≠j2 - off:=fun hh=>aD (by rw[e1,e2,show j1=j2 by omega])
       exact a4.vP _ _ c1 c2 b jS hp bg hb
      ·exact fun be=>a4.rG _ c1 n gr .ae rs xs b hp m9 (by simp) hb ⟨k2,j2,c2,bg,be⟩
     ·rcases bU k2 j2 c2 h2 with⟨e2,q3,q4,bg⟩|⟨_,bg⟩
      ·exact fun be=>a4.rG _ c2 n gr .ae rs xs b bg m9 (by simp) be ⟨k1,j1,c1,hp,hb⟩
      ·exact dd.2.2 k1 j1 c1 k2 j2 c2 b hp bg aD hb
    ·rcases nV b hb with h1|⟨i,c,hi,h1⟩
     ·exact(dd.1 b h1).1
     ·exact P1 i c b hi h1
    ·rcases nV b hb with h1|⟨i,c,hi,h1⟩
     ·exact H0.fV n q gr .ae rs xs bo mo aJ au m9 hq (by simp) jz (Ne.symm fO) b h1
     ·exact a4.rG i c q bo mo aJ au b hi hq jz h1
 have Hn:HR B E w2 ⟨Im',aA G.g n p'⟩ (aA σ1.h n (some (.row gr m' rs (xs.set k (cv e off cs))))) σ.used []:=by
  refine H0.put (p:=p') (fun b hb aD=>dS b (aD rfl)) (by show w.heap.size<=w2.heap.size;rw[rJ];exact Nat.le_refl _) (fun b _ hb=>vg b hb) (fun _ h=>h) w7
   (fun _=>⟨se,qV,by show _<w2.heap.size;rw[rJ];exact sf⟩)
   (fun _ q hq h0 lK=>(H0.inj q n h0 bS hq lK aN)) (fun _ q bo aJ au hq h0 b hb=>H0.live q bo aJ au h0 b hb n bS aN) (fun cs c q hb=>by cases hb) K2 ?_ ?_ ?_ (fun gr m sz xs _ _ i pc b hi=>by simp at hi) ?_
  ·refine⟨hr.pos,?_,(fun hl=>by cases hl),fun _=>⟨vg _ l1,fo,by show((G.g n).px.set k Da).length<=_;simpa using l3⟩,fun _ hgr=>?_,?_⟩
   ·show xs.set k (cv e off cs)=((G.g n).px.set k Da).map _
    rw[List.map_set,<-hr.er]
    congr 1
    show cv e off cs=(cv pe off bx).map PC.er
    rw[DA,w4,a1]
   ·obtain⟨r2,jP,e',r3,r4⟩:=hr.room aN hgr
    rw[hg] at r3
    injection r3 with r3
    injection r3 with r3 _ _
    subst r3
    obtain⟨af8,c1,c2⟩:=L7 (vs:=us) (o:=(G.g n).o+k*rs+off) hg fW
    exact⟨r2,af8,et,c1,by rw[c2];exact r4⟩
   ·show D5 B E w2 ⟨Im',_⟩ px' m'
    by_cases iz:m'=.aG
    ·rw[iz]
     intro b hb
     rcases nV b hb with h1|⟨i,c,hi,h1⟩
     ·have dd:=hr.mode
      rcases gx with⟨_,h2,_⟩|⟨hm,_⟩
      ·rw[iz] at h2;cases h2
      ·cases m with
       |aG=>exact dd b h1
       |ae=>exact(dd.1 b h1).1
       |live=>exact absurd rfl hm
     ·exact P1 i c b hi h1
    ·obtain⟨o1,o2,o3,o4,o5⟩:=P0 iz
     cases m' with
     |aG=>exact absurd rfl iz
     |ae=>exact⟨fun b hb=>⟨o3 rfl b hb,vg b (o1 b hb).1,(o1 b hb).2⟩,o2⟩
     |live=>
      refine⟨fun b hb=>⟨?_,vg b (o1 b hb).1,(o1 b hb).2⟩,o2⟩
      have dd:=hr.mode
      rcases gx with⟨hm,_,_⟩|⟨hm,bO⟩
      ·subst hm;exact(dd.1 b (o4 rfl b hb)).1
      ·cases ow
       ·simp at bO
       ·simp at bO;exact absurd bO.symm hm
  ·intro bo m2 aJ au hb iz q BX mo kL iH fO hq jz b cR
   injection hb with _ hb _ _
   subst hb
   exact(P0 iz).2.2.2.2 q BX mo kL iH fO hq jz b cR
  ·intro bo aJ au hb b cR
   injection hb with _ hb _ _
   subst hb
   have fq:=(P0 (by simp)).2.2.2.1 rfl b cR
   have hm:m=.live:=by
    rcases gx with⟨hm,_,_⟩|⟨hm,bO⟩
    ·exact hm
    ·cases ow
     ·simp at bO
     ·simp at bO;exact absurd bO.symm hm
   subst hm
   exact⟨fun _=>H0.live n gr rs xs m9 b fq n bS aN,fun q fO hq Ci=>H0.live n gr rs xs m9 b fq q hq Ci⟩
  ·intro _ _ b hb
   obtain⟨q,bo,mo,aJ,au,hq,h0,cR⟩:=hb
   exact H0.tm bS aN h0 cR
 refine⟨⟨Im',aA G.g n p'⟩,?_⟩
 exact r.step (σ':=σ1.dB n (.row gr m' rs (xs.set k (cv e off cs)))) a6 (fun q hq=>by show σ1.used q=true;rw[a7];exact hq)
  (bf.trans (u2:=fun n=>σ.used n=true) (fun _ h=>h) a5 K2) (by show HR B E w2 _ (aA σ1.h n _) σ1.used [];rw[a7];exact Hn) (r.fr.one qV (fun b hb aD=>dS b aD) (by show w.heap.size<=w2.heap.size;rw[rJ];exact Nat.le_refl _) (DQ hg fW) rfl rfl rfl)
end
end Go.Am
