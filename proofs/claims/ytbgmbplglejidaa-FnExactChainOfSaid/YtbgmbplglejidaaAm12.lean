/- Am12: stores. No condition. -/
import Derived.Test.YtbgmbplglejidaaAm11
set_option linter.unusedVariables false
namespace Go.Am
theorem Kq {α:Type} {l vs:List α} {off:Nat} (h:off+vs.length<=l.length):(bX l off vs).length=l.length:=by
 simp[bX];omega
theorem xm {α:Type} {l vs:List α} {off j:Nat} (h:off+vs.length<=l.length):(bX l off vs)[j]? =if off<=j/\j<off+vs.length then vs[j - off]? else l[j]? :=by
 unfold bX
 have ht:(l.take off).length=off:=by simp;omega
 by_cases h1:j<off
 ·rw[if_neg (by omega),List.append_assoc,List.getElem?_append_left (by omega),List.getElem?_take_of_lt h1]
 ·by_cases h2:j<off+vs.length
  ·rw[if_pos ⟨by omega,h2⟩,List.append_assoc,List.getElem?_append_right (by omega),List.getElem?_append_left (by omega),ht]
  ·rw[if_neg (by omega),List.getElem?_append_right (by simp;omega),List.getElem?_drop]
   congr 1
   simp
   omega
theorem Cm {α β:Type} (f:α->β) (l vs:List α) (off:Nat):(bX l off vs).map f=bX (l.map f) off (vs.map f):=by
 simp[bX,List.map_take,List.map_drop]
def eG (w:World) (b o:Nat) (vs:List Value) (cur:Array Value):World:=w.setRow b (cur.toList.take o++vs++cur.toList.drop (o+vs.length)).toArray
section
variable {w:World} {b o:Nat} {vs:List Value} {cur:Array Value} {e:TypeId}
theorem CA (hg:w.heap[b]? =some (.cells cur e (0,0))) (hl:o+vs.length<=cur.size) (x:Nat):
  (eG w b o vs cur).cell? (ad b x)=if o<=x/\x<o+vs.length then vs[x - o]? else w.cell? (ad b x):=by
 unfold eG ad
 rw[cell_setRow_same w b x cur _ e (0,0) hg]
 have h1:=xm (l:=cur.toList) (vs:=vs) (off:=o) (j:=x) (by simpa using hl)
 simp only[bX] at h1
 rw[List.getElem?_toArray,h1]
 have h2:w.cell? ⟨b,x,none⟩=cur[x]? :=by simp[World.cell?,hg]
 rw[h2]
 simp
theorem zz (k:Nat) (hk:k≠b):(eG w b o vs cur).heap[k]? =w.heap[k]? :=setRow_other w b k _ hk
theorem qU:(eG w b o vs cur).heap.size=w.heap.size:=setRow_size _ _ _
theorem KP (hg:w.heap[b]? =some (.cells cur e (0,0))) (hl:o+vs.length<=cur.size):∃ji,(eG w b o vs cur).heap[b]? =some (.cells ji e (0,0))/\ji.size=cur.size:=by
 refine⟨_,setRow_heap w b cur _ e (0,0) hg,?_⟩
 simp
 omega
theorem CB (hg:w.heap[b]? =some (.cells cur e (0,0))) (hl:o+vs.length<=cur.size):Cz w (eG w b o vs cur) b:=by
 intro arr e' h
 obtain⟨ji,h1,h2⟩:=KP (vs:=vs) (o:=o) hg hl
 rw[hg] at h
 injection h with h
 injection h with ha hb
 subst ha hb
 exact⟨ji,h1,h2⟩
theorem KQ (hg:w.heap[b]? =some (.cells cur e (0,0))) (hl:o+vs.length<=cur.size) (k:Nat) (hk:dD w k):dD (eG w b o vs cur) k:=by
 by_cases ZN:k=b
 ·subst ZN
  obtain⟨ji,h1,_⟩:=KP (vs:=vs) (o:=o) hg hl
  exact⟨ji,e,h1⟩
 ·exact hk.congr (zz k ZN)
end
section
variable {B:Nat} {E:Ex} {w0 w w':World} {G G':Gh} {h h':Nat->Option aq} {used used':Nat->Bool} {tk:List PC} {N:Nat}
variable {P:Program} {o:Oper} {a:Act} {σ σ':St} {Q:Exit->Act->World->Prop}
theorem FG {α:Type} (f:Nat->α) (n:Nat):ax f n (f n)=f:=by
 funext m;simp only[iO];split
 ·rename_i h;rw[h]
 ·rfl
theorem J8 {t:TypeId} {i:TypeInfo} {b off:Nat} {v:Value} {cur:Array Value} {e:TypeId} (hi:P.info? t=some i) (bF:v.cells.size=i.size) (hg:w.heap[b]? =some (.cells cur e (0,0)))
  (hl:off+v.cells.size<=cur.size) (h1:∀u∈v.cells.toList,u.oneCell'=true):
  (storeVar t (ad b off) v).run P w=.ok () (eG w b off v.cells.toList cur):=by
 have cq:=run_storeCells_at P b off e v.cells.toList 0 cur w hg (by simpa using hl) h1
 simp only[Nat.add_zero] at cq
 simp[storeVar,sizeOf,typeInfo,hi,bF,ad,cq,eG]
theorem HR.sL (H:HR B E w G h used tk) {n m:Nat} {gr:Bool} {mo:Mode} {sz:Nat} {xs:List (List C)} (hn:h n≠none) (hl:(G.g n).nl=false) (hm:h m=some (.row gr mo sz xs)) {b:Nat} (hb:aX b (G.g m).px):b≠(G.g n).b:=by
 have dg:=(H.row m gr mo sz xs hm).mode
 cases mo with
 |aO=>rintro rfl;exact(H.own n hn hl).1 (dg _ hb)
 |ab=>rintro rfl;exact(H.own n hn hl).1 (dg.1 _ hb).1
 |live=>exact H.live m gr sz xs hm b hb n hn hl
theorem R.ap5 (r:R B E w0 N σ a w G) {n:Nat} {cs:List ah} {vs:List ah} {us:List Value} {off:Nat} (hn:σ.h n=some (.box cs)) (hv:cJ w G σ.h vs us) (iC:∀c∈vs,∀m,c.ref m->σ.used m=true)
  (hl:off+vs.length<=cs.length) {cur:Array Value} {e:TypeId} (hg:w.heap[(G.g n).b]? =some (.cells cur e (0,0))) (g0:(G.g n).o+off+us.length<=cur.size):
  R B E w0 N (σ.du n (.box (bX cs off vs))) a (eG w (G.g n).b ((G.g n).o+off) us cur) G:=by
 have H:=r.hr
 have bJ:σ.h n≠none:=by rw[hn];simp
 obtain⟨aR,sY,gZ⟩:=H.box n cs hn
 obtain⟨rz,qe,rA⟩:=H.own n bJ aR
 have wv:=H.iA n bJ
 have hG:(⟨G.Im,ax G.g n (G.g n)⟩:Gh)=G:=by rw[FG]
 have hlen:us.length=vs.length:=hv.1
 have dJ:∀b,b<w.heap.size->b≠(G.g n).b->(eG w (G.g n).b ((G.g n).o+off) us cur).heap[b]? =w.heap[b]? :=fun b _ hb=>zz b hb
 have K:aZ w G σ.h (fun n=>σ.used n=true) (eG w (G.g n).b ((G.g n).o+off) us cur) G (ax σ.h n (some (.box (bX cs off vs)))):=by
  refine⟨fun _ h=>h,fun b hb x=>iz (dJ b (H.fL b hb) (fun he=>rz (he▸hb))) x,fun m hm h0=>?_,fun m gr sz xs hm h0=>?_⟩
  ·by_cases bC:m=n
   ·subst bC;exact⟨bJ,rfl,rfl,rfl,rfl,rfl⟩
   ·rw[cb _ _ _ _ bC] at h0;exact⟨h0,rfl,rfl,rfl,rfl,rfl⟩
  ·by_cases bC:m=n
   ·subst bC;rw[bE] at h0;cases h0
   ·rw[cb _ _ _ _ bC] at h0;exact⟨⟨gr,xs,h0⟩,fun k j pc h1 h2=>⟨pc,h1,rfl,h2⟩⟩
 have Hn:HR B E (eG w (G.g n).b ((G.g n).o+off) us cur) ⟨G.Im,ax G.g n (G.g n)⟩ (ax σ.h n (some (.box (bX cs off vs)))) σ.used []:=by
  refine H.put (fun b hb aE=>dJ b hb (aE aR)) (by rw[qU];exact Nat.le_refl _) (fun b _ hb=>KQ hg g0 b hb) (fun _ h=>h) wv (fun _=>⟨rz,qe,by rw[qU];exact rA⟩)
   (fun _ m hm h0 kF=>(H.inj m n h0 bJ hm kF aR)) (fun _ m gr sz xs hm h0 b hb=>H.live m gr sz xs h0 b hb n bJ aR) ?_ (by rw[hG];exact K) ?_
   (fun gr m sz xs hb=>by cases hb) (fun gr sz xs hb=>by cases hb) (fun gr m sz xs hb=>by cases hb) ?_
  ·intro cs' c m hb hc hm
   injection hb with hb
   subst hb
   simp only[bX,List.mem_append] at hc
   rcases hc with(hc|hc)|hc
   ·exact H.gC n cs c m hn (List.mem_of_mem_take hc) hm
   ·exact iC c hc m hm
   ·exact H.gC n cs c m hn (List.mem_of_mem_drop hc) hm
  ·rw[hG]
   refine⟨aR,KQ hg g0 _ sY,fun j c hj=>?_⟩
   rw[xm hl] at hj
   rw[CA hg g0]
   by_cases ga:off<=j/\j<off+vs.length
   ·rw[if_pos ga] at hj
    rw[if_pos (by omega)]
    have iB:j - off<us.length:=by omega
    have hu:us[j - off]? =some (us[j - off]'iB):=List.getElem?_eq_getElem iB
    obtain⟨q1,q2⟩:=hv.2 _ _ _ hj hu
    refine⟨_,by rw[<-hu];congr 1;omega,q1,q2.eV K (iC c (List.mem_of_getElem? hj))⟩
   ·rw[if_neg ga] at hj
    rw[if_neg (by omega)]
    obtain⟨v,v1,v2,v3⟩:=gZ j c hj
    exact⟨v,v1,v2,v3.eV K (fun m hm=>H.gC n cs c m hn (List.mem_of_getElem? hj) hm)⟩
  ·intro _ _ b hb
   obtain⟨m,gr,mo,sz,xs,hm,h0,cB⟩:=hb
   exact H.sL bJ aR h0 cB
 rw[hG] at Hn
 exact r.step (σ':=σ.du n (.box (bX cs off vs))) rfl (fun _ h=>h) K Hn (r.fr.one qe (fun b hb aE=>dJ b hb aE) (by rw[qU];exact Nat.le_refl _) (CB hg g0) rfl rfl rfl)
theorem HH {α:Type} {px:List (List α)} {k k' j:Nat} {pe:List α} {c:α} (hk:k<px.length) (h:At (px.set k pe) k' j c):(k'=k/\pe[j]? =some c)\/(k'≠k/\At px k' j c):=by
 obtain⟨e,he,hj⟩:=h
 by_cases wc:k'=k
 ·subst wc
  rw[List.getElem?_set_self hk] at he
  injection he with he
  subst he
  exact .inl ⟨rfl,hj⟩
 ·rw[List.getElem?_set_ne (Ne.symm wc)] at he
  exact .inr ⟨wc,e,he,hj⟩
theorem PC.aaz {pc:PC} (h:pc.gx=true):pc.er.eF=false:=by
 cases pc<;>simp[PC.gx] at h
 simp[PC.dG,C.eF]
theorem R.mU (r:R B E w0 N σ a w G) {n:Nat} {gr:Bool} {m:Mode} {rs:Nat} {xs:List (List C)} {k off:Nat} {e:List C} {vs:List ah} {us:List Value} {σ2:St}
  (hn:σ.h n=some (.row gr m rs xs)) (aR:(G.g n).nl=false) (hk:xs[k]? =some e) (hv:cJ w G σ.h vs us) (iC:∀c∈vs,∀m,c.ref m->σ.used m=true)
  (hx:Am.mU σ n gr m rs xs k off e vs=some σ2) {cur:Array Value} {et:TypeId} (hg:w.heap[(G.g n).b]? =some (.cells cur et (0,0))) (g0:(G.g n).o+k*rs+off+us.length<=cur.size):
  ∃G',R B E w0 N σ2 a (eG w (G.g n).b ((G.g n).o+k*rs+off) us cur) G':=by
 unfold Am.mU at hx
 split at hx
 ·cases hx
 rename_i f0 e8
 obtain⟨s1,s2,s3⟩:=Ft e8
 split at hx
 ·cases hx
 rename_i cs ow σ1 Pw
 obtain⟨Im',bt,a1,a2,a3,a4,a5,a6,a7,a8⟩:=HR.fg r.hr Pw hv iC
 simp only[List.nil_append] at a4
 have H0:HR B E w ⟨Im',G.g⟩ σ1.h σ.used []:=by
  cases ow
  ·simpa using a4
  ·have a4':HR B E w ⟨Im',G.g⟩ σ1.h σ.used ([]++bt):=by simpa using a4
   exact a4'.xv
 have hlen:us.length=vs.length:=hv.1
 have fk:bt.length=vs.length:=by have:=congrArg List.length a2;simp at this;omega
 have ahM:(σ1.h n).isSome=true/\∃m',σ2=σ1.du n (.row gr m' rs (xs.set k (bX e off cs)))/\
   ((m=.live/\m'=.live/\fq cs=true/\fq f0=true)\/(m≠ .live/\m'=if ow=true then m else .aO)):=by
  split at hx
  ·rename_i hm
   split at hx
   ·rename_i hc
    injection hx with hx
    exact⟨hc.2.2,m,by rw[<-hx],.inl ⟨hm,hm,hc.1,hc.2.1⟩⟩
   ·cases hx
  ·rename_i hm
   split at hx
   ·rename_i hs
    injection hx with hx
    exact⟨hs,_,hx.symm,.inr ⟨hm,rfl⟩⟩
   ·cases hx
 obtain⟨Bb,m',rfl,fS⟩:=ahM
 have kG:σ1.h n=some (.row gr m rs xs):=by
  cases hh:σ1.h n with
  |none=>rw[hh] at Bb;cases Bb
  |some b=>rw[<-a8 n b hh,hn]
 have bJ:σ1.h n≠none:=by rw[kG];simp
 have hr:=H0.row n gr m rs xs kG
 obtain⟨rz,qe,rA⟩:=H0.own n bJ aR
 have wv:=H0.iA n bJ
 obtain⟨l1,l2,l3⟩:=hr.dT aR
 have sU:∃pe,(G.g n).px[k]? =some pe/\pe.map PC.er=e:=by
  have ur:=hr.er
  rw[ur,List.getElem?_map] at hk
  cases hp:(G.g n).px[k]? with
  |none=>rw[hp] at hk;cases hk
  |some pe=>rw[hp] at hk;simp at hk;exact⟨pe,rfl,hk⟩
 obtain⟨pe,wi,wj⟩:=sU
 have oU:k<(G.g n).px.length:=(List.getElem?_eq_some_iff.1 wi).1
 have I6:pe.length=rs:=l2.1 pe (List.mem_of_getElem? wi)
 have I5:off+bt.length<=pe.length:=by rw[<-wj] at s1;simp at s1;omega
 let BT:=bX pe off bt
 let px':=(G.g n).px.set k BT
 let w2:=eG w (G.g n).b ((G.g n).o+k*rs+off) us cur
 let p':PB:=⟨false,(G.g n).b,(G.g n).o,(G.g n).cap,px',(G.g n).na⟩
 have ZU:BT.length=rs:=by show(bX pe off bt).length=rs;rw[Kq I5,I6]
 have cg:∀k' j c,At px' k' j c->(k'=k/\off<=j/\j<off+bt.length/\bt[j - off]? =some c)\/((k'≠k\/¬(off<=j/\j<off+bt.length))/\At (G.g n).px k' j c):=by
  intro k' j c h
  rcases HH oU h with⟨rfl,hj⟩|⟨aE,h⟩
  ·rw[xm I5] at hj
   by_cases ga:off<=j/\j<off+bt.length
   ·rw[if_pos ga] at hj;exact .inl ⟨rfl,ga.1,ga.2,hj⟩
   ·rw[if_neg ga] at hj;exact .inr ⟨.inr ga,pe,wi,hj⟩
  ·exact .inr ⟨.inl aE,h⟩
 have ahJ:∀k' j c,At px' k' j c->j<rs:=by
  intro k' j c h
  obtain⟨e1,he,hj⟩:=h
  have:e1.length=rs:=by
   rcases List.mem_or_eq_of_mem_set (List.mem_of_getElem? he) with h1|h1
   ·exact l2.1 e1 h1
   ·rw[h1];exact ZU
  rw[<-this]
  exact(List.getElem?_eq_some_iff.1 hj).1
 have nb:∀b,aX b px'->aX b (G.g n).px\/∃(i:Nat) (c:PC),bt[i]? =some c/\aT b c:=by
  rintro b ⟨k',j,c,mB,hb⟩
  rcases cg k' j c mB with⟨_,_,_,hp⟩|⟨_,hp⟩
  ·exact .inr ⟨_,c,hp,hb⟩
  ·exact .inl ⟨k',j,c,hp,hb⟩
 have dJ:∀b,b≠(G.g n).b->w2.heap[b]? =w.heap[b]? :=fun b hb=>zz b hb
 have Pm:∀(i:Nat) (c:PC) (b:Nat),bt[i]? =some c->aT b c->Im' b:=fun i c b hi hb=>(a3 c (List.mem_of_getElem? hi)).2 b hb
 have IG:∀b,Im' b->b≠(G.g n).b:=fun b hb he=>rz (he▸hb)
 have Pj:∀b,aX b (G.g n).px->b≠(G.g n).b:=fun b hb=>H0.sL bJ aR kG hb
 have eS:oD w2 (G.g n).b (G.g n).o rs px':=by
  refine⟨fun e1 he=>?_,fun k' j c mB=>?_,fun k' j c mB=>?_⟩
  ·rcases List.mem_or_eq_of_mem_set he with h1|h1
   ·exact l2.1 e1 h1
   ·rw[h1];exact ZU
  ·have hj:=ahJ k' j c mB
   show w2.cell? _=_
   rw[CA hg g0]
   rcases cg k' j c mB with⟨rfl,h1,h2,hp⟩|⟨aE,hp⟩
   ·rw[if_pos (by omega)]
    have hu:us[j - off]? =some c.val:=by rw[<-a2,List.getElem?_map,hp];rfl
    rw[<-hu]
    congr 1
    omega
   ·rw[if_neg ?_]
    ·exact l2.2.1 k' j c hp
    ·rintro⟨q1,q2⟩
     rcases aE with aE|aE
     ·rcases Nat.lt_or_gt_of_ne aE with bB|yu
      ·have:(k'+1)*rs<=k*rs:=Nat.mul_le_mul_right _ bB
       rw[Nat.add_mul] at this
       omega
      ·have:(k+1)*rs<=k'*rs:=Nat.mul_le_mul_right _ yu
       rw[Nat.add_mul] at this
       omega
     ·have:k'=k:=by
       rcases Nat.lt_trichotomy k' k with bB|dI|yu
       ·have:(k'+1)*rs<=k*rs:=Nat.mul_le_mul_right _ bB
        rw[Nat.add_mul] at this
        omega
       ·exact dI
       ·have:(k+1)*rs<=k'*rs:=Nat.mul_le_mul_right _ yu
        rw[Nat.add_mul] at this
        omega
      subst this
      omega
  ·rcases cg k' j c mB with⟨_,_,_,hp⟩|⟨_,hp⟩
   ·exact(a3 c (List.mem_of_getElem? hp)).1.congr fun b hb x=>iz (dJ b (IG b (Pm _ c b hp hb))) x
   ·exact(l2.2.2 k' j c hp).congr fun b hb x=>iz (dJ b (Pj b ⟨k',j,c,hp,hb⟩)) x
 have aqV:(G.g n).o+k*rs+off+us.length<=cur.size:=g0
 have iW:fq cs=true->∀(i:Nat) (c:PC) (b:Nat),bt[i]? =some c->¬aT b c:=by
  intro hs i c b hi
  have hc:c.er∈cs:=by rw[<-a1];exact List.mem_map_of_mem (List.mem_of_getElem? hi)
  exact(Sep.kP (pc:=c) (List.all_eq_true.1 hs _ hc)).2 b
 have hold:fq f0=true->∀j c,off<=j->j<off+bt.length->pe[j]? =some c->c.er.eF=true:=by
  intro hs j c h1 h2 hj
  have:c.er∈f0:=by
   have h3:f0[j - off]? =some c.er:=by
    have e0:f0[j - off]? =((e.drop off).take vs.length)[j - off]? :=congrArg (fun q:List C=>q[j - off]?) s2
    rw[e0,Cs (by omega),<-wj,List.getElem?_map,show off+(j - off)=j by omega,hj]
    rfl
   exact List.mem_of_getElem? h3
  exact List.all_eq_true.1 hs _ this
 have K2:aZ w ⟨Im',G.g⟩ σ1.h (fun n=>σ.used n=true) w2 ⟨Im',ax G.g n p'⟩ (ax σ1.h n (some (.row gr m' rs (xs.set k (bX e off cs))))):=by
  refine⟨fun _ h=>h,fun b hb x=>iz (dJ b (IG b hb)) x,fun q hq h0=>?_,fun q bj aL ar hq h0=>?_⟩
  ·by_cases fw:q=n
   ·subst fw
    refine⟨bJ,?_⟩
    simp only[bE]
    exact⟨aR.symm,rfl,rfl,rfl,rfl⟩
   ·rw[cb _ _ _ _ fw] at h0
    simp only[cb _ _ _ _ fw]
    exact⟨h0,trivial,trivial,trivial,trivial,trivial⟩
  ·by_cases fw:q=n
   ·subst fw
    rw[bE] at h0
    injection h0 with h0
    injection h0 with e1 e2 e3 e4
    subst e1;subst e2;subst e3
    rcases fS with⟨hm,_,hs,Z3⟩|⟨hm,bI⟩
    ·subst hm
     refine⟨⟨gr,xs,kG⟩,fun k' j pc mB hL=>?_⟩
     simp only[bE]
     refine⟨pc,?_,rfl,hL⟩
     obtain⟨e1,he,hj⟩:=mB
     by_cases wc:k'=k
     ·subst wc
      rw[wi] at he
      injection he with he
      subst he
      refine⟨BT,List.getElem?_set_self oU,?_⟩
      show(bX pe off bt)[j]? =some pc
      rw[xm I5]
      rw[if_neg ?_]
      ·exact hj
      ·rintro⟨q1,q2⟩
       have:=hold Z3 j pc q1 q2 hj
       rw[PC.aaz hL] at this
       cases this
     ·exact⟨e1,by show((G.g q).px.set k BT)[k']? =some e1;rw[List.getElem?_set_ne (Ne.symm wc)];exact he,hj⟩
    ·cases ow
     ·simp at bI
     ·simp at bI;exact absurd bI.symm hm
   ·rw[cb _ _ _ _ fw] at h0
    simp only[cb _ _ _ _ fw]
    exact⟨⟨bj,ar,h0⟩,fun k j pc h1 h2=>⟨pc,h1,rfl,h2⟩⟩
 have uG:∀b,dD w b->dD w2 b:=fun b hb=>KQ hg g0 b hb
 have Pl:m'≠ .aO->(∀b,aX b px'->dD w b/\(B<=b\/E b))/\ig px'/\(m'=.ab->∀b,aX b px'->Im' b)/\(m'=.live->∀b,aX b px'->aX b (G.g n).px)/\
   (∀q bj mo aL ar,q≠n->σ1.h q=some (.row bj mo aL ar)->mo≠ .aO->∀b,aX b px'->¬aX b (G.g q).px):=by
  intro g7
  have dg:=hr.mode
  rcases fS with⟨rfl,rfl,hs,Z3⟩|⟨hm,bI⟩
  ·have e8:∀b,aX b px'->aX b (G.g n).px:=fun b hb=>(nb b hb).resolve_right (fun⟨i,c,hi,hb⟩=>iW hs i c b hi hb)
   refine⟨fun b hb=>(dg.1 b (e8 b hb)).2,⟨fun k' j c mB=>?_,fun k1 j1 c1 k2 j2 c2 b h1 h2 aE hb=>?_⟩,(fun h=>by cases h),fun _=>e8,fun q bj mo aL ar fw hq iV b hb=>H0.fA n q gr .live rs xs bj mo aL ar kG hq (by simp) iV (Ne.symm fw) b (e8 b hb)⟩
   ·rcases cg k' j c mB with⟨_,_,_,hp⟩|⟨_,hp⟩
    ·exact Sep.EI (fun b hb=>iW hs _ c b hp hb) (a3 c (List.mem_of_getElem? hp)).1
    ·exact dg.2.1 k' j c hp
   ·rcases cg k1 j1 c1 h1 with⟨_,_,_,hp⟩|⟨_,hp⟩
    ·exact absurd hb (iW hs _ c1 b hp)
    ·rcases cg k2 j2 c2 h2 with⟨_,_,_,be⟩|⟨_,be⟩
     ·exact iW hs _ c2 b be
     ·exact dg.2.2 k1 j1 c1 k2 j2 c2 b hp be aE hb
  ·cases ow
   ·simp at bI;exact absurd bI g7
   ·simp only[if_true] at bI a4
    subst bI
    have IV:m'=.ab:=by cases m'<;>first|rfl|exact absurd rfl hm|exact absurd rfl g7
    subst IV
    refine⟨fun b hb=>?_,⟨fun k' j c mB=>?_,fun k1 j1 c1 k2 j2 c2 b h1 h2 aE hb=>?_⟩,fun _ b hb=>?_,(fun h=>by cases h),fun q bj mo aL ar fw hq iV b hb=>?_⟩
    ·rcases nb b hb with h1|⟨i,c,hi,h1⟩
     ·exact(dg.1 b h1).2
     ·exact((a4.qR i c hi).2 b h1).2
    ·rcases cg k' j c mB with⟨_,_,_,hp⟩|⟨_,hp⟩
     ·exact(a4.qR _ c hp).1
     ·exact dg.2.1 k' j c hp
    ·rcases cg k1 j1 c1 h1 with⟨e1,q1,q2,hp⟩|⟨_,hp⟩
     ·rcases cg k2 j2 c2 h2 with⟨e2,q3,q4,be⟩|⟨_,be⟩
      ·have jm:j1 - off≠j2 - off:=fun hh=>aE (by rw[e1,e2,show j1=j2 by omega])
       exact a4.vh _ _ c1 c2 b jm hp be hb
      ·exact fun aW=>a4.qS _ c1 n gr .ab rs xs b hp kG (by simp) hb ⟨k2,j2,c2,be,aW⟩
     ·rcases cg k2 j2 c2 h2 with⟨e2,q3,q4,be⟩|⟨_,be⟩
      ·exact fun aW=>a4.qS _ c2 n gr .ab rs xs b be kG (by simp) aW ⟨k1,j1,c1,hp,hb⟩
      ·exact dg.2.2 k1 j1 c1 k2 j2 c2 b hp be aE hb
    ·rcases nb b hb with h1|⟨i,c,hi,h1⟩
     ·exact(dg.1 b h1).1
     ·exact Pm i c b hi h1
    ·rcases nb b hb with h1|⟨i,c,hi,h1⟩
     ·exact H0.fA n q gr .ab rs xs bj mo aL ar kG hq (by simp) iV (Ne.symm fw) b h1
     ·exact a4.qS i c q bj mo aL ar b hi hq iV h1
 have Hn:HR B E w2 ⟨Im',ax G.g n p'⟩ (ax σ1.h n (some (.row gr m' rs (xs.set k (bX e off cs))))) σ.used []:=by
  refine H0.put (p:=p') (fun b hb aE=>dJ b (aE rfl)) (by show w.heap.size<=w2.heap.size;rw[qU];exact Nat.le_refl _) (fun b _ hb=>uG b hb) (fun _ h=>h) wv
   (fun _=>⟨rz,qe,by show _<w2.heap.size;rw[qU];exact rA⟩)
   (fun _ q hq h0 kF=>(H0.inj q n h0 bJ hq kF aR)) (fun _ q bj aL ar hq h0 b hb=>H0.live q bj aL ar h0 b hb n bJ aR) (fun cs c q hb=>by cases hb) K2 ?_ ?_ ?_ (fun gr m sz xs _ _ i pc b hi=>by simp at hi) ?_
  ·refine⟨hr.pos,?_,(fun hl=>by cases hl),fun _=>⟨uG _ l1,eS,by show((G.g n).px.set k BT).length<=_;simpa using l3⟩,fun _ hgr=>?_,?_⟩
   ·show xs.set k (bX e off cs)=((G.g n).px.set k BT).map _
    rw[List.map_set,<-hr.er]
    congr 1
    show bX e off cs=(bX pe off bt).map PC.er
    rw[Cm,wj,a1]
   ·obtain⟨r2,ji,e',r3,r4⟩:=hr.room aR hgr
    rw[hg] at r3
    injection r3 with r3
    injection r3 with r3 _ _
    subst r3
    obtain⟨afb,c1,c2⟩:=KP (vs:=us) (o:=(G.g n).o+k*rs+off) hg g0
    exact⟨r2,afb,et,c1,by rw[c2];exact r4⟩
   ·show CL B E w2 ⟨Im',_⟩ px' m'
    by_cases g7:m'=.aO
    ·rw[g7]
     intro b hb
     rcases nb b hb with h1|⟨i,c,hi,h1⟩
     ·have dg:=hr.mode
      rcases fS with⟨_,h2,_⟩|⟨hm,_⟩
      ·rw[g7] at h2;cases h2
      ·cases m with
       |aO=>exact dg b h1
       |ab=>exact(dg.1 b h1).1
       |live=>exact absurd rfl hm
     ·exact Pm i c b hi h1
    ·obtain⟨o1,o2,o3,o4,o5⟩:=Pl g7
     cases m' with
     |aO=>exact absurd rfl g7
     |ab=>exact⟨fun b hb=>⟨o3 rfl b hb,uG b (o1 b hb).1,(o1 b hb).2⟩,o2⟩
     |live=>
      refine⟨fun b hb=>⟨?_,uG b (o1 b hb).1,(o1 b hb).2⟩,o2⟩
      have dg:=hr.mode
      rcases fS with⟨hm,_,_⟩|⟨hm,bI⟩
      ·subst hm;exact(dg.1 b (o4 rfl b hb)).1
      ·cases ow
       ·simp at bI
       ·simp at bI;exact absurd bI.symm hm
  ·intro bj m2 aL ar hb g7 q AO mo jZ ic fw hq iV b cB
   injection hb with _ hb _ _
   subst hb
   exact(Pl g7).2.2.2.2 q AO mo jZ ic fw hq iV b cB
  ·intro bj aL ar hb b cB
   injection hb with _ hb _ _
   subst hb
   have e8:=(Pl (by simp)).2.2.2.1 rfl b cB
   have hm:m=.live:=by
    rcases fS with⟨hm,_,_⟩|⟨hm,bI⟩
    ·exact hm
    ·cases ow
     ·simp at bI
     ·simp at bI;exact absurd bI.symm hm
   subst hm
   exact⟨fun _=>H0.live n gr rs xs kG b e8 n bJ aR,fun q fw hq Pr=>H0.live n gr rs xs kG b e8 q hq Pr⟩
  ·intro _ _ b hb
   obtain⟨q,bj,mo,aL,ar,hq,h0,cB⟩:=hb
   exact H0.sL bJ aR h0 cB
 refine⟨⟨Im',ax G.g n p'⟩,?_⟩
 exact r.step (σ':=σ1.du n (.row gr m' rs (xs.set k (bX e off cs)))) a6 (fun q hq=>by show σ1.used q=true;rw[a7];exact hq)
  (aZ.trans (u2:=fun n=>σ.used n=true) (fun _ h=>h) a5 K2) (by show HR B E w2 _ (ax σ1.h n _) σ1.used [];rw[a7];exact Hn) (r.fr.one qe (fun b hb aE=>dJ b aE) (by show w.heap.size<=w2.heap.size;rw[qU];exact Nat.le_refl _) (CB hg g0) rfl rfl rfl)
end
end Go.Am
