/- Am12: stores. No condition. -/
import Derived.Test.YtifmggmhdcdgbaaAm11
set_option linter.unusedVariables false
namespace Go.Am
theorem KW {α:Type} {l vs:List α} {off:Nat} (h:off+vs.length<=l.length):(bS l off vs).length=l.length:=by
 simp[bS];omega
theorem xo {α:Type} {l vs:List α} {off j:Nat} (h:off+vs.length<=l.length):(bS l off vs)[j]? =if off<=j/\j<off+vs.length then vs[j - off]? else l[j]? :=by
 unfold bS
 have ht:(l.take off).length=off:=by simp;omega
 by_cases h1:j<off
 ·rw[if_neg (by omega),List.append_assoc,List.getElem?_append_left (by omega),List.getElem?_take_of_lt h1]
 ·by_cases h2:j<off+vs.length
  ·rw[if_pos ⟨by omega,h2⟩,List.append_assoc,List.getElem?_append_right (by omega),List.getElem?_append_left (by omega),ht]
  ·rw[if_neg (by omega),List.getElem?_append_right (by simp;omega),List.getElem?_drop]
   congr 1
   simp
   omega
theorem Ct {α β:Type} (f:α->β) (l vs:List α) (off:Nat):(bS l off vs).map f=bS (l.map f) off (vs.map f):=by
 simp[bS,List.map_take,List.map_drop]
def d8 (w:World) (b o:Nat) (vs:List Value) (cur:Array Value):World:=w.setRow b (cur.toList.take o++vs++cur.toList.drop (o+vs.length)).toArray
section
variable {w:World} {b o:Nat} {vs:List Value} {cur:Array Value} {e:TypeId}
theorem CI (hg:w.heap[b]? =some (.cells cur e (0,0))) (hl:o+vs.length<=cur.size) (x:Nat):
  (d8 w b o vs cur).cell? (ad b x)=if o<=x/\x<o+vs.length then vs[x - o]? else w.cell? (ad b x):=by
 unfold d8 ad
 rw[cell_setRow_same w b x cur _ e (0,0) hg]
 have h1:=xo (l:=cur.toList) (vs:=vs) (off:=o) (j:=x) (by simpa using hl)
 simp only[bS] at h1
 rw[List.getElem?_toArray,h1]
 have h2:w.cell? ⟨b,x,none⟩=cur[x]? :=by simp[World.cell?,hg]
 rw[h2]
 simp
theorem zC (k:Nat) (hk:k≠b):(d8 w b o vs cur).heap[k]? =w.heap[k]? :=setRow_other w b k _ hk
theorem qK:(d8 w b o vs cur).heap.size=w.heap.size:=setRow_size _ _ _
theorem Lp (hg:w.heap[b]? =some (.cells cur e (0,0))) (hl:o+vs.length<=cur.size):∃jm,(d8 w b o vs cur).heap[b]? =some (.cells jm e (0,0))/\jm.size=cur.size:=by
 refine⟨_,setRow_heap w b cur _ e (0,0) hg,?_⟩
 simp
 omega
theorem CJ (hg:w.heap[b]? =some (.cells cur e (0,0))) (hl:o+vs.length<=cur.size):Cz w (d8 w b o vs cur) b:=by
 intro arr e' h
 obtain⟨jm,h1,h2⟩:=Lp (vs:=vs) (o:=o) hg hl
 rw[hg] at h
 injection h with h
 injection h with ha hb
 subst ha hb
 exact⟨jm,h1,h2⟩
theorem Lq (hg:w.heap[b]? =some (.cells cur e (0,0))) (hl:o+vs.length<=cur.size) (k:Nat) (hk:dr w k):dr (d8 w b o vs cur) k:=by
 by_cases X4:k=b
 ·subst X4
  obtain⟨jm,h1,_⟩:=Lp (vs:=vs) (o:=o) hg hl
  exact⟨jm,e,h1⟩
 ·exact hk.congr (zC k X4)
end
section
variable {B:Nat} {E:Ex} {w0 w w':World} {G G':Gh} {h h':Nat->Option ar} {used used':Nat->Bool} {tk:List PC} {N:Nat}
variable {P:Program} {o:Oper} {a:Act} {σ σ':St} {Q:Exit->Act->World->Prop}
theorem FI {α:Type} (f:Nat->α) (n:Nat):aw f n (f n)=f:=by
 funext m;simp only[jg];split
 ·rename_i h;rw[h]
 ·rfl
theorem KI {t:TypeId} {i:TypeInfo} {b off:Nat} {v:Value} {cur:Array Value} {e:TypeId} (hi:P.info? t=some i) (bD:v.cells.size=i.size) (hg:w.heap[b]? =some (.cells cur e (0,0)))
  (hl:off+v.cells.size<=cur.size) (h1:∀u∈v.cells.toList,u.oneCell'=true):
  (storeVar t (ad b off) v).run P w=.ok () (d8 w b off v.cells.toList cur):=by
 have mQ:=run_storeCells_at P b off e v.cells.toList 0 cur w hg (by simpa using hl) h1
 simp only[Nat.add_zero] at mQ
 simp[storeVar,sizeOf,typeInfo,hi,bD,ad,mQ,d8]
theorem HR.sr (H:HR B E w G h used tk) {n m:Nat} {gr:Bool} {mo:Mode} {sz:Nat} {xs:List (List C)} (hn:h n≠none) (hl:(G.g n).nl=false) (hm:h m=some (.row gr mo sz xs)) {b:Nat} (hb:aS b (G.g m).px):b≠(G.g n).b:=by
 have cJ:=(H.row m gr mo sz xs hm).mode
 cases mo with
 |aA=>rintro rfl;exact(H.own n hn hl).1 (cJ _ hb)
 |ab=>rintro rfl;exact(H.own n hn hl).1 (cJ.1 _ hb).1
 |live=>exact H.live m gr sz xs hm b hb n hn hl
theorem R.aoh (r:R B E w0 N σ a w G) {n:Nat} {cs:List ai} {vs:List ai} {us:List Value} {off:Nat} (hn:σ.h n=some (.box cs)) (hv:cA w G σ.h vs us) (ix:∀c∈vs,∀m,c.ref m->σ.used m=true)
  (hl:off+vs.length<=cs.length) {cur:Array Value} {e:TypeId} (hg:w.heap[(G.g n).b]? =some (.cells cur e (0,0))) (gO:(G.g n).o+off+us.length<=cur.size):
  R B E w0 N (σ.dc n (.box (bS cs off vs))) a (d8 w (G.g n).b ((G.g n).o+off) us cur) G:=by
 have H:=r.hr
 have bJ:σ.h n≠none:=by rw[hn];simp
 obtain⟨aM,sH,gN⟩:=H.box n cs hn
 obtain⟨rl,pP,rm⟩:=H.own n bJ aM
 have wD:=H.iS n bJ
 have hG:(⟨G.Im,aw G.g n (G.g n)⟩:Gh)=G:=by rw[FI]
 have hlen:us.length=vs.length:=hv.1
 have eF:∀b,b<w.heap.size->b≠(G.g n).b->(d8 w (G.g n).b ((G.g n).o+off) us cur).heap[b]? =w.heap[b]? :=fun b _ hb=>zC b hb
 have K:aW w G σ.h (fun n=>σ.used n=true) (d8 w (G.g n).b ((G.g n).o+off) us cur) G (aw σ.h n (some (.box (bS cs off vs)))):=by
  refine⟨fun _ h=>h,fun b hb x=>io (eF b (H.fI b hb) (fun he=>rl (he▸hb))) x,fun m hm h0=>?_,fun m gr sz xs hm h0=>?_⟩
  ·by_cases bz:m=n
   ·subst bz;exact⟨bJ,rfl,rfl,rfl,rfl,rfl⟩
   ·rw[bZ _ _ _ _ bz] at h0;exact⟨h0,rfl,rfl,rfl,rfl,rfl⟩
  ·by_cases bz:m=n
   ·subst bz;rw[bA] at h0;cases h0
   ·rw[bZ _ _ _ _ bz] at h0;exact⟨⟨gr,xs,h0⟩,fun k j pc h1 h2=>⟨pc,h1,rfl,h2⟩⟩
 have Hn:HR B E (d8 w (G.g n).b ((G.g n).o+off) us cur) ⟨G.Im,aw G.g n (G.g n)⟩ (aw σ.h n (some (.box (bS cs off vs)))) σ.used []:=by
  refine H.put (fun b hb ax=>eF b hb (ax aM)) (by rw[qK];exact Nat.le_refl _) (fun b _ hb=>Lq hg gO b hb) (fun _ h=>h) wD (fun _=>⟨rl,pP,by rw[qK];exact rm⟩)
   (fun _ m hm h0 kx=>(H.inj m n h0 bJ hm kx aM)) (fun _ m gr sz xs hm h0 b hb=>H.live m gr sz xs h0 b hb n bJ aM) ?_ (by rw[hG];exact K) ?_
   (fun gr m sz xs hb=>by cases hb) (fun gr sz xs hb=>by cases hb) (fun gr m sz xs hb=>by cases hb) ?_
  ·intro cs' c m hb hc hm
   injection hb with hb
   subst hb
   simp only[bS,List.mem_append] at hc
   rcases hc with(hc|hc)|hc
   ·exact H.gy n cs c m hn (List.mem_of_mem_take hc) hm
   ·exact ix c hc m hm
   ·exact H.gy n cs c m hn (List.mem_of_mem_drop hc) hm
  ·rw[hG]
   refine⟨aM,Lq hg gO _ sH,fun j c hj=>?_⟩
   rw[xo hl] at hj
   rw[CI hg gO]
   by_cases fh:off<=j/\j<off+vs.length
   ·rw[if_pos fh] at hj
    rw[if_pos (by omega)]
    have uB:j - off<us.length:=by omega
    have hu:us[j - off]? =some (us[j - off]'uB):=List.getElem?_eq_getElem uB
    obtain⟨q1,q2⟩:=hv.2 _ _ _ hj hu
    refine⟨_,by rw[<-hu];congr 1;omega,q1,q2.eM K (ix c (List.mem_of_getElem? hj))⟩
   ·rw[if_neg fh] at hj
    rw[if_neg (by omega)]
    obtain⟨v,v1,v2,v3⟩:=gN j c hj
    exact⟨v,v1,v2,v3.eM K (fun m hm=>H.gy n cs c m hn (List.mem_of_getElem? hj) hm)⟩
  ·intro _ _ b hb
   obtain⟨m,gr,mo,sz,xs,hm,h0,cg⟩:=hb
   exact H.sr bJ aM h0 cg
 rw[hG] at Hn
 exact r.step (σ':=σ.dc n (.box (bS cs off vs))) rfl (fun _ h=>h) K Hn (r.fr.one pP (fun b hb ax=>eF b hb ax) (by rw[qK];exact Nat.le_refl _) (CJ hg gO) rfl rfl rfl)
theorem Hx {α:Type} {px:List (List α)} {k k' j:Nat} {pe:List α} {c:α} (hk:k<px.length) (h:At (px.set k pe) k' j c):(k'=k/\pe[j]? =some c)\/(k'≠k/\At px k' j c):=by
 obtain⟨e,he,hj⟩:=h
 by_cases wu:k'=k
 ·subst wu
  rw[List.getElem?_set_self hk] at he
  injection he with he
  subst he
  exact .inl ⟨rfl,hj⟩
 ·rw[List.getElem?_set_ne (Ne.symm wu)] at he
  exact .inr ⟨wu,e,he,hj⟩
theorem PC.Zm {pc:PC} (h:pc.gk=true):pc.er.d7=false:=by
 cases pc<;>simp[PC.gk] at h
 simp[PC.dz,C.d7]
theorem R.mD (r:R B E w0 N σ a w G) {n:Nat} {gr:Bool} {m:Mode} {rs:Nat} {xs:List (List C)} {k off:Nat} {e:List C} {vs:List ai} {us:List Value} {σ2:St}
  (hn:σ.h n=some (.row gr m rs xs)) (aM:(G.g n).nl=false) (hk:xs[k]? =some e) (hv:cA w G σ.h vs us) (ix:∀c∈vs,∀m,c.ref m->σ.used m=true)
  (hx:Am.mD σ n gr m rs xs k off e vs=some σ2) {cur:Array Value} {et:TypeId} (hg:w.heap[(G.g n).b]? =some (.cells cur et (0,0))) (gO:(G.g n).o+k*rs+off+us.length<=cur.size):
  ∃G',R B E w0 N σ2 a (d8 w (G.g n).b ((G.g n).o+k*rs+off) us cur) G':=by
 unfold Am.mD at hx
 split at hx
 ·cases hx
 rename_i eZ eT
 obtain⟨s1,s2,s3⟩:=Fz eT
 split at hx
 ·cases hx
 rename_i cs ow σ1 OT
 obtain⟨Im',bu,a1,a2,a3,a4,a5,a6,a7,a8⟩:=HR.ft r.hr OT hv ix
 simp only[List.nil_append] at a4
 have H0:HR B E w ⟨Im',G.g⟩ σ1.h σ.used []:=by
  cases ow
  ·simpa using a4
  ·have a4':HR B E w ⟨Im',G.g⟩ σ1.h σ.used ([]++bu):=by simpa using a4
   exact a4'.xy
 have hlen:us.length=vs.length:=hv.1
 have fY:bu.length=vs.length:=by have:=congrArg List.length a2;simp at this;omega
 have afV:(σ1.h n).isSome=true/\∃m',σ2=σ1.dc n (.row gr m' rs (xs.set k (bS e off cs)))/\
   ((m=.live/\m'=.live/\fe cs=true/\fe eZ=true)\/(m≠ .live/\m'=if ow=true then m else .aA)):=by
  split at hx
  ·rename_i hm
   split at hx
   ·rename_i hc
    injection hx with hx
    exact⟨hc.2.2,m,by rw[<-hx],.inl ⟨hm,hm,hc.1,hc.2.1⟩⟩
   ·cases hx
  ·rename_i hm
   split at hx
   ·rename_i hs
    injection hx with hx
    exact⟨hs,_,hx.symm,.inr ⟨hm,rfl⟩⟩
   ·cases hx
 obtain⟨AQ,m',rfl,gD⟩:=afV
 have mP:σ1.h n=some (.row gr m rs xs):=by
  cases hh:σ1.h n with
  |none=>rw[hh] at AQ;cases AQ
  |some b=>rw[<-a8 n b hh,hn]
 have bJ:σ1.h n≠none:=by rw[mP];simp
 have hr:=H0.row n gr m rs xs mP
 obtain⟨rl,pP,rm⟩:=H0.own n bJ aM
 have wD:=H0.iS n bJ
 obtain⟨l1,l2,l3⟩:=hr.dD aM
 have uD:∃pe,(G.g n).px[k]? =some pe/\pe.map PC.er=e:=by
  have uw:=hr.er
  rw[uw,List.getElem?_map] at hk
  cases hp:(G.g n).px[k]? with
  |none=>rw[hp] at hk;cases hk
  |some pe=>rw[hp] at hk;simp at hk;exact⟨pe,rfl,hk⟩
 obtain⟨pe,wz,wA⟩:=uD
 have AF:k<(G.g n).px.length:=(List.getElem?_eq_some_iff.1 wz).1
 have IM:pe.length=rs:=l2.1 pe (List.mem_of_getElem? wz)
 have IL:off+bu.length<=pe.length:=by rw[<-wA] at s1;simp at s1;omega
 let B8:=bS pe off bu
 let px':=(G.g n).px.set k B8
 let w2:=d8 w (G.g n).b ((G.g n).o+k*rs+off) us cur
 let p':PB:=⟨false,(G.g n).b,(G.g n).o,(G.g n).cap,px',(G.g n).na⟩
 have Ye:B8.length=rs:=by show(bS pe off bu).length=rs;rw[KW IL,IM]
 have bI:∀k' j c,At px' k' j c->(k'=k/\off<=j/\j<off+bu.length/\bu[j - off]? =some c)\/((k'≠k\/¬(off<=j/\j<off+bu.length))/\At (G.g n).px k' j c):=by
  intro k' j c h
  rcases Hx AF h with⟨rfl,hj⟩|⟨ax,h⟩
  ·rw[xo IL] at hj
   by_cases fh:off<=j/\j<off+bu.length
   ·rw[if_pos fh] at hj;exact .inl ⟨rfl,fh.1,fh.2,hj⟩
   ·rw[if_neg fh] at hj;exact .inr ⟨.inr fh,pe,wz,hj⟩
  ·exact .inr ⟨.inl ax,h⟩
 have afR:∀k' j c,At px' k' j c->j<rs:=by
  intro k' j c h
  obtain⟨e1,he,hj⟩:=h
  have:e1.length=rs:=by
   rcases List.mem_or_eq_of_mem_set (List.mem_of_getElem? he) with h1|h1
   ·exact l2.1 e1 h1
   ·rw[h1];exact Ye
  rw[<-this]
  exact(List.getElem?_eq_some_iff.1 hj).1
 have rh:∀b,aS b px'->aS b (G.g n).px\/∃(i:Nat) (c:PC),bu[i]? =some c/\aP b c:=by
  rintro b ⟨k',j,c,lZ,hb⟩
  rcases bI k' j c lZ with⟨_,_,_,hp⟩|⟨_,hp⟩
  ·exact .inr ⟨_,c,hp,hb⟩
  ·exact .inl ⟨k',j,c,hp,hb⟩
 have eF:∀b,b≠(G.g n).b->w2.heap[b]? =w.heap[b]? :=fun b hb=>zC b hb
 have OJ:∀(i:Nat) (c:PC) (b:Nat),bu[i]? =some c->aP b c->Im' b:=fun i c b hi hb=>(a3 c (List.mem_of_getElem? hi)).2 b hb
 have Iu:∀b,Im' b->b≠(G.g n).b:=fun b hb he=>rl (he▸hb)
 have OG:∀b,aS b (G.g n).px->b≠(G.g n).b:=fun b hb=>H0.sr bJ aM mP hb
 have jK:oF w2 (G.g n).b (G.g n).o rs px':=by
  refine⟨fun e1 he=>?_,fun k' j c lZ=>?_,fun k' j c lZ=>?_⟩
  ·rcases List.mem_or_eq_of_mem_set he with h1|h1
   ·exact l2.1 e1 h1
   ·rw[h1];exact Ye
  ·have hj:=afR k' j c lZ
   show w2.cell? _=_
   rw[CI hg gO]
   rcases bI k' j c lZ with⟨rfl,h1,h2,hp⟩|⟨ax,hp⟩
   ·rw[if_pos (by omega)]
    have hu:us[j - off]? =some c.val:=by rw[<-a2,List.getElem?_map,hp];rfl
    rw[<-hu]
    congr 1
    omega
   ·rw[if_neg ?_]
    ·exact l2.2.1 k' j c hp
    ·rintro⟨q1,q2⟩
     rcases ax with ax|ax
     ·rcases Nat.lt_or_gt_of_ne ax with bH|yG
      ·have:(k'+1)*rs<=k*rs:=Nat.mul_le_mul_right _ bH
       rw[Nat.add_mul] at this
       omega
      ·have:(k+1)*rs<=k'*rs:=Nat.mul_le_mul_right _ yG
       rw[Nat.add_mul] at this
       omega
     ·have:k'=k:=by
       rcases Nat.lt_trichotomy k' k with bH|dm|yG
       ·have:(k'+1)*rs<=k*rs:=Nat.mul_le_mul_right _ bH
        rw[Nat.add_mul] at this
        omega
       ·exact dm
       ·have:(k+1)*rs<=k'*rs:=Nat.mul_le_mul_right _ yG
        rw[Nat.add_mul] at this
        omega
      subst this
      omega
  ·rcases bI k' j c lZ with⟨_,_,_,hp⟩|⟨_,hp⟩
   ·exact(a3 c (List.mem_of_getElem? hp)).1.congr fun b hb x=>io (eF b (Iu b (OJ _ c b hp hb))) x
   ·exact(l2.2.2 k' j c hp).congr fun b hb x=>io (eF b (OG b ⟨k',j,c,hp,hb⟩)) x
 have aoY:(G.g n).o+k*rs+off+us.length<=cur.size:=gO
 have iY:fe cs=true->∀(i:Nat) (c:PC) (b:Nat),bu[i]? =some c->¬aP b c:=by
  intro hs i c b hi
  have hc:c.er∈cs:=by rw[<-a1];exact List.mem_map_of_mem (List.mem_of_getElem? hi)
  exact(Sep.kK (pc:=c) (List.all_eq_true.1 hs _ hc)).2 b
 have hold:fe eZ=true->∀j c,off<=j->j<off+bu.length->pe[j]? =some c->c.er.d7=true:=by
  intro hs j c h1 h2 hj
  have:c.er∈eZ:=by
   have h3:eZ[j - off]? =some c.er:=by
    have e0:eZ[j - off]? =((e.drop off).take vs.length)[j - off]? :=congrArg (fun q:List C=>q[j - off]?) s2
    rw[e0,CA (by omega),<-wA,List.getElem?_map,show off+(j - off)=j by omega,hj]
    rfl
   exact List.mem_of_getElem? h3
  exact List.all_eq_true.1 hs _ this
 have K2:aW w ⟨Im',G.g⟩ σ1.h (fun n=>σ.used n=true) w2 ⟨Im',aw G.g n p'⟩ (aw σ1.h n (some (.row gr m' rs (xs.set k (bS e off cs))))):=by
  refine⟨fun _ h=>h,fun b hb x=>io (eF b (Iu b hb)) x,fun q hq h0=>?_,fun q bk aK av hq h0=>?_⟩
  ·by_cases fi:q=n
   ·subst fi
    refine⟨bJ,?_⟩
    simp only[bA]
    exact⟨aM.symm,rfl,rfl,rfl,rfl⟩
   ·rw[bZ _ _ _ _ fi] at h0
    simp only[bZ _ _ _ _ fi]
    exact⟨h0,trivial,trivial,trivial,trivial,trivial⟩
  ·by_cases fi:q=n
   ·subst fi
    rw[bA] at h0
    injection h0 with h0
    injection h0 with e1 e2 e3 e4
    subst e1;subst e2;subst e3
    rcases gD with⟨hm,_,hs,Yn⟩|⟨hm,bB⟩
    ·subst hm
     refine⟨⟨gr,xs,mP⟩,fun k' j pc lZ hL=>?_⟩
     simp only[bA]
     refine⟨pc,?_,rfl,hL⟩
     obtain⟨e1,he,hj⟩:=lZ
     by_cases wu:k'=k
     ·subst wu
      rw[wz] at he
      injection he with he
      subst he
      refine⟨B8,List.getElem?_set_self AF,?_⟩
      show(bS pe off bu)[j]? =some pc
      rw[xo IL]
      rw[if_neg ?_]
      ·exact hj
      ·rintro⟨q1,q2⟩
       have:=hold Yn j pc q1 q2 hj
       rw[PC.Zm hL] at this
       cases this
     ·exact⟨e1,by show((G.g q).px.set k B8)[k']? =some e1;rw[List.getElem?_set_ne (Ne.symm wu)];exact he,hj⟩
    ·cases ow
     ·simp at bB
     ·simp at bB;exact absurd bB.symm hm
   ·rw[bZ _ _ _ _ fi] at h0
    simp only[bZ _ _ _ _ fi]
    exact⟨⟨bk,av,h0⟩,fun k j pc h1 h2=>⟨pc,h1,rfl,h2⟩⟩
 have uH:∀b,dr w b->dr w2 b:=fun b hb=>Lq hg gO b hb
 have OI:m'≠ .aA->(∀b,aS b px'->dr w b/\(B<=b\/E b))/\g7 px'/\(m'=.ab->∀b,aS b px'->Im' b)/\(m'=.live->∀b,aS b px'->aS b (G.g n).px)/\
   (∀q bk mo aK av,q≠n->σ1.h q=some (.row bk mo aK av)->mo≠ .aA->∀b,aS b px'->¬aS b (G.g q).px):=by
  intro gP
  have cJ:=hr.mode
  rcases gD with⟨rfl,rfl,hs,Yn⟩|⟨hm,bB⟩
  ·have eT:∀b,aS b px'->aS b (G.g n).px:=fun b hb=>(rh b hb).resolve_right (fun⟨i,c,hi,hb⟩=>iY hs i c b hi hb)
   refine⟨fun b hb=>(cJ.1 b (eT b hb)).2,⟨fun k' j c lZ=>?_,fun k1 j1 c1 k2 j2 c2 b h1 h2 ax hb=>?_⟩,(fun h=>by cases h),fun _=>eT,fun q bk mo aK av fi hq iW b hb=>H0.fv n q gr .live rs xs bk mo aK av mP hq (by simp) iW (Ne.symm fi) b (eT b hb)⟩
   ·rcases bI k' j c lZ with⟨_,_,_,hp⟩|⟨_,hp⟩
    ·exact Sep.EV (fun b hb=>iY hs _ c b hp hb) (a3 c (List.mem_of_getElem? hp)).1
    ·exact cJ.2.1 k' j c hp
   ·rcases bI k1 j1 c1 h1 with⟨_,_,_,hp⟩|⟨_,hp⟩
    ·exact absurd hb (iY hs _ c1 b hp)
    ·rcases bI k2 j2 c2 h2 with⟨_,_,_,bd⟩|⟨_,bd⟩
     ·exact iY hs _ c2 b bd
     ·exact cJ.2.2 k1 j1 c1 k2 j2 c2 b hp bd ax hb
  ·cases ow
   ·simp at bB;exact absurd bB gP
   ·simp only[if_true] at bB a4
    subst bB
    have IF:m'=.ab:=by cases m'<;>first|rfl|exact absurd rfl hm|exact absurd rfl gP
    subst IF
    refine⟨fun b hb=>?_,⟨fun k' j c lZ=>?_,fun k1 j1 c1 k2 j2 c2 b h1 h2 ax hb=>?_⟩,fun _ b hb=>?_,(fun h=>by cases h),fun q bk mo aK av fi hq iW b hb=>?_⟩
    ·rcases rh b hb with h1|⟨i,c,hi,h1⟩
     ·exact(cJ.1 b h1).2
     ·exact((a4.qG i c hi).2 b h1).2
    ·rcases bI k' j c lZ with⟨_,_,_,hp⟩|⟨_,hp⟩
     ·exact(a4.qG _ c hp).1
     ·exact cJ.2.1 k' j c hp
    ·rcases bI k1 j1 c1 h1 with⟨e1,q1,q2,hp⟩|⟨_,hp⟩
     ·rcases bI k2 j2 c2 h2 with⟨e2,q3,q4,bd⟩|⟨_,bd⟩
      ·have j3:j1 - off≠j2 - off:=fun hh=>ax (by rw[e1,e2,show j1=j2 by omega])
       exact a4.vo _ _ c1 c2 b j3 hp bd hb
      ·exact fun aT=>a4.qH _ c1 n gr .ab rs xs b hp mP (by simp) hb ⟨k2,j2,c2,bd,aT⟩
     ·rcases bI k2 j2 c2 h2 with⟨e2,q3,q4,bd⟩|⟨_,bd⟩
      ·exact fun aT=>a4.qH _ c2 n gr .ab rs xs b bd mP (by simp) aT ⟨k1,j1,c1,hp,hb⟩
      ·exact cJ.2.2 k1 j1 c1 k2 j2 c2 b hp bd ax hb
    ·rcases rh b hb with h1|⟨i,c,hi,h1⟩
     ·exact(cJ.1 b h1).1
     ·exact OJ i c b hi h1
    ·rcases rh b hb with h1|⟨i,c,hi,h1⟩
     ·exact H0.fv n q gr .ab rs xs bk mo aK av mP hq (by simp) iW (Ne.symm fi) b h1
     ·exact a4.qH i c q bk mo aK av b hi hq iW h1
 have Hn:HR B E w2 ⟨Im',aw G.g n p'⟩ (aw σ1.h n (some (.row gr m' rs (xs.set k (bS e off cs))))) σ.used []:=by
  refine H0.put (p:=p') (fun b hb ax=>eF b (ax rfl)) (by show w.heap.size<=w2.heap.size;rw[qK];exact Nat.le_refl _) (fun b _ hb=>uH b hb) (fun _ h=>h) wD
   (fun _=>⟨rl,pP,by show _<w2.heap.size;rw[qK];exact rm⟩)
   (fun _ q hq h0 kx=>(H0.inj q n h0 bJ hq kx aM)) (fun _ q bk aK av hq h0 b hb=>H0.live q bk aK av h0 b hb n bJ aM) (fun cs c q hb=>by cases hb) K2 ?_ ?_ ?_ (fun gr m sz xs _ _ i pc b hi=>by simp at hi) ?_
  ·refine⟨hr.pos,?_,(fun hl=>by cases hl),fun _=>⟨uH _ l1,jK,by show((G.g n).px.set k B8).length<=_;simpa using l3⟩,fun _ hgr=>?_,?_⟩
   ·show xs.set k (bS e off cs)=((G.g n).px.set k B8).map _
    rw[List.map_set,<-hr.er]
    congr 1
    show bS e off cs=(bS pe off bu).map PC.er
    rw[Ct,wA,a1]
   ·obtain⟨r2,jm,e',r3,r4⟩:=hr.room aM hgr
    rw[hg] at r3
    injection r3 with r3
    injection r3 with r3 _ _
    subst r3
    obtain⟨adL,c1,c2⟩:=Lp (vs:=us) (o:=(G.g n).o+k*rs+off) hg gO
    exact⟨r2,adL,et,c1,by rw[c2];exact r4⟩
   ·show CS B E w2 ⟨Im',_⟩ px' m'
    by_cases gP:m'=.aA
    ·rw[gP]
     intro b hb
     rcases rh b hb with h1|⟨i,c,hi,h1⟩
     ·have cJ:=hr.mode
      rcases gD with⟨_,h2,_⟩|⟨hm,_⟩
      ·rw[gP] at h2;cases h2
      ·cases m with
       |aA=>exact cJ b h1
       |ab=>exact(cJ.1 b h1).1
       |live=>exact absurd rfl hm
     ·exact OJ i c b hi h1
    ·obtain⟨o1,o2,o3,o4,o5⟩:=OI gP
     cases m' with
     |aA=>exact absurd rfl gP
     |ab=>exact⟨fun b hb=>⟨o3 rfl b hb,uH b (o1 b hb).1,(o1 b hb).2⟩,o2⟩
     |live=>
      refine⟨fun b hb=>⟨?_,uH b (o1 b hb).1,(o1 b hb).2⟩,o2⟩
      have cJ:=hr.mode
      rcases gD with⟨hm,_,_⟩|⟨hm,bB⟩
      ·subst hm;exact(cJ.1 b (o4 rfl b hb)).1
      ·cases ow
       ·simp at bB
       ·simp at bB;exact absurd bB.symm hm
  ·intro bk m2 aK av hb gP q Ax mo kc g0 fi hq iW b cg
   injection hb with _ hb _ _
   subst hb
   exact(OI gP).2.2.2.2 q Ax mo kc g0 fi hq iW b cg
  ·intro bk aK av hb b cg
   injection hb with _ hb _ _
   subst hb
   have eT:=(OI (by simp)).2.2.2.1 rfl b cg
   have hm:m=.live:=by
    rcases gD with⟨hm,_,_⟩|⟨hm,bB⟩
    ·exact hm
    ·cases ow
     ·simp at bB
     ·simp at bB;exact absurd bB.symm hm
   subst hm
   exact⟨fun _=>H0.live n gr rs xs mP b eT n bJ aM,fun q fi hq IP=>H0.live n gr rs xs mP b eT q hq IP⟩
  ·intro _ _ b hb
   obtain⟨q,bk,mo,aK,av,hq,h0,cg⟩:=hb
   exact H0.sr bJ aM h0 cg
 refine⟨⟨Im',aw G.g n p'⟩,?_⟩
 exact r.step (σ':=σ1.dc n (.row gr m' rs (xs.set k (bS e off cs)))) a6 (fun q hq=>by show σ1.used q=true;rw[a7];exact hq)
  (aW.trans (u2:=fun n=>σ.used n=true) (fun _ h=>h) a5 K2) (by show HR B E w2 _ (aw σ1.h n _) σ1.used [];rw[a7];exact Hn) (r.fr.one pP (fun b hb ax=>eF b ax) (by show w.heap.size<=w2.heap.size;rw[qK];exact Nat.le_refl _) (CJ hg gO) rfl rfl rfl)
end
end Go.Am
