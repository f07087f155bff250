/- Am12: stores. No condition. -/
import Derived.Test.YtifmggmhdcdgbaaAm11
set_option linter.unusedVariables false
namespace Go.Am
theorem I6 {α:Type} {l vs:List α} {off:Nat} (h:off+vs.length<=l.length):(bV l off vs).length=l.length:=by
 simp[bV];omega
theorem wE {α:Type} {l vs:List α} {off j:Nat} (h:off+vs.length<=l.length):(bV l off vs)[j]? =if off<=j/\j<off+vs.length then vs[j - off]? else l[j]? :=by
 unfold bV
 have ht:(l.take off).length=off:=by simp;omega
 by_cases h1:j<off
 ·rw[if_neg (by omega),List.append_assoc,List.getElem?_append_left (by omega),List.getElem?_take_of_lt h1]
 ·by_cases h2:j<off+vs.length
  ·rw[if_pos ⟨by omega,h2⟩,List.append_assoc,List.getElem?_append_right (by omega),List.getElem?_append_left (by omega),ht]
  ·rw[if_neg (by omega),List.getElem?_append_right (by simp;omega),List.getElem?_drop]
   congr 1
   simp
   omega
theorem Bu {α β:Type} (f:α->β) (l vs:List α) (off:Nat):(bV l off vs).map f=bV (l.map f) off (vs.map f):=by
 simp[bV,List.map_take,List.map_drop]
def eE (w:World) (b o:Nat) (vs:List Value) (cur:Array Value):World:=w.setRow b (cur.toList.take o++vs++cur.toList.drop (o+vs.length)).toArray
section
variable {w:World} {b o:Nat} {vs:List Value} {cur:Array Value} {e:TypeId}
theorem BJ (hg:w.heap[b]? =some (.cells cur e (0,0))) (hl:o+vs.length<=cur.size) (x:Nat):
  (eE w b o vs cur).cell? (ad b x)=if o<=x/\x<o+vs.length then vs[x - o]? else w.cell? (ad b x):=by
 unfold eE ad
 rw[cell_setRow_same w b x cur _ e (0,0) hg]
 have h1:=wE (l:=cur.toList) (vs:=vs) (off:=o) (j:=x) (by simpa using hl)
 simp only[bV] at h1
 rw[List.getElem?_toArray,h1]
 have h2:w.cell? ⟨b,x,none⟩=cur[x]? :=by simp[World.cell?,hg]
 rw[h2]
 simp
theorem yN (k:Nat) (hk:k≠b):(eE w b o vs cur).heap[k]? =w.heap[k]? :=setRow_other w b k _ hk
theorem qJ:(eE w b o vs cur).heap.size=w.heap.size:=setRow_size _ _ _
theorem Jw (hg:w.heap[b]? =some (.cells cur e (0,0))) (hl:o+vs.length<=cur.size):∃jw,(eE w b o vs cur).heap[b]? =some (.cells jw e (0,0))/\jw.size=cur.size:=by
 refine⟨_,setRow_heap w b cur _ e (0,0) hg,?_⟩
 simp
 omega
theorem BK (hg:w.heap[b]? =some (.cells cur e (0,0))) (hl:o+vs.length<=cur.size):Cz w (eE w b o vs cur) b:=by
 intro arr e' h
 obtain⟨jw,h1,h2⟩:=Jw (vs:=vs) (o:=o) hg hl
 rw[hg] at h
 injection h with h
 injection h with ha hb
 subst ha hb
 exact⟨jw,h1,h2⟩
theorem Jx (hg:w.heap[b]? =some (.cells cur e (0,0))) (hl:o+vs.length<=cur.size) (k:Nat) (hk:dr w k):dr (eE w b o vs cur) k:=by
 by_cases V7:k=b
 ·subst V7
  obtain⟨jw,h1,_⟩:=Jw (vs:=vs) (o:=o) hg hl
  exact⟨jw,e,h1⟩
 ·exact hk.congr (yN k V7)
end
section
variable {B:Nat} {E:Ex} {w0 w w':World} {G G':Gh} {h h':Nat->Option aq} {used used':Nat->Bool} {tk:List PC} {N:Nat}
variable {P:Program} {o:Oper} {a:Act} {σ σ':St} {Q:Exit->Act->World->Prop}
theorem Es {α:Type} (f:Nat->α) (n:Nat):av f n (f n)=f:=by
 funext m;simp only[jp];split
 ·rename_i h;rw[h]
 ·rfl
theorem IP {t:TypeId} {i:TypeInfo} {b off:Nat} {v:Value} {cur:Array Value} {e:TypeId} (hi:P.info? t=some i) (bG:v.cells.size=i.size) (hg:w.heap[b]? =some (.cells cur e (0,0)))
  (hl:off+v.cells.size<=cur.size) (h1:∀u∈v.cells.toList,u.oneCell'=true):
  (storeVar t (ad b off) v).run P w=.ok () (eE w b off v.cells.toList cur):=by
 have nq:=run_storeCells_at P b off e v.cells.toList 0 cur w hg (by simpa using hl) h1
 simp only[Nat.add_zero] at nq
 simp[storeVar,sizeOf,typeInfo,hi,bG,ad,nq,eE]
theorem HR.se (H:HR B E w G h used tk) {n m:Nat} {gr:Bool} {mo:Mode} {sz:Nat} {xs:List (List C)} (hn:h n≠none) (hl:(G.g n).nl=false) (hm:h m=some (.row gr mo sz xs)) {b:Nat} (hb:aV b (G.g m).px):b≠(G.g n).b:=by
 have cU:=(H.row m gr mo sz xs hm).mode
 cases mo with
 |aF=>rintro rfl;exact(H.own n hn hl).1 (cU _ hb)
 |aa=>rintro rfl;exact(H.own n hn hl).1 (cU.1 _ hb).1
 |live=>exact H.live m gr sz xs hm b hb n hn hl
theorem R.akL (r:R B E w0 N σ a w G) {n:Nat} {cs:List ah} {vs:List ah} {us:List Value} {off:Nat} (hn:σ.h n=some (.box cs)) (hv:cA w G σ.h vs us) (iH:∀c∈vs,∀m,c.ref m->σ.used m=true)
  (hl:off+vs.length<=cs.length) {cur:Array Value} {e:TypeId} (hg:w.heap[(G.g n).b]? =some (.cells cur e (0,0))) (g8:(G.g n).o+off+us.length<=cur.size):
  R B E w0 N (σ.dv n (.box (bV cs off vs))) a (eE w (G.g n).b ((G.g n).o+off) us cur) G:=by
 have H:=r.hr
 have bN:σ.h n≠none:=by rw[hn];simp
 obtain⟨aO,sy,g7⟩:=H.box n cs hn
 obtain⟨q9,p9,ra⟩:=H.own n bN aO
 have vK:=H.jb n bN
 have hG:(⟨G.Im,av G.g n (G.g n)⟩:Gh)=G:=by rw[Es]
 have hlen:us.length=vs.length:=hv.1
 have eP:∀b,b<w.heap.size->b≠(G.g n).b->(eE w (G.g n).b ((G.g n).o+off) us cur).heap[b]? =w.heap[b]? :=fun b _ hb=>yN b hb
 have K:aY w G σ.h (fun n=>σ.used n=true) (eE w (G.g n).b ((G.g n).o+off) us cur) G (av σ.h n (some (.box (bV cs off vs)))):=by
  refine⟨fun _ h=>h,fun b hb x=>iE (eP b (H.fL b hb) (fun he=>q9 (he▸hb))) x,fun m hm h0=>?_,fun m gr sz xs hm h0=>?_⟩
  ·by_cases bC:m=n
   ·subst bC;exact⟨bN,rfl,rfl,rfl,rfl,rfl⟩
   ·rw[cd _ _ _ _ bC] at h0;exact⟨h0,rfl,rfl,rfl,rfl,rfl⟩
  ·by_cases bC:m=n
   ·subst bC;rw[bD] at h0;cases h0
   ·rw[cd _ _ _ _ bC] at h0;exact⟨⟨gr,xs,h0⟩,fun k j pc h1 h2=>⟨pc,h1,rfl,h2⟩⟩
 have Hn:HR B E (eE w (G.g n).b ((G.g n).o+off) us cur) ⟨G.Im,av G.g n (G.g n)⟩ (av σ.h n (some (.box (bV cs off vs)))) σ.used []:=by
  refine H.put (fun b hb aC=>eP b hb (aC aO)) (by rw[qJ];exact Nat.le_refl _) (fun b _ hb=>Jx hg g8 b hb) (fun _ h=>h) vK (fun _=>⟨q9,p9,by rw[qJ];exact ra⟩)
   (fun _ m hm h0 kS=>(H.inj m n h0 bN hm kS aO)) (fun _ m gr sz xs hm h0 b hb=>H.live m gr sz xs h0 b hb n bN aO) ?_ (by rw[hG];exact K) ?_
   (fun gr m sz xs hb=>by cases hb) (fun gr sz xs hb=>by cases hb) (fun gr m sz xs hb=>by cases hb) ?_
  ·intro cs' c m hb hc hm
   injection hb with hb
   subst hb
   simp only[bV,List.mem_append] at hc
   rcases hc with(hc|hc)|hc
   ·exact H.gT n cs c m hn (List.mem_of_mem_take hc) hm
   ·exact iH c hc m hm
   ·exact H.gT n cs c m hn (List.mem_of_mem_drop hc) hm
  ·rw[hG]
   refine⟨aO,Jx hg g8 _ sy,fun j c hj=>?_⟩
   rw[wE hl] at hj
   rw[BJ hg g8]
   by_cases fG:off<=j/\j<off+vs.length
   ·rw[if_pos fG] at hj
    rw[if_pos (by omega)]
    have tS:j - off<us.length:=by omega
    have hu:us[j - off]? =some (us[j - off]'tS):=List.getElem?_eq_getElem tS
    obtain⟨q1,q2⟩:=hv.2 _ _ _ hj hu
    refine⟨_,by rw[<-hu];congr 1;omega,q1,q2.eV K (iH c (List.mem_of_getElem? hj))⟩
   ·rw[if_neg fG] at hj
    rw[if_neg (by omega)]
    obtain⟨v,v1,v2,v3⟩:=g7 j c hj
    exact⟨v,v1,v2,v3.eV K (fun m hm=>H.gT n cs c m hn (List.mem_of_getElem? hj) hm)⟩
  ·intro _ _ b hb
   obtain⟨m,gr,mo,sz,xs,hm,h0,cl⟩:=hb
   exact H.se bN aO h0 cl
 rw[hG] at Hn
 exact r.step (σ':=σ.dv n (.box (bV cs off vs))) rfl (fun _ h=>h) K Hn (r.fr.one p9 (fun b hb aC=>eP b hb aC) (by rw[qJ];exact Nat.le_refl _) (BK hg g8) rfl rfl rfl)
theorem Gd {α:Type} {px:List (List α)} {k k' j:Nat} {pe:List α} {c:α} (hk:k<px.length) (h:At (px.set k pe) k' j c):(k'=k/\pe[j]? =some c)\/(k'≠k/\At px k' j c):=by
 obtain⟨e,he,hj⟩:=h
 by_cases vC:k'=k
 ·subst vC
  rw[List.getElem?_set_self hk] at he
  injection he with he
  subst he
  exact .inl ⟨rfl,hj⟩
 ·rw[List.getElem?_set_ne (Ne.symm vC)] at he
  exact .inr ⟨vC,e,he,hj⟩
theorem PC.Xe {pc:PC} (h:pc.gy=true):pc.er.eD=false:=by
 cases pc<;>simp[PC.gy] at h
 simp[PC.dw,C.eD]
theorem R.mV (r:R B E w0 N σ a w G) {n:Nat} {gr:Bool} {m:Mode} {rs:Nat} {xs:List (List C)} {k off:Nat} {e:List C} {vs:List ah} {us:List Value} {σ2:St}
  (hn:σ.h n=some (.row gr m rs xs)) (aO:(G.g n).nl=false) (hk:xs[k]? =some e) (hv:cA w G σ.h vs us) (iH:∀c∈vs,∀m,c.ref m->σ.used m=true)
  (hx:Am.mV σ n gr m rs xs k off e vs=some σ2) {cur:Array Value} {et:TypeId} (hg:w.heap[(G.g n).b]? =some (.cells cur et (0,0))) (g8:(G.g n).o+k*rs+off+us.length<=cur.size):
  ∃G',R B E w0 N σ2 a (eE w (G.g n).b ((G.g n).o+k*rs+off) us cur) G':=by
 unfold Am.mV at hx
 split at hx
 ·cases hx
 rename_i f9 fo
 obtain⟨s1,s2,s3⟩:=Ef fo
 split at hx
 ·cases hx
 rename_i cs ow σ1 Na
 obtain⟨Im',bz,a1,a2,a3,a4,a5,a6,a7,a8⟩:=HR.gf r.hr Na hv iH
 simp only[List.nil_append] at a4
 have H0:HR B E w ⟨Im',G.g⟩ σ1.h σ.used []:=by
  cases ow
  ·simpa using a4
  ·have a4':HR B E w ⟨Im',G.g⟩ σ1.h σ.used ([]++bz):=by simpa using a4
   exact a4'.yK
 have hlen:us.length=vs.length:=hv.1
 have gk:bz.length=vs.length:=by have:=congrArg List.length a2;simp at this;omega
 have adM:(σ1.h n).isSome=true/\∃m',σ2=σ1.dv n (.row gr m' rs (xs.set k (bV e off cs)))/\
   ((m=.live/\m'=.live/\fi cs=true/\fi f9=true)\/(m≠ .live/\m'=if ow=true then m else .aF)):=by
  split at hx
  ·rename_i hm
   split at hx
   ·rename_i hc
    injection hx with hx
    exact⟨hc.2.2,m,by rw[<-hx],.inl ⟨hm,hm,hc.1,hc.2.1⟩⟩
   ·cases hx
  ·rename_i hm
   split at hx
   ·rename_i hs
    injection hx with hx
    exact⟨hs,_,hx.symm,.inr ⟨hm,rfl⟩⟩
   ·cases hx
 obtain⟨z5,m',rfl,gK⟩:=adM
 have oZ:σ1.h n=some (.row gr m rs xs):=by
  cases hh:σ1.h n with
  |none=>rw[hh] at z5;cases z5
  |some b=>rw[<-a8 n b hh,hn]
 have bN:σ1.h n≠none:=by rw[oZ];simp
 have hr:=H0.row n gr m rs xs oZ
 obtain⟨q9,p9,ra⟩:=H0.own n bN aO
 have vK:=H0.jb n bN
 obtain⟨l1,l2,l3⟩:=hr.dE aO
 have tW:∃pe,(G.g n).px[k]? =some pe/\pe.map PC.er=e:=by
  have tP:=hr.er
  rw[tP,List.getElem?_map] at hk
  cases hp:(G.g n).px[k]? with
  |none=>rw[hp] at hk;cases hk
  |some pe=>rw[hp] at hk;simp at hk;exact⟨pe,rfl,hk⟩
 obtain⟨pe,vG,vH⟩:=tW
 have zT:k<(G.g n).px.length:=(List.getElem?_eq_some_iff.1 vG).1
 have Hw:pe.length=rs:=l2.1 pe (List.mem_of_getElem? vG)
 have Hv:off+bz.length<=pe.length:=by rw[<-vH] at s1;simp at s1;omega
 let A5:=bV pe off bz
 let px':=(G.g n).px.set k A5
 let w2:=eE w (G.g n).b ((G.g n).o+k*rs+off) us cur
 let p':PB:=⟨false,(G.g n).b,(G.g n).o,(G.g n).cap,px',(G.g n).na⟩
 have Wg:A5.length=rs:=by show(bV pe off bz).length=rs;rw[I6 Hv,Hw]
 have cr:∀k' j c,At px' k' j c->(k'=k/\off<=j/\j<off+bz.length/\bz[j - off]? =some c)\/((k'≠k\/¬(off<=j/\j<off+bz.length))/\At (G.g n).px k' j c):=by
  intro k' j c h
  rcases Gd zT h with⟨rfl,hj⟩|⟨aC,h⟩
  ·rw[wE Hv] at hj
   by_cases fG:off<=j/\j<off+bz.length
   ·rw[if_pos fG] at hj;exact .inl ⟨rfl,fG.1,fG.2,hj⟩
   ·rw[if_neg fG] at hj;exact .inr ⟨.inr fG,pe,vG,hj⟩
  ·exact .inr ⟨.inl aC,h⟩
 have adI:∀k' j c,At px' k' j c->j<rs:=by
  intro k' j c h
  obtain⟨e1,he,hj⟩:=h
  have:e1.length=rs:=by
   rcases List.mem_or_eq_of_mem_set (List.mem_of_getElem? he) with h1|h1
   ·exact l2.1 e1 h1
   ·rw[h1];exact Wg
  rw[<-this]
  exact(List.getElem?_eq_some_iff.1 hj).1
 have qY:∀b,aV b px'->aV b (G.g n).px\/∃(i:Nat) (c:PC),bz[i]? =some c/\aR b c:=by
  rintro b ⟨k',j,c,mC,hb⟩
  rcases cr k' j c mC with⟨_,_,_,hp⟩|⟨_,hp⟩
  ·exact .inr ⟨_,c,hp,hb⟩
  ·exact .inl ⟨k',j,c,hp,hb⟩
 have eP:∀b,b≠(G.g n).b->w2.heap[b]? =w.heap[b]? :=fun b hb=>yN b hb
 have MY:∀(i:Nat) (c:PC) (b:Nat),bz[i]? =some c->aR b c->Im' b:=fun i c b hi hb=>(a3 c (List.mem_of_getElem? hi)).2 b hb
 have Hc:∀b,Im' b->b≠(G.g n).b:=fun b hb he=>q9 (he▸hb)
 have MU:∀b,aV b (G.g n).px->b≠(G.g n).b:=fun b hb=>H0.se bN aO oZ hb
 have jZ:oL w2 (G.g n).b (G.g n).o rs px':=by
  refine⟨fun e1 he=>?_,fun k' j c mC=>?_,fun k' j c mC=>?_⟩
  ·rcases List.mem_or_eq_of_mem_set he with h1|h1
   ·exact l2.1 e1 h1
   ·rw[h1];exact Wg
  ·have hj:=adI k' j c mC
   show w2.cell? _=_
   rw[BJ hg g8]
   rcases cr k' j c mC with⟨rfl,h1,h2,hp⟩|⟨aC,hp⟩
   ·rw[if_pos (by omega)]
    have hu:us[j - off]? =some c.val:=by rw[<-a2,List.getElem?_map,hp];rfl
    rw[<-hu]
    congr 1
    omega
   ·rw[if_neg ?_]
    ·exact l2.2.1 k' j c hp
    ·rintro⟨q1,q2⟩
     rcases aC with aC|aC
     ·rcases Nat.lt_or_gt_of_ne aC with bX|xN
      ·have:(k'+1)*rs<=k*rs:=Nat.mul_le_mul_right _ bX
       rw[Nat.add_mul] at this
       omega
      ·have:(k+1)*rs<=k'*rs:=Nat.mul_le_mul_right _ xN
       rw[Nat.add_mul] at this
       omega
     ·have:k'=k:=by
       rcases Nat.lt_trichotomy k' k with bX|dA|xN
       ·have:(k'+1)*rs<=k*rs:=Nat.mul_le_mul_right _ bX
        rw[Nat.add_mul] at this
        omega
       ·exact dA
       ·have:(k+1)*rs<=k'*rs:=Nat.mul_le_mul_right _ xN
        rw[Nat.add_mul] at this
        omega
      subst this
      omega
  ·rcases cr k' j c mC with⟨_,_,_,hp⟩|⟨_,hp⟩
   ·exact(a3 c (List.mem_of_getElem? hp)).1.congr fun b hb x=>iE (eP b (Hc b (MY _ c b hp hb))) x
   ·exact(l2.2.2 k' j c hp).congr fun b hb x=>iE (eP b (MU b ⟨k',j,c,hp,hb⟩)) x
 have alx:(G.g n).o+k*rs+off+us.length<=cur.size:=g8
 have je:fi cs=true->∀(i:Nat) (c:PC) (b:Nat),bz[i]? =some c->¬aR b c:=by
  intro hs i c b hi
  have hc:c.er∈cs:=by rw[<-a1];exact List.mem_map_of_mem (List.mem_of_getElem? hi)
  exact(Sep.lc (pc:=c) (List.all_eq_true.1 hs _ hc)).2 b
 have hold:fi f9=true->∀j c,off<=j->j<off+bz.length->pe[j]? =some c->c.er.eD=true:=by
  intro hs j c h1 h2 hj
  have:c.er∈f9:=by
   have h3:f9[j - off]? =some c.er:=by
    have e0:f9[j - off]? =((e.drop off).take vs.length)[j - off]? :=congrArg (fun q:List C=>q[j - off]?) s2
    rw[e0,BA (by omega),<-vH,List.getElem?_map,show off+(j - off)=j by omega,hj]
    rfl
   exact List.mem_of_getElem? h3
  exact List.all_eq_true.1 hs _ this
 have K2:aY w ⟨Im',G.g⟩ σ1.h (fun n=>σ.used n=true) w2 ⟨Im',av G.g n p'⟩ (av σ1.h n (some (.row gr m' rs (xs.set k (bV e off cs))))):=by
  refine⟨fun _ h=>h,fun b hb x=>iE (eP b (Hc b hb)) x,fun q hq h0=>?_,fun q bi aK ar hq h0=>?_⟩
  ·by_cases fm:q=n
   ·subst fm
    refine⟨bN,?_⟩
    simp only[bD]
    exact⟨aO.symm,rfl,rfl,rfl,rfl⟩
   ·rw[cd _ _ _ _ fm] at h0
    simp only[cd _ _ _ _ fm]
    exact⟨h0,trivial,trivial,trivial,trivial,trivial⟩
  ·by_cases fm:q=n
   ·subst fm
    rw[bD] at h0
    injection h0 with h0
    injection h0 with e1 e2 e3 e4
    subst e1;subst e2;subst e3
    rcases gK with⟨hm,_,hs,Wp⟩|⟨hm,bE⟩
    ·subst hm
     refine⟨⟨gr,xs,oZ⟩,fun k' j pc mC hL=>?_⟩
     simp only[bD]
     refine⟨pc,?_,rfl,hL⟩
     obtain⟨e1,he,hj⟩:=mC
     by_cases vC:k'=k
     ·subst vC
      rw[vG] at he
      injection he with he
      subst he
      refine⟨A5,List.getElem?_set_self zT,?_⟩
      show(bV pe off bz)[j]? =some pc
      rw[wE Hv]
      rw[if_neg ?_]
      ·exact hj
      ·rintro⟨q1,q2⟩
       have:=hold Wp j pc q1 q2 hj
       rw[PC.Xe hL] at this
       cases this
     ·exact⟨e1,by show((G.g q).px.set k A5)[k']? =some e1;rw[List.getElem?_set_ne (Ne.symm vC)];exact he,hj⟩
    ·cases ow
     ·simp at bE
     ·simp at bE;exact absurd bE.symm hm
   ·rw[cd _ _ _ _ fm] at h0
    simp only[cd _ _ _ _ fm]
    exact⟨⟨bi,ar,h0⟩,fun k j pc h1 h2=>⟨pc,h1,rfl,h2⟩⟩
 have t9:∀b,dr w b->dr w2 b:=fun b hb=>Jx hg g8 b hb
 have MX:m'≠ .aF->(∀b,aV b px'->dr w b/\(B<=b\/E b))/\io px'/\(m'=.aa->∀b,aV b px'->Im' b)/\(m'=.live->∀b,aV b px'->aV b (G.g n).px)/\
   (∀q bi mo aK ar,q≠n->σ1.h q=some (.row bi mo aK ar)->mo≠ .aF->∀b,aV b px'->¬aV b (G.g q).px):=by
  intro g9
  have cU:=hr.mode
  rcases gK with⟨rfl,rfl,hs,Wp⟩|⟨hm,bE⟩
  ·have fo:∀b,aV b px'->aV b (G.g n).px:=fun b hb=>(qY b hb).resolve_right (fun⟨i,c,hi,hb⟩=>je hs i c b hi hb)
   refine⟨fun b hb=>(cU.1 b (fo b hb)).2,⟨fun k' j c mC=>?_,fun k1 j1 c1 k2 j2 c2 b h1 h2 aC hb=>?_⟩,(fun h=>by cases h),fun _=>fo,fun q bi mo aK ar fm hq jd b hb=>H0.fy n q gr .live rs xs bi mo aK ar oZ hq (by simp) jd (Ne.symm fm) b (fo b hb)⟩
   ·rcases cr k' j c mC with⟨_,_,_,hp⟩|⟨_,hp⟩
    ·exact Sep.DG (fun b hb=>je hs _ c b hp hb) (a3 c (List.mem_of_getElem? hp)).1
    ·exact cU.2.1 k' j c hp
   ·rcases cr k1 j1 c1 h1 with⟨_,_,_,hp⟩|⟨_,hp⟩
    ·exact absurd hb (je hs _ c1 b hp)
    ·rcases cr k2 j2 c2 h2 with⟨_,_,_,be⟩|⟨_,be⟩
     ·exact je hs _ c2 b be
     ·exact cU.2.2 k1 j1 c1 k2 j2 c2 b hp be aC hb
  ·cases ow
   ·simp at bE;exact absurd bE g9
   ·simp only[if_true] at bE a4
    subst bE
    have Hp:m'=.aa:=by cases m'<;>first|rfl|exact absurd rfl hm|exact absurd rfl g9
    subst Hp
    refine⟨fun b hb=>?_,⟨fun k' j c mC=>?_,fun k1 j1 c1 k2 j2 c2 b h1 h2 aC hb=>?_⟩,fun _ b hb=>?_,(fun h=>by cases h),fun q bi mo aK ar fm hq jd b hb=>?_⟩
    ·rcases qY b hb with h1|⟨i,c,hi,h1⟩
     ·exact(cU.1 b h1).2
     ·exact((a4.qF i c hi).2 b h1).2
    ·rcases cr k' j c mC with⟨_,_,_,hp⟩|⟨_,hp⟩
     ·exact(a4.qF _ c hp).1
     ·exact cU.2.1 k' j c hp
    ·rcases cr k1 j1 c1 h1 with⟨e1,q1,q2,hp⟩|⟨_,hp⟩
     ·rcases cr k2 j2 c2 h2 with⟨e2,q3,q4,be⟩|⟨_,be⟩
      ·have ko:j1 - off≠j2 - off:=fun hh=>aC (by rw[e1,e2,show j1=j2 by omega])
       exact a4.uP _ _ c1 c2 b ko hp be hb
      ·exact fun aX=>a4.qG _ c1 n gr .aa rs xs b hp oZ (by simp) hb ⟨k2,j2,c2,be,aX⟩
     ·rcases cr k2 j2 c2 h2 with⟨e2,q3,q4,be⟩|⟨_,be⟩
      ·exact fun aX=>a4.qG _ c2 n gr .aa rs xs b be oZ (by simp) aX ⟨k1,j1,c1,hp,hb⟩
      ·exact cU.2.2 k1 j1 c1 k2 j2 c2 b hp be aC hb
    ·rcases qY b hb with h1|⟨i,c,hi,h1⟩
     ·exact(cU.1 b h1).1
     ·exact MY i c b hi h1
    ·rcases qY b hb with h1|⟨i,c,hi,h1⟩
     ·exact H0.fy n q gr .aa rs xs bi mo aK ar oZ hq (by simp) jd (Ne.symm fm) b h1
     ·exact a4.qG i c q bi mo aK ar b hi hq jd h1
 have Hn:HR B E w2 ⟨Im',av G.g n p'⟩ (av σ1.h n (some (.row gr m' rs (xs.set k (bV e off cs))))) σ.used []:=by
  refine H0.put (p:=p') (fun b hb aC=>eP b (aC rfl)) (by show w.heap.size<=w2.heap.size;rw[qJ];exact Nat.le_refl _) (fun b _ hb=>t9 b hb) (fun _ h=>h) vK
   (fun _=>⟨q9,p9,by show _<w2.heap.size;rw[qJ];exact ra⟩)
   (fun _ q hq h0 kS=>(H0.inj q n h0 bN hq kS aO)) (fun _ q bi aK ar hq h0 b hb=>H0.live q bi aK ar h0 b hb n bN aO) (fun cs c q hb=>by cases hb) K2 ?_ ?_ ?_ (fun gr m sz xs _ _ i pc b hi=>by simp at hi) ?_
  ·refine⟨hr.pos,?_,(fun hl=>by cases hl),fun _=>⟨t9 _ l1,jZ,by show((G.g n).px.set k A5).length<=_;simpa using l3⟩,fun _ hgr=>?_,?_⟩
   ·show xs.set k (bV e off cs)=((G.g n).px.set k A5).map _
    rw[List.map_set,<-hr.er]
    congr 1
    show bV e off cs=(bV pe off bz).map PC.er
    rw[Bu,vH,a1]
   ·obtain⟨r2,jw,e',r3,r4⟩:=hr.room aO hgr
    rw[hg] at r3
    injection r3 with r3
    injection r3 with r3 _ _
    subst r3
    obtain⟨abm,c1,c2⟩:=Jw (vs:=us) (o:=(G.g n).o+k*rs+off) hg g8
    exact⟨r2,abm,et,c1,by rw[c2];exact r4⟩
   ·show BQ B E w2 ⟨Im',_⟩ px' m'
    by_cases g9:m'=.aF
    ·rw[g9]
     intro b hb
     rcases qY b hb with h1|⟨i,c,hi,h1⟩
     ·have cU:=hr.mode
      rcases gK with⟨_,h2,_⟩|⟨hm,_⟩
      ·rw[g9] at h2;cases h2
      ·cases m with
       |aF=>exact cU b h1
       |aa=>exact(cU.1 b h1).1
       |live=>exact absurd rfl hm
     ·exact MY i c b hi h1
    ·obtain⟨o1,o2,o3,o4,o5⟩:=MX g9
     cases m' with
     |aF=>exact absurd rfl g9
     |aa=>exact⟨fun b hb=>⟨o3 rfl b hb,t9 b (o1 b hb).1,(o1 b hb).2⟩,o2⟩
     |live=>
      refine⟨fun b hb=>⟨?_,t9 b (o1 b hb).1,(o1 b hb).2⟩,o2⟩
      have cU:=hr.mode
      rcases gK with⟨hm,_,_⟩|⟨hm,bE⟩
      ·subst hm;exact(cU.1 b (o4 rfl b hb)).1
      ·cases ow
       ·simp at bE
       ·simp at bE;exact absurd bE.symm hm
  ·intro bi m2 aK ar hb g9 q zI mo kG il fm hq jd b cl
   injection hb with _ hb _ _
   subst hb
   exact(MX g9).2.2.2.2 q zI mo kG il fm hq jd b cl
  ·intro bi aK ar hb b cl
   injection hb with _ hb _ _
   subst hb
   have fo:=(MX (by simp)).2.2.2.1 rfl b cl
   have hm:m=.live:=by
    rcases gK with⟨hm,_,_⟩|⟨hm,bE⟩
    ·exact hm
    ·cases ow
     ·simp at bE
     ·simp at bE;exact absurd bE.symm hm
   subst hm
   exact⟨fun _=>H0.live n gr rs xs oZ b fo n bN aO,fun q fm hq Hx=>H0.live n gr rs xs oZ b fo q hq Hx⟩
  ·intro _ _ b hb
   obtain⟨q,bi,mo,aK,ar,hq,h0,cl⟩:=hb
   exact H0.se bN aO h0 cl
 refine⟨⟨Im',av G.g n p'⟩,?_⟩
 exact r.step (σ':=σ1.dv n (.row gr m' rs (xs.set k (bV e off cs)))) a6 (fun q hq=>by show σ1.used q=true;rw[a7];exact hq)
  (aY.trans (u2:=fun n=>σ.used n=true) (fun _ h=>h) a5 K2) (by show HR B E w2 _ (av σ1.h n _) σ1.used [];rw[a7];exact Hn) (r.fr.one p9 (fun b hb aC=>eP b aC) (by show w.heap.size<=w2.heap.size;rw[qJ];exact Nat.le_refl _) (BK hg g8) rfl rfl rfl)
end
end Go.Am
