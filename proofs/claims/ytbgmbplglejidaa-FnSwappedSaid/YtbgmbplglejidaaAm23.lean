/- Am23: names are given anew. No condition. -/
import Derived.Test.YtbgmbplglejidaaAm22
set_option linter.unusedVariables false
namespace Go.Am
def back (x c n:Nat):Nat:=if n=c then x else n
theorem Yc {x c n:Nat} (hn:n≠c):back x c (ot x c n)=n:=by
 unfold back ot
 by_cases h:n=x
 ·subst h;simp
 ·simp[h,hn]
theorem aqY {x c n:Nat} (hx:x≠c) (hn:n≠c):ot x c n≠x:=by
 unfold ot
 by_cases h:n=x
 ·simp[h];exact fun e=>hx e.symm
 ·simp[h]
structure oF (x c:Nat) (used:Nat->Bool) (h h':Nat->Option ar):Prop where
 ne:x≠c
 uc:used c=false
 gone:h' x=none
 b:∀n,n≠x->h' n=(h (back x c n)).map (·.bh x c)
section
variable {B:Nat} {E:Ex} {w0 w w':World} {G G':Gh} {N:Nat} {h h':Nat->Option ar} {used:Nat->Bool} {x c:Nat}
variable {P:Program} {T:aT} {a:Act} {σ σ':St} {Q:Exit->Act->World->Prop}
def tn (G:Gh) (x c:Nat):Gh:=⟨G.Im,fun n=>G.g (back x c n)⟩
theorem oF.at (L:oF x c used h h') {n:Nat} (hn:used n=true):h' (ot x c n)=(h n).map (·.bh x c):=by
 have hc:n≠c:=fun e=>by subst e;rw[L.uc] at hn;cases hn
 rw[L.b _ (aqY L.ne hc),Yc hc]
theorem oF.JN (L:oF x c used h h') {n:Nat} (hn:used n=true):(tn G x c).g (ot x c n)=G.g n:=by
 have hc:n≠c:=fun e=>by subst e;rw[L.uc] at hn;cases hn
 show G.g (back x c (ot x c n))=_
 rw[Yc hc]
theorem RB {o:Option ar} (hn:o.map (·.bh x c)≠none):o≠none:=by
 cases o with
 |none=>exact absurd rfl hn
 |some b=>simp
theorem RD {o:Option ar} {gr:Bool} {m:Mode} {sz:Nat} {xs:List (List C)} (hn:o.map (·.bh x c)=some (.row gr m sz xs)):o=some (.row gr m sz xs):=by
 cases o with
 |none=>cases hn
 |some b=>cases b with
  |box cs=>simp[ar.bh] at hn
  |row gr m sz xs=>exact hn
theorem abR {o:Option ar} {cs:List aj} (hn:o.map (·.bh x c)=some (.box cs)):∃io,o=some (.box io)/\cs=io.map (·.bh x c):=by
 cases o with
 |none=>cases hn
 |some b=>cases b with
  |box io=>
   simp only[Option.map_some,ar.bh] at hn
   injection hn with hn
   injection hn with hn
   exact⟨io,rfl,hn.symm⟩
  |row gr m sz xs=>simp[ar.bh] at hn
theorem jM.bh (L:oF x c used h h') {y:aj} {v:Value} (hr:∀m,y.iY m->used m=true) (hc:jM w G h y v):jM w (tn G x c) h' (y.pj x c) v:=by
 cases y with
 |ptr n k sz off=>
  intro hn
  rw[L.at (hr n rfl)] at hn
  rw[L.JN (hr n rfl)]
  exact hc (RB hn)
 |sl n sz lo len=>
  intro hn
  rw[L.at (hr n rfl)] at hn
  rw[L.JN (hr n rfl)]
  exact hc (RB hn)
 |bE n k aE off sz len=>
  intro gr xs hn
  rw[L.at (hr n rfl)] at hn
  rw[L.JN (hr n rfl)]
  exact hc gr xs (RD hn)
 |c7 n k aE off sz i=>
  intro gr xs hn
  rw[L.at (hr n rfl)] at hn
  rw[L.JN (hr n rfl)]
  exact hc gr xs (RD hn)
 |c x=>exact hc
 |nil sz=>exact hc
 |cH xs off=>exact hc
 |fn f cF=>exact hc
 |bq=>exact hc
theorem RC.bh (L:oF x c used h h') {y:aj} {v:Value} (hr:∀m,y.ref m->used m=true) (hc:RC w G h y v):RC w (tn G x c) h' (y.bh x c) v:=by
 cases y with
 |fn f cF=>
  obtain⟨vs,h1,h2,h3⟩:=hc
  refine⟨vs,h1,by simpa using h2,fun j y u hj hu=>?_⟩
  rw[List.getElem?_map] at hj
  cases hc:cF[j]? with
  |none=>rw[hc] at hj;cases hj
  |some c0=>
   rw[hc] at hj
   simp at hj
   subst hj
   exact⟨(h3 j c0 u hc hu).1,(h3 j c0 u hc hu).2.bh L fun m hm=>hr m ⟨c0,List.mem_of_getElem? hc,hm⟩⟩
 |ptr n k sz off=>exact jM.bh (w:=w) (G:=G) L (y:=.ptr n k sz off) hr hc
 |sl n sz lo len=>exact jM.bh (w:=w) (G:=G) L (y:=.sl n sz lo len) hr hc
 |bE n k aE off sz len=>exact jM.bh (w:=w) (G:=G) L (y:=.bE n k aE off sz len) hr hc
 |c7 n k aE off sz i=>exact jM.bh (w:=w) (G:=G) L (y:=.c7 n k aE off sz i) hr hc
 |c x=>exact hc
 |nil sz=>exact hc
 |cH xs off=>exact hc
 |bq=>exact hc
theorem cZ.bh (L:oF x c used h h') {cs:List aj} {vs:List Value} (hr:∀y∈cs,∀m,y.ref m->used m=true) (hc:cZ w G h cs vs):cZ w (tn G x c) h' (cs.map (·.bh x c)) vs:=by
 refine⟨by simpa using hc.1,fun j y u hj hu=>?_⟩
 rw[List.getElem?_map] at hj
 cases eR:cs[j]? with
 |none=>rw[eR] at hj;cases hj
 |some c0=>
  rw[eR] at hj
  simp at hj
  subst hj
  exact⟨(hc.2 j c0 u eR hu).1,(hc.2 j c0 u eR hu).2.bh L (hr c0 (List.mem_of_getElem? eR))⟩
theorem RV.bh (L:oF x c used h h') {ag:Bool} {cs:List aj} {v:Value} (hr:∀y∈cs,∀m,y.ref m->used m=true) (hc:RV w G h ag cs v):RV w (tn G x c) h' ag (cs.map (·.bh x c)) v:=by
 unfold RV at*
 split
 ·rename_i h1
  simp only[h1,if_true] at hc
  obtain⟨vs,e,hv⟩:=hc
  exact⟨vs,e,hv.bh L hr⟩
 ·rename_i h1
  simp only[h1] at hc
  exact cZ.bh L hr hc
theorem RA.bh (L:oF x c used h h') {y:ak} {v:Value} (hr:∀m,y.ref m->used m=true) (hc:RA w G h y v):RA w (tn G x c) h' (y.bh x c) v:=by
 cases y with
 |one y=>
  rcases hc with rfl|hc
  ·exact Or.inl rfl
  ·exact Or.inr (RV.bh L (fun z hz m hm=>hr m (by simp at hz;subst hz;exact hm)) hc)
 |agg cs=>exact RV.bh L (fun z hz m hm=>hr m ⟨z,hz,hm⟩) hc
 |br xs=>
  obtain⟨vs,e,hl,hv⟩:=hc
  refine⟨vs,e,by simpa using hl,fun j y u hj hu=>?_⟩
  rw[List.getElem?_map] at hj
  cases eR:xs[j]? with
  |none=>rw[eR] at hj;cases hj
  |some c0=>
   rw[eR] at hj
   simp at hj
   subst hj
   exact RV.bh L (fun z hz m hm=>hr m ⟨c0,List.mem_of_getElem? eR,z,hz,hm⟩) (hv j c0 u eR hu)
def x3 (used:Nat->Bool) (x c:Nat):Nat->Bool:=fun n=>if n=c then used x else if n=x then false else used n
theorem aj.F9 (L:oF x c used h h') {y:aj} {m:Nat} (hr:∀m,y.iY m->used m=true) (hm:(y.pj x c).iY m):x3 used x c m=true:=by
 have bZ:∀n,used n=true->m=ot x c n->x3 used x c m=true:=by
  intro n hn e
  subst e
  have hc:n≠c:=fun e=>by subst e;rw[L.uc] at hn;cases hn
  unfold x3 ot
  by_cases h1:n=x
  ·subst h1;simp[hn]
  ·simp[h1,hc,hn]
 cases y<;>first|exact absurd hm id|exact bZ _ (hr _ rfl) hm
theorem aj.Dd (L:oF x c used h h') {y:aj} {m:Nat} (hr:∀m,y.ref m->used m=true) (hm:(y.bh x c).ref m):x3 used x c m=true:=by
 cases y with
 |fn f cF=>
  obtain⟨z,hz,hm⟩:=hm
  obtain⟨z0,vi,rfl⟩:=List.mem_map.1 hz
  exact aj.F9 L (fun m hm=>hr m ⟨z0,vi,hm⟩) hm
 |ptr n k sz off=>exact aj.F9 L (y:=.ptr n k sz off) hr hm
 |sl n sz lo len=>exact aj.F9 L (y:=.sl n sz lo len) hr hm
 |bE n k aE off sz len=>exact aj.F9 L (y:=.bE n k aE off sz len) hr hm
 |c7 n k aE off sz i=>exact aj.F9 L (y:=.c7 n k aE off sz i) hr hm
 |c x=>exact absurd hm id
 |nil sz=>exact absurd hm id
 |cH xs off=>exact absurd hm id
 |bq=>exact absurd hm id
theorem ak.Dd (L:oF x c used h h') {y:ak} {m:Nat} (hr:∀m,y.ref m->used m=true) (hm:(y.bh x c).ref m):x3 used x c m=true:=by
 cases y with
 |one y=>exact aj.Dd L hr hm
 |agg cs=>
  obtain⟨z,hz,hm⟩:=hm
  obtain⟨z0,vi,rfl⟩:=List.mem_map.1 hz
  exact aj.Dd L (fun m hm=>hr m ⟨z0,vi,hm⟩) hm
 |br xs=>
  obtain⟨p,hp,z,hz,hm⟩:=hm
  obtain⟨p0,hp0,rfl⟩:=List.mem_map.1 hp
  obtain⟨z0,vi,rfl⟩:=List.mem_map.1 hz
  exact aj.Dd L (fun m hm=>hr m ⟨p0,hp0,z0,vi,hm⟩) hm
theorem HR.bh (H:HR B E w G h used []) (L:oF x c used h h'):HR B E w (tn G x c) h' (x3 used x c) []:=by
 have nx:∀n,h' n≠none->n≠x:=fun n hn e=>by subst e;exact hn L.gone
 have hb:∀n,h' n≠none->h (back x c n)≠none:=fun n hn=>by
  have:=L.b n (nx n hn)
  rw[this] at hn
  exact RB hn
 have fo:∀{n gr m sz xs},h' n=some (.row gr m sz xs)->h (back x c n)=some (.row gr m sz xs):=by
  intro n gr m sz xs hn
  have:=L.b n (nx n (by rw[hn];simp))
  rw[this] at hn
  exact RD hn
 have wU:∀n n',n≠x->n'≠x->n≠n'->back x c n≠back x c n':=by
  intro n n' h1 h2 h3
  unfold back
  by_cases e1:n=c
  ·by_cases e2:n'=c
   ·omega
   ·simp[e1,e2];omega
  ·by_cases e2:n'=c
   ·simp[e1,e2];omega
   ·simp[e1,e2];omega
 have w7:∀n,n≠x->used (back x c n)=true->x3 used x c n=true:=by
  intro n h1 h2
  unfold x3
  unfold back at h2
  by_cases e1:n=c
  ·simp[e1] at h2⊢;exact h2
  ·simp[e1] at h2;simp[e1,h1,h2]
 refine⟨fun n hn=>w7 n (nx n hn) (H.jc _ (hb n hn)),fun m cs y n hm hy hr=>?_,fun n cs hn=>?_,fun n gr m sz xs hn=>?_,fun n hn=>H.own _ (hb n hn),
  fun n n' hn bm aD=>H.inj _ _ (hb n hn) (hb n' bm) (wU n n' (nx n hn) (nx n' bm) aD),H.gi,H.pZ,fun n n' gr m sz xs bo m' aJ au hn bm hm bO aD=>H.fV _ _ gr m sz xs bo m' aJ au (fo hn) (fo bm) hm bO
   (wU n n' (nx n (by rw[hn];simp)) (nx n' (by rw[bm];simp)) aD),fun n gr sz xs hn b be n' bm=>H.live _ gr sz xs (fo hn) b be _ (hb n' bm),?_,?_,?_⟩
 ·have PX:=nx m (by rw[hm];simp)
  rw[L.b m PX] at hm
  obtain⟨io,h0,rfl⟩:=abR hm
  obtain⟨y0,hy0,rfl⟩:=List.mem_map.1 hy
  exact aj.Dd L (fun q hq=>H.g8 _ io y0 q h0 hy0 hq) hr
 ·have zn:=nx n (by rw[hn];simp)
  rw[L.b n zn] at hn
  obtain⟨io,h0,rfl⟩:=abR hn
  obtain⟨a1,a2,a3⟩:=H.box _ io h0
  refine⟨a1,a2,fun j y hj=>?_⟩
  rw[List.getElem?_map] at hj
  cases eR:io[j]? with
  |none=>rw[eR] at hj;cases hj
  |some y0=>
   rw[eR] at hj
   simp at hj
   subst hj
   obtain⟨v,b1,b2,b3⟩:=a3 j y0 eR
   exact⟨v,b1,b2,b3.bh L fun q hq=>H.g8 _ io y0 q h0 (List.mem_of_getElem? eR) hq⟩
 ·have hr:=H.row _ gr m sz xs (fo hn)
  refine⟨hr.pos,hr.er,hr.nl,hr.dW,hr.room,?_⟩
  have hm:=hr.mode
  cases m<;>exact hm
 ·intro i pc hi;simp at hi
 ·intro i j pc dq b _ hi;simp at hi
 ·intro i pc n gr m sz xs b hi;simp at hi
theorem R.bh (r:R B E w0 N σ a w G) (hx:σ.bh x c=some σ'):∃G',R B E w0 N σ' a w G':=by
 unfold St.bh at hx
 split at hx
 ·injection hx with hx;subst hx;exact⟨G,r⟩
 ·rename_i aD
  split at hx
  ·injection hx with hx;subst hx;exact⟨G,r⟩
  rename_i hxp
  split at hx
  ·cases hx
  ·rename_i hu
   injection hx with hx
   subst hx
   have B4:¬aK<=c:=fun hc=>by rw[r.Ac c hc] at hu;exact hu rfl
   have aaN:¬aK<=x:=fun hc=>hxp (Nat.ble_eq_true_of_le hc)
   have Kj:σ.used c=false:=by simpa using hu
   have L:oF x c σ.used σ.h (fun n=>if n=c then(σ.h x).map (·.bh x c) else if n=x then none else(σ.h n).map (·.bh x c)):=by
    refine⟨aD,Kj,by simp[aD],fun n hn=>?_⟩
    unfold back
    by_cases h1:n=c
    ·simp[h1]
    ·simp[h1,hn]
   exact⟨tn G x c,r.defers,r.size,fun s=>(r.env s).bh L (fun m hm=>r.sP s m hm),fun s n hn=>ak.Dd L (fun m hm=>r.sP s m hm) hn,r.hr.bh L,r.fr,fun n p b hp hb=>by
    have hn:=E.lt n p hp
    have u9:n≠c:=fun e=>B4 (e▸hn)
    have zn:n≠x:=fun e=>aaN (e▸hn)
    have be:(if n=c then(σ.h x).map (·.bh x c) else if n=x then none else(σ.h n).map (·.bh x c))=some b:=hb
    rw[if_neg u9,if_neg zn] at be
    have hg:(tn G x c).g n=G.g n:=by simp[tn,back,u9]
    rw[hg]
    cases h1:σ.h n with
    |none=>rw[h1] at be;cases be
    |some b0=>
     obtain⟨p1,p2,p3,p4,p6,p5⟩:=r.rm n p b0 hp h1
     refine⟨p1,p2,p3,p4,p6,fun gr sz xs E2=>?_⟩
     rw[h1,E2] at be
     cases b0 with
     |box cs=>simp[ar.bh] at be
     |row bo m' aJ au=>
      simp only[ar.bh,Option.map_some,Option.some.injEq,ar.row.injEq] at be
      obtain⟨_,rfl,_,_⟩:=be
      exact p5 bo aJ au rfl,fun n hn=>by
    have u9:n≠c:=fun e=>B4 (e▸hn)
    have zn:n≠x:=fun e=>aaN (e▸hn)
    show(if n=c then σ.used x else if n=x then false else σ.used n)=true
    rw[if_neg u9,if_neg zn]
    exact r.Ac n hn⟩
theorem R.abc (r:R B E w0 N σ a w G) {m:Mode} {sz:Nat} (bP:0<sz) (hx:σ.ins c (.row true m sz [])=some σ'):
  ∃G',R B E w0 N σ' a w G'/\RC w G' σ'.h (.sl c sz 0 0) (.slice none 0 0):=by
 obtain⟨hn,rfl⟩:=mN hx
 have FV:∀b,¬aZ b ([]:List (List PC)):=by rintro b ⟨k,j,q,⟨e,he,_⟩,_⟩;simp at he
 have kS:iI ([]:List (List PC)):=⟨by rintro k j q ⟨e,he,_⟩;simp at he,by rintro k j q k' j' q' b ⟨e,he,_⟩;simp at he⟩
 have H:=r.hr.insert (w':=w) (n:=c) (blk:=.row true m sz []) (p:=⟨true,0,0,0,[],none⟩) hn (fun _ _=>rfl) (Nat.le_refl _) (fun hf=>by cases hf) (fun cs y q hb=>by cases hb)
  (by
   refine⟨bP,rfl,fun _=>⟨rfl,fun _=>rfl⟩,(fun hf=>by cases hf),(fun hf=>by cases hf),?_⟩
   cases m with
   |aG=>exact fun b hb=>absurd hb (FV b)
   |ae=>exact⟨fun b hb=>absurd hb (FV b),kS⟩
   |live=>exact⟨fun b hb=>absurd hb (FV b),kS⟩)
  (fun gr m' aJ au hb hm n' bo nv kL iH h0 jz b cR=>absurd cR (FV b)) (fun gr aJ au hb b cR=>absurd cR (FV b)) (fun gr m' aJ au hb hm i pc b hi=>by simp at hi)
 refine⟨_,r.step rfl (fun q hq=>rI _ _ hq) (bf.insert r.hr hn (fun _ _=>rfl)) H r.fr,fun _=>?_⟩
 simp only[bN]
 exact Or.inl ⟨rfl,rfl,rfl,rfl⟩
end
end Go.Am
