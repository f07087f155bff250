/- Am23: names are given anew. No condition. -/
import Derived.Test.YtifmggmhdcdgbaaAm22
set_option linter.unusedVariables false
namespace Go.Am
def back (x c n:Nat):Nat:=if n=c then x else n
theorem Tn {x c n:Nat} (hn:n≠c):back x c (mU x c n)=n:=by
 unfold back mU
 by_cases h:n=x
 ·subst h;simp
 ·simp[h,hn]
theorem ajl {x c n:Nat} (hx:x≠c) (hn:n≠c):mU x c n≠x:=by
 unfold mU
 by_cases h:n=x
 ·simp[h];exact fun e=>hx e.symm
 ·simp[h]
structure m6 (x c:Nat) (used:Nat->Bool) (h h':Nat->Option aq):Prop where
 ne:x≠c
 uc:used c=false
 gone:h' x=none
 b:∀n,n≠x->h' n=(h (back x c n)).map (·.aU x c)
section
variable {B:Nat} {E:Ex} {w0 w w':World} {G G':Gh} {N:Nat} {h h':Nat->Option aq} {used:Nat->Bool} {x c:Nat}
variable {P:Program} {T:bg} {a:Act} {σ σ':St} {Q:Exit->Act->World->Prop}
def rN (G:Gh) (x c:Nat):Gh:=⟨G.Im,fun n=>G.g (back x c n)⟩
theorem m6.at (L:m6 x c used h h') {n:Nat} (hn:used n=true):h' (mU x c n)=(h n).map (·.aU x c):=by
 have hc:n≠c:=fun e=>by subst e;rw[L.uc] at hn;cases hn
 rw[L.b _ (ajl L.ne hc),Tn hc]
theorem m6.GH (L:m6 x c used h h') {n:Nat} (hn:used n=true):(rN G x c).g (mU x c n)=G.g n:=by
 have hc:n≠c:=fun e=>by subst e;rw[L.uc] at hn;cases hn
 show G.g (back x c (mU x c n))=_
 rw[Tn hc]
theorem Oo {o:Option aq} (hn:o.map (·.aU x c)≠none):o≠none:=by
 cases o with
 |none=>exact absurd rfl hn
 |some b=>simp
theorem Oq {o:Option aq} {gr:Bool} {m:Mode} {sz:Nat} {xs:List (List C)} (hn:o.map (·.aU x c)=some (.row gr m sz xs)):o=some (.row gr m sz xs):=by
 cases o with
 |none=>cases hn
 |some b=>cases b with
  |box cs=>simp[aq.aU] at hn
  |row gr m sz xs=>exact hn
theorem XG {o:Option aq} {cs:List ai} (hn:o.map (·.aU x c)=some (.box cs)):∃gx,o=some (.box gx)/\cs=gx.map (·.aU x c):=by
 cases o with
 |none=>cases hn
 |some b=>cases b with
  |box gx=>
   simp only[Option.map_some,aq.aU] at hn
   injection hn with hn
   injection hn with hn
   exact⟨gx,rfl,hn.symm⟩
  |row gr m sz xs=>simp[aq.aU] at hn
theorem iM.aU (L:m6 x c used h h') {y:ai} {v:Value} (hr:∀m,y.g7 m->used m=true) (hc:iM w G h y v):iM w (rN G x c) h' (y.nI x c) v:=by
 cases y with
 |ptr n k sz off=>
  intro hn
  rw[L.at (hr n rfl)] at hn
  rw[L.GH (hr n rfl)]
  exact hc (Oo hn)
 |sl n sz lo len=>
  intro hn
  rw[L.at (hr n rfl)] at hn
  rw[L.GH (hr n rfl)]
  exact hc (Oo hn)
 |bx n k ax off sz len=>
  intro gr xs hn
  rw[L.at (hr n rfl)] at hn
  rw[L.GH (hr n rfl)]
  exact hc gr xs (Oq hn)
 |cD n k ax off sz i=>
  intro gr xs hn
  rw[L.at (hr n rfl)] at hn
  rw[L.GH (hr n rfl)]
  exact hc gr xs (Oq hn)
 |c x=>exact hc
 |nil sz=>exact hc
 |cd xs off=>exact hc
 |fn f bY=>exact hc
 |bf=>exact hc
theorem RC.aU (L:m6 x c used h h') {y:ai} {v:Value} (hr:∀m,y.ref m->used m=true) (hc:RC w G h y v):RC w (rN G x c) h' (y.aU x c) v:=by
 cases y with
 |fn f bY=>
  obtain⟨vs,h1,h2,h3⟩:=hc
  refine⟨vs,h1,by simpa using h2,fun j y u hj hu=>?_⟩
  rw[List.getElem?_map] at hj
  cases hc:bY[j]? with
  |none=>rw[hc] at hj;cases hj
  |some c0=>
   rw[hc] at hj
   simp at hj
   subst hj
   exact⟨(h3 j c0 u hc hu).1,(h3 j c0 u hc hu).2.aU L fun m hm=>hr m ⟨c0,List.mem_of_getElem? hc,hm⟩⟩
 |ptr n k sz off=>exact iM.aU (w:=w) (G:=G) L (y:=.ptr n k sz off) hr hc
 |sl n sz lo len=>exact iM.aU (w:=w) (G:=G) L (y:=.sl n sz lo len) hr hc
 |bx n k ax off sz len=>exact iM.aU (w:=w) (G:=G) L (y:=.bx n k ax off sz len) hr hc
 |cD n k ax off sz i=>exact iM.aU (w:=w) (G:=G) L (y:=.cD n k ax off sz i) hr hc
 |c x=>exact hc
 |nil sz=>exact hc
 |cd xs off=>exact hc
 |bf=>exact hc
theorem cA.aU (L:m6 x c used h h') {cs:List ai} {vs:List Value} (hr:∀y∈cs,∀m,y.ref m->used m=true) (hc:cA w G h cs vs):cA w (rN G x c) h' (cs.map (·.aU x c)) vs:=by
 refine⟨by simpa using hc.1,fun j y u hj hu=>?_⟩
 rw[List.getElem?_map] at hj
 cases dS:cs[j]? with
 |none=>rw[dS] at hj;cases hj
 |some c0=>
  rw[dS] at hj
  simp at hj
  subst hj
  exact⟨(hc.2 j c0 u dS hu).1,(hc.2 j c0 u dS hu).2.aU L (hr c0 (List.mem_of_getElem? dS))⟩
theorem RV.aU (L:m6 x c used h h') {ag:Bool} {cs:List ai} {v:Value} (hr:∀y∈cs,∀m,y.ref m->used m=true) (hc:RV w G h ag cs v):RV w (rN G x c) h' ag (cs.map (·.aU x c)) v:=by
 unfold RV at*
 split
 ·rename_i h1
  simp only[h1,if_true] at hc
  obtain⟨vs,e,hv⟩:=hc
  exact⟨vs,e,hv.aU L hr⟩
 ·rename_i h1
  simp only[h1] at hc
  exact cA.aU L hr hc
theorem RA.aU (L:m6 x c used h h') {y:ak} {v:Value} (hr:∀m,y.ref m->used m=true) (hc:RA w G h y v):RA w (rN G x c) h' (y.aU x c) v:=by
 cases y with
 |one y=>
  rcases hc with rfl|hc
  ·exact Or.inl rfl
  ·exact Or.inr (RV.aU L (fun z hz m hm=>hr m (by simp at hz;subst hz;exact hm)) hc)
 |agg cs=>exact RV.aU L (fun z hz m hm=>hr m ⟨z,hz,hm⟩) hc
 |bn xs=>
  obtain⟨vs,e,hl,hv⟩:=hc
  refine⟨vs,e,by simpa using hl,fun j y u hj hu=>?_⟩
  rw[List.getElem?_map] at hj
  cases dS:xs[j]? with
  |none=>rw[dS] at hj;cases hj
  |some c0=>
   rw[dS] at hj
   simp at hj
   subst hj
   exact RV.aU L (fun z hz m hm=>hr m ⟨c0,List.mem_of_getElem? dS,z,hz,hm⟩) (hv j c0 u dS hu)
def wv (used:Nat->Bool) (x c:Nat):Nat->Bool:=fun n=>if n=c then used x else if n=x then false else used n
theorem ai.DN (L:m6 x c used h h') {y:ai} {m:Nat} (hr:∀m,y.g7 m->used m=true) (hm:(y.nI x c).g7 m):wv used x c m=true:=by
 have cu:∀n,used n=true->m=mU x c n->wv used x c m=true:=by
  intro n hn e
  subst e
  have hc:n≠c:=fun e=>by subst e;rw[L.uc] at hn;cases hn
  unfold wv mU
  by_cases h1:n=x
  ·subst h1;simp[hn]
  ·simp[h1,hc,hn]
 cases y<;>first|exact absurd hm id|exact cu _ (hr _ rfl) hm
theorem ai.A9 (L:m6 x c used h h') {y:ai} {m:Nat} (hr:∀m,y.ref m->used m=true) (hm:(y.aU x c).ref m):wv used x c m=true:=by
 cases y with
 |fn f bY=>
  obtain⟨z,hz,hm⟩:=hm
  obtain⟨z0,tK,rfl⟩:=List.mem_map.1 hz
  exact ai.DN L (fun m hm=>hr m ⟨z0,tK,hm⟩) hm
 |ptr n k sz off=>exact ai.DN L (y:=.ptr n k sz off) hr hm
 |sl n sz lo len=>exact ai.DN L (y:=.sl n sz lo len) hr hm
 |bx n k ax off sz len=>exact ai.DN L (y:=.bx n k ax off sz len) hr hm
 |cD n k ax off sz i=>exact ai.DN L (y:=.cD n k ax off sz i) hr hm
 |c x=>exact absurd hm id
 |nil sz=>exact absurd hm id
 |cd xs off=>exact absurd hm id
 |bf=>exact absurd hm id
theorem ak.A9 (L:m6 x c used h h') {y:ak} {m:Nat} (hr:∀m,y.ref m->used m=true) (hm:(y.aU x c).ref m):wv used x c m=true:=by
 cases y with
 |one y=>exact ai.A9 L hr hm
 |agg cs=>
  obtain⟨z,hz,hm⟩:=hm
  obtain⟨z0,tK,rfl⟩:=List.mem_map.1 hz
  exact ai.A9 L (fun m hm=>hr m ⟨z0,tK,hm⟩) hm
 |bn xs=>
  obtain⟨p,hp,z,hz,hm⟩:=hm
  obtain⟨p0,hp0,rfl⟩:=List.mem_map.1 hp
  obtain⟨z0,tK,rfl⟩:=List.mem_map.1 hz
  exact ai.A9 L (fun m hm=>hr m ⟨p0,hp0,z0,tK,hm⟩) hm
theorem HR.aU (H:HR B E w G h used []) (L:m6 x c used h h'):HR B E w (rN G x c) h' (wv used x c) []:=by
 have nx:∀n,h' n≠none->n≠x:=fun n hn e=>by subst e;exact hn L.gone
 have hb:∀n,h' n≠none->h (back x c n)≠none:=fun n hn=>by
  have:=L.b n (nx n hn)
  rw[this] at hn
  exact Oo hn
 have fZ:∀{n gr m sz xs},h' n=some (.row gr m sz xs)->h (back x c n)=some (.row gr m sz xs):=by
  intro n gr m sz xs hn
  have:=L.b n (nx n (by rw[hn];simp))
  rw[this] at hn
  exact Oq hn
 have u7:∀n n',n≠x->n'≠x->n≠n'->back x c n≠back x c n':=by
  intro n n' h1 h2 h3
  unfold back
  by_cases e1:n=c
  ·by_cases e2:n'=c
   ·omega
   ·simp[e1,e2];omega
  ·by_cases e2:n'=c
   ·simp[e1,e2];omega
   ·simp[e1,e2];omega
 have vj:∀n,n≠x->used (back x c n)=true->wv used x c n=true:=by
  intro n h1 h2
  unfold wv
  unfold back at h2
  by_cases e1:n=c
  ·simp[e1] at h2⊢;exact h2
  ·simp[e1] at h2;simp[e1,h1,h2]
 refine⟨fun n hn=>vj n (nx n hn) (H.iA _ (hb n hn)),fun m cs y n hm hy hr=>?_,fun n cs hn=>?_,fun n gr m sz xs hn=>?_,fun n hn=>H.own _ (hb n hn),
  fun n n' hn bk aw=>H.inj _ _ (hb n hn) (hb n' bk) (u7 n n' (nx n hn) (nx n' bk) aw),H.fx,H.ox,fun n n' gr m sz xs bh m' aG ar hn bk hm bI aw=>H.fi _ _ gr m sz xs bh m' aG ar (fZ hn) (fZ bk) hm bI
   (u7 n n' (nx n (by rw[hn];simp)) (nx n' (by rw[bk];simp)) aw),fun n gr sz xs hn b aR n' bk=>H.live _ gr sz xs (fZ hn) b aR _ (hb n' bk),?_,?_,?_⟩
 ·have zR:=nx m (by rw[hm];simp)
  rw[L.b m zR] at hm
  obtain⟨gx,h0,rfl⟩:=XG hm
  obtain⟨y0,hy0,rfl⟩:=List.mem_map.1 hy
  exact ai.A9 L (fun q hq=>H.gi _ gx y0 q h0 hy0 hq) hr
 ·have xH:=nx n (by rw[hn];simp)
  rw[L.b n xH] at hn
  obtain⟨gx,h0,rfl⟩:=XG hn
  obtain⟨a1,a2,a3⟩:=H.box _ gx h0
  refine⟨a1,a2,fun j y hj=>?_⟩
  rw[List.getElem?_map] at hj
  cases dS:gx[j]? with
  |none=>rw[dS] at hj;cases hj
  |some y0=>
   rw[dS] at hj
   simp at hj
   subst hj
   obtain⟨v,b1,b2,b3⟩:=a3 j y0 dS
   exact⟨v,b1,b2,b3.aU L fun q hq=>H.gi _ gx y0 q h0 (List.mem_of_getElem? dS) hq⟩
 ·have hr:=H.row _ gr m sz xs (fZ hn)
  refine⟨hr.pos,hr.er,hr.nl,hr.dB,hr.room,?_⟩
  have hm:=hr.mode
  cases m<;>exact hm
 ·intro i pc hi;simp at hi
 ·intro i j pc c8 b _ hi;simp at hi
 ·intro i pc n gr m sz xs b hi;simp at hi
theorem R.aU (r:R B E w0 N σ a w G) (hx:σ.aU x c=some σ'):∃G',R B E w0 N σ' a w G':=by
 unfold St.aU at hx
 split at hx
 ·injection hx with hx;subst hx;exact⟨G,r⟩
 ·rename_i aw
  split at hx
  ·injection hx with hx;subst hx;exact⟨G,r⟩
  rename_i hxp
  split at hx
  ·cases hx
  ·rename_i hu
   injection hx with hx
   subst hx
   have u0:¬aF<=c:=fun hc=>by rw[r.yr c hc] at hu;exact hu rfl
   have V2:¬aF<=x:=fun hc=>hxp (Nat.ble_eq_true_of_le hc)
   have G9:σ.used c=false:=by simpa using hu
   have L:m6 x c σ.used σ.h (fun n=>if n=c then(σ.h x).map (·.aU x c) else if n=x then none else(σ.h n).map (·.aU x c)):=by
    refine⟨aw,G9,by simp[aw],fun n hn=>?_⟩
    unfold back
    by_cases h1:n=c
    ·simp[h1]
    ·simp[h1,hn]
   exact⟨rN G x c,r.defers,r.size,fun s=>(r.env s).aU L (fun m hm=>r.rf s m hm),fun s n hn=>ak.A9 L (fun m hm=>r.rf s m hm) hn,r.hr.aU L,r.fr,fun n p b hp hb=>by
    have hn:=E.lt n p hp
    have tx:n≠c:=fun e=>u0 (e▸hn)
    have xH:n≠x:=fun e=>V2 (e▸hn)
    have aR:(if n=c then(σ.h x).map (·.aU x c) else if n=x then none else(σ.h n).map (·.aU x c))=some b:=hb
    rw[if_neg tx,if_neg xH] at aR
    have hg:(rN G x c).g n=G.g n:=by simp[rN,back,tx]
    rw[hg]
    cases h1:σ.h n with
    |none=>rw[h1] at aR;cases aR
    |some b0=>
     obtain⟨p1,p2,p3,p4,p6,p5⟩:=r.pK n p b0 hp h1
     refine⟨p1,p2,p3,p4,p6,fun gr sz xs CH=>?_⟩
     rw[h1,CH] at aR
     cases b0 with
     |box cs=>simp[aq.aU] at aR
     |row bh m' aG ar=>
      simp only[aq.aU,Option.map_some,Option.some.injEq,aq.row.injEq] at aR
      obtain⟨_,rfl,_,_⟩:=aR
      exact p5 bh aG ar rfl,fun n hn=>by
    have tx:n≠c:=fun e=>u0 (e▸hn)
    have xH:n≠x:=fun e=>V2 (e▸hn)
    show(if n=c then σ.used x else if n=x then false else σ.used n)=true
    rw[if_neg tx,if_neg xH]
    exact r.yr n hn⟩
theorem R.WL (r:R B E w0 N σ a w G) {m:Mode} {sz:Nat} (bE:0<sz) (hx:σ.ins c (.row true m sz [])=some σ'):
  ∃G',R B E w0 N σ' a w G'/\RC w G' σ'.h (.sl c sz 0 0) (.slice none 0 0):=by
 obtain⟨hn,rfl⟩:=lW hx
 have DA:∀b,¬aP b ([]:List (List PC)):=by rintro b ⟨k,j,q,⟨e,he,_⟩,_⟩;simp at he
 have jO:gS ([]:List (List PC)):=⟨by rintro k j q ⟨e,he,_⟩;simp at he,by rintro k j q k' j' q' b ⟨e,he,_⟩;simp at he⟩
 have H:=r.hr.insert (w':=w) (n:=c) (blk:=.row true m sz []) (p:=⟨true,0,0,0,[],none⟩) hn (fun _ _=>rfl) (Nat.le_refl _) (fun hf=>by cases hf) (fun cs y q hb=>by cases hb)
  (by
   refine⟨bE,rfl,fun _=>⟨rfl,fun _=>rfl⟩,(fun hf=>by cases hf),(fun hf=>by cases hf),?_⟩
   cases m with
   |aA=>exact fun b hb=>absurd hb (DA b)
   |ae=>exact⟨fun b hb=>absurd hb (DA b),jO⟩
   |live=>exact⟨fun b hb=>absurd hb (DA b),jO⟩)
  (fun gr m' aG ar hb hm n' bh mR j5 gR h0 iC b cq=>absurd cq (DA b)) (fun gr aG ar hb b cq=>absurd cq (DA b)) (fun gr m' aG ar hb hm i pc b hi=>by simp at hi)
 refine⟨_,r.step rfl (fun q hq=>qc _ _ hq) (aT.insert r.hr hn (fun _ _=>rfl)) H r.fr,fun _=>?_⟩
 simp only[bC]
 exact Or.inl ⟨rfl,rfl,rfl,rfl⟩
end
end Go.Am
