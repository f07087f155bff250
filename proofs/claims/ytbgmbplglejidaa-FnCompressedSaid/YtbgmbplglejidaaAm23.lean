/- Am23: names are given anew. No condition. -/
import Derived.Test.YtbgmbplglejidaaAm22
set_option linter.unusedVariables false
namespace Go.Am
def back (x c n:Nat):Nat:=if n=c then x else n
theorem WZ {x c n:Nat} (hn:n≠c):back x c (nY x c n)=n:=by
 unfold back nY
 by_cases h:n=x
 ·subst h;simp
 ·simp[h,hn]
theorem an2 {x c n:Nat} (hx:x≠c) (hn:n≠c):nY x c n≠x:=by
 unfold nY
 by_cases h:n=x
 ·simp[h];exact fun e=>hx e.symm
 ·simp[h]
structure oh (x c:Nat) (used:Nat->Bool) (h h':Nat->Option ao):Prop where
 ne:x≠c
 uc:used c=false
 gone:h' x=none
 b:∀n,n≠x->h' n=(h (back x c n)).map (·.bh x c)
section
variable {B:Nat} {E:Ex} {w0 w w':World} {G G':Gh} {N:Nat} {h h':Nat->Option ao} {used:Nat->Bool} {x c:Nat}
variable {P:Program} {T:aO} {a:Act} {σ σ':St} {Q:Exit->Act->World->Prop}
def ta (G:Gh) (x c:Nat):Gh:=⟨G.Im,fun n=>G.g (back x c n)⟩
theorem oh.at (L:oh x c used h h') {n:Nat} (hn:used n=true):h' (nY x c n)=(h n).map (·.bh x c):=by
 have hc:n≠c:=fun e=>by subst e;rw[L.uc] at hn;cases hn
 rw[L.b _ (an2 L.ne hc),WZ hc]
theorem oh.Jb (L:oh x c used h h') {n:Nat} (hn:used n=true):(ta G x c).g (nY x c n)=G.g n:=by
 have hc:n≠c:=fun e=>by subst e;rw[L.uc] at hn;cases hn
 show G.g (back x c (nY x c n))=_
 rw[WZ hc]
theorem QL {o:Option ao} (hn:o.map (·.bh x c)≠none):o≠none:=by
 cases o with
 |none=>exact absurd rfl hn
 |some b=>simp
theorem QM {o:Option ao} {gr:Bool} {m:Mode} {sz:Nat} {xs:List (List C)} (hn:o.map (·.bh x c)=some (.row gr m sz xs)):o=some (.row gr m sz xs):=by
 cases o with
 |none=>cases hn
 |some b=>cases b with
  |box cs=>simp[ao.bh] at hn
  |row gr m sz xs=>exact hn
theorem aaW {o:Option ao} {cs:List ah} (hn:o.map (·.bh x c)=some (.box cs)):∃ic,o=some (.box ic)/\cs=ic.map (·.bh x c):=by
 cases o with
 |none=>cases hn
 |some b=>cases b with
  |box ic=>
   simp only[Option.map_some,ao.bh] at hn
   injection hn with hn
   injection hn with hn
   exact⟨ic,rfl,hn.symm⟩
  |row gr m sz xs=>simp[ao.bh] at hn
theorem jw.bh (L:oh x c used h h') {y:ah} {v:Value} (hr:∀m,y.iH m->used m=true) (hc:jw w G h y v):jw w (ta G x c) h' (y.oU x c) v:=by
 cases y with
 |ptr n k sz off=>
  intro hn
  rw[L.at (hr n rfl)] at hn
  rw[L.Jb (hr n rfl)]
  exact hc (QL hn)
 |sl n sz lo len=>
  intro hn
  rw[L.at (hr n rfl)] at hn
  rw[L.Jb (hr n rfl)]
  exact hc (QL hn)
 |bx n k aA off sz len=>
  intro gr xs hn
  rw[L.at (hr n rfl)] at hn
  rw[L.Jb (hr n rfl)]
  exact hc gr xs (QM hn)
 |cV n k aA off sz i=>
  intro gr xs hn
  rw[L.at (hr n rfl)] at hn
  rw[L.Jb (hr n rfl)]
  exact hc gr xs (QM hn)
 |c x=>exact hc
 |nil sz=>exact hc
 |cB xs off=>exact hc
 |fn f cA=>exact hc
 |bn=>exact hc
theorem RC.bh (L:oh x c used h h') {y:ah} {v:Value} (hr:∀m,y.ref m->used m=true) (hc:RC w G h y v):RC w (ta G x c) h' (y.bh x c) v:=by
 cases y with
 |fn f cA=>
  obtain⟨vs,h1,h2,h3⟩:=hc
  refine⟨vs,h1,by simpa using h2,fun j y u hj hu=>?_⟩
  rw[List.getElem?_map] at hj
  cases hc:cA[j]? with
  |none=>rw[hc] at hj;cases hj
  |some c0=>
   rw[hc] at hj
   simp at hj
   subst hj
   exact⟨(h3 j c0 u hc hu).1,(h3 j c0 u hc hu).2.bh L fun m hm=>hr m ⟨c0,List.mem_of_getElem? hc,hm⟩⟩
 |ptr n k sz off=>exact jw.bh (w:=w) (G:=G) L (y:=.ptr n k sz off) hr hc
 |sl n sz lo len=>exact jw.bh (w:=w) (G:=G) L (y:=.sl n sz lo len) hr hc
 |bx n k aA off sz len=>exact jw.bh (w:=w) (G:=G) L (y:=.bx n k aA off sz len) hr hc
 |cV n k aA off sz i=>exact jw.bh (w:=w) (G:=G) L (y:=.cV n k aA off sz i) hr hc
 |c x=>exact hc
 |nil sz=>exact hc
 |cB xs off=>exact hc
 |bn=>exact hc
theorem cT.bh (L:oh x c used h h') {cs:List ah} {vs:List Value} (hr:∀y∈cs,∀m,y.ref m->used m=true) (hc:cT w G h cs vs):cT w (ta G x c) h' (cs.map (·.bh x c)) vs:=by
 refine⟨by simpa using hc.1,fun j y u hj hu=>?_⟩
 rw[List.getElem?_map] at hj
 cases eP:cs[j]? with
 |none=>rw[eP] at hj;cases hj
 |some c0=>
  rw[eP] at hj
  simp at hj
  subst hj
  exact⟨(hc.2 j c0 u eP hu).1,(hc.2 j c0 u eP hu).2.bh L (hr c0 (List.mem_of_getElem? eP))⟩
theorem RV.bh (L:oh x c used h h') {ag:Bool} {cs:List ah} {v:Value} (hr:∀y∈cs,∀m,y.ref m->used m=true) (hc:RV w G h ag cs v):RV w (ta G x c) h' ag (cs.map (·.bh x c)) v:=by
 unfold RV at*
 split
 ·rename_i h1
  simp only[h1,if_true] at hc
  obtain⟨vs,e,hv⟩:=hc
  exact⟨vs,e,hv.bh L hr⟩
 ·rename_i h1
  simp only[h1] at hc
  exact cT.bh L hr hc
theorem RA.bh (L:oh x c used h h') {y:aj} {v:Value} (hr:∀m,y.ref m->used m=true) (hc:RA w G h y v):RA w (ta G x c) h' (y.bh x c) v:=by
 cases y with
 |one y=>
  rcases hc with rfl|hc
  ·exact Or.inl rfl
  ·exact Or.inr (RV.bh L (fun z hz m hm=>hr m (by simp at hz;subst hz;exact hm)) hc)
 |agg cs=>exact RV.bh L (fun z hz m hm=>hr m ⟨z,hz,hm⟩) hc
 |bq xs=>
  obtain⟨vs,e,hl,hv⟩:=hc
  refine⟨vs,e,by simpa using hl,fun j y u hj hu=>?_⟩
  rw[List.getElem?_map] at hj
  cases eP:xs[j]? with
  |none=>rw[eP] at hj;cases hj
  |some c0=>
   rw[eP] at hj
   simp at hj
   subst hj
   exact RV.bh L (fun z hz m hm=>hr m ⟨c0,List.mem_of_getElem? eP,z,hz,hm⟩) (hv j c0 u eP hu)
def xv (used:Nat->Bool) (x c:Nat):Nat->Bool:=fun n=>if n=c then used x else if n=x then false else used n
theorem ah.Fu (L:oh x c used h h') {y:ah} {m:Nat} (hr:∀m,y.iH m->used m=true) (hm:(y.oU x c).iH m):xv used x c m=true:=by
 have ca:∀n,used n=true->m=nY x c n->xv used x c m=true:=by
  intro n hn e
  subst e
  have hc:n≠c:=fun e=>by subst e;rw[L.uc] at hn;cases hn
  unfold xv nY
  by_cases h1:n=x
  ·subst h1;simp[hn]
  ·simp[h1,hc,hn]
 cases y<;>first|exact absurd hm id|exact ca _ (hr _ rfl) hm
theorem ah.Cy (L:oh x c used h h') {y:ah} {m:Nat} (hr:∀m,y.ref m->used m=true) (hm:(y.bh x c).ref m):xv used x c m=true:=by
 cases y with
 |fn f cA=>
  obtain⟨z,hz,hm⟩:=hm
  obtain⟨z0,uQ,rfl⟩:=List.mem_map.1 hz
  exact ah.Fu L (fun m hm=>hr m ⟨z0,uQ,hm⟩) hm
 |ptr n k sz off=>exact ah.Fu L (y:=.ptr n k sz off) hr hm
 |sl n sz lo len=>exact ah.Fu L (y:=.sl n sz lo len) hr hm
 |bx n k aA off sz len=>exact ah.Fu L (y:=.bx n k aA off sz len) hr hm
 |cV n k aA off sz i=>exact ah.Fu L (y:=.cV n k aA off sz i) hr hm
 |c x=>exact absurd hm id
 |nil sz=>exact absurd hm id
 |cB xs off=>exact absurd hm id
 |bn=>exact absurd hm id
theorem aj.Cy (L:oh x c used h h') {y:aj} {m:Nat} (hr:∀m,y.ref m->used m=true) (hm:(y.bh x c).ref m):xv used x c m=true:=by
 cases y with
 |one y=>exact ah.Cy L hr hm
 |agg cs=>
  obtain⟨z,hz,hm⟩:=hm
  obtain⟨z0,uQ,rfl⟩:=List.mem_map.1 hz
  exact ah.Cy L (fun m hm=>hr m ⟨z0,uQ,hm⟩) hm
 |bq xs=>
  obtain⟨p,hp,z,hz,hm⟩:=hm
  obtain⟨p0,hp0,rfl⟩:=List.mem_map.1 hp
  obtain⟨z0,uQ,rfl⟩:=List.mem_map.1 hz
  exact ah.Cy L (fun m hm=>hr m ⟨p0,hp0,z0,uQ,hm⟩) hm
theorem HR.bh (H:HR B E w G h used []) (L:oh x c used h h'):HR B E w (ta G x c) h' (xv used x c) []:=by
 have nx:∀n,h' n≠none->n≠x:=fun n hn e=>by subst e;exact hn L.gone
 have hb:∀n,h' n≠none->h (back x c n)≠none:=fun n hn=>by
  have:=L.b n (nx n hn)
  rw[this] at hn
  exact QL hn
 have eW:∀{n gr m sz xs},h' n=some (.row gr m sz xs)->h (back x c n)=some (.row gr m sz xs):=by
  intro n gr m sz xs hn
  have:=L.b n (nx n (by rw[hn];simp))
  rw[this] at hn
  exact QM hn
 have wq:∀n n',n≠x->n'≠x->n≠n'->back x c n≠back x c n':=by
  intro n n' h1 h2 h3
  unfold back
  by_cases e1:n=c
  ·by_cases e2:n'=c
   ·omega
   ·simp[e1,e2];omega
  ·by_cases e2:n'=c
   ·simp[e1,e2];omega
   ·simp[e1,e2];omega
 have wF:∀n,n≠x->used (back x c n)=true->xv used x c n=true:=by
  intro n h1 h2
  unfold xv
  unfold back at h2
  by_cases e1:n=c
  ·simp[e1] at h2⊢;exact h2
  ·simp[e1] at h2;simp[e1,h1,h2]
 refine⟨fun n hn=>wF n (nx n hn) (H.iK _ (hb n hn)),fun m cs y n hm hy hr=>?_,fun n cs hn=>?_,fun n gr m sz xs hn=>?_,fun n hn=>H.own _ (hb n hn),
  fun n n' hn bk aC=>H.inj _ _ (hb n hn) (hb n' bk) (wq n n' (nx n hn) (nx n' bk) aC),H.fW,H.pP,fun n n' gr m sz xs bm m' aJ aq hn bk hm bM aC=>H.fI _ _ gr m sz xs bm m' aJ aq (eW hn) (eW bk) hm bM
   (wq n n' (nx n (by rw[hn];simp)) (nx n' (by rw[bk];simp)) aC),fun n gr sz xs hn b aY n' bk=>H.live _ gr sz xs (eW hn) b aY _ (hb n' bk),?_,?_,?_⟩
 ·have Pv:=nx m (by rw[hm];simp)
  rw[L.b m Pv] at hm
  obtain⟨ic,h0,rfl⟩:=aaW hm
  obtain⟨y0,hy0,rfl⟩:=List.mem_map.1 hy
  exact ah.Cy L (fun q hq=>H.gV _ ic y0 q h0 hy0 hq) hr
 ·have yL:=nx n (by rw[hn];simp)
  rw[L.b n yL] at hn
  obtain⟨ic,h0,rfl⟩:=aaW hn
  obtain⟨a1,a2,a3⟩:=H.box _ ic h0
  refine⟨a1,a2,fun j y hj=>?_⟩
  rw[List.getElem?_map] at hj
  cases eP:ic[j]? with
  |none=>rw[eP] at hj;cases hj
  |some y0=>
   rw[eP] at hj
   simp at hj
   subst hj
   obtain⟨v,b1,b2,b3⟩:=a3 j y0 eP
   exact⟨v,b1,b2,b3.bh L fun q hq=>H.gV _ ic y0 q h0 (List.mem_of_getElem? eP) hq⟩
 ·have hr:=H.row _ gr m sz xs (eW hn)
  refine⟨hr.pos,hr.er,hr.nl,hr.dV,hr.room,?_⟩
  have hm:=hr.mode
  cases m<;>exact hm
 ·intro i pc hi;simp at hi
 ·intro i j pc dn b _ hi;simp at hi
 ·intro i pc n gr m sz xs b hi;simp at hi
theorem R.bh (r:R B E w0 N σ a w G) (hx:σ.bh x c=some σ'):∃G',R B E w0 N σ' a w G':=by
 unfold St.bh at hx
 split at hx
 ·injection hx with hx;subst hx;exact⟨G,r⟩
 ·rename_i aC
  split at hx
  ·injection hx with hx;subst hx;exact⟨G,r⟩
  rename_i hxp
  split at hx
  ·cases hx
  ·rename_i hu
   injection hx with hx
   subst hx
   have Br:¬aK<=c:=fun hc=>by rw[r.zw c hc] at hu;exact hu rfl
   have aaa:¬aK<=x:=fun hc=>hxp (Nat.ble_eq_true_of_le hc)
   have JF:σ.used c=false:=by simpa using hu
   have L:oh x c σ.used σ.h (fun n=>if n=c then(σ.h x).map (·.bh x c) else if n=x then none else(σ.h n).map (·.bh x c)):=by
    refine⟨aC,JF,by simp[aC],fun n hn=>?_⟩
    unfold back
    by_cases h1:n=c
    ·simp[h1]
    ·simp[h1,hn]
   exact⟨ta G x c,r.defers,r.size,fun s=>(r.env s).bh L (fun m hm=>r.sI s m hm),fun s n hn=>aj.Cy L (fun m hm=>r.sI s m hm) hn,r.hr.bh L,r.fr,fun n p b hp hb=>by
    have hn:=E.lt n p hp
    have uI:n≠c:=fun e=>Br (e▸hn)
    have yL:n≠x:=fun e=>aaa (e▸hn)
    have aY:(if n=c then(σ.h x).map (·.bh x c) else if n=x then none else(σ.h n).map (·.bh x c))=some b:=hb
    rw[if_neg uI,if_neg yL] at aY
    have hg:(ta G x c).g n=G.g n:=by simp[ta,back,uI]
    rw[hg]
    cases h1:σ.h n with
    |none=>rw[h1] at aY;cases aY
    |some b0=>
     obtain⟨p1,p2,p3,p4,p6,p5⟩:=r.re n p b0 hp h1
     refine⟨p1,p2,p3,p4,p6,fun gr sz xs El=>?_⟩
     rw[h1,El] at aY
     cases b0 with
     |box cs=>simp[ao.bh] at aY
     |row bm m' aJ aq=>
      simp only[ao.bh,Option.map_some,Option.some.injEq,ao.row.injEq] at aY
      obtain⟨_,rfl,_,_⟩:=aY
      exact p5 bm aJ aq rfl,fun n hn=>by
    have uI:n≠c:=fun e=>Br (e▸hn)
    have yL:n≠x:=fun e=>aaa (e▸hn)
    show(if n=c then σ.used x else if n=x then false else σ.used n)=true
    rw[if_neg uI,if_neg yL]
    exact r.zw n hn⟩
theorem R.aam (r:R B E w0 N σ a w G) {m:Mode} {sz:Nat} (bI:0<sz) (hx:σ.ins c (.row true m sz [])=some σ'):
  ∃G',R B E w0 N σ' a w G'/\RC w G' σ'.h (.sl c sz 0 0) (.slice none 0 0):=by
 obtain⟨hn,rfl⟩:=mE hx
 have Fc:∀b,¬aX b ([]:List (List PC)):=by rintro b ⟨k,j,q,⟨e,he,_⟩,_⟩;simp at he
 have ky:iy ([]:List (List PC)):=⟨by rintro k j q ⟨e,he,_⟩;simp at he,by rintro k j q k' j' q' b ⟨e,he,_⟩;simp at he⟩
 have H:=r.hr.insert (w':=w) (n:=c) (blk:=.row true m sz []) (p:=⟨true,0,0,0,[],none⟩) hn (fun _ _=>rfl) (Nat.le_refl _) (fun hf=>by cases hf) (fun cs y q hb=>by cases hb)
  (by
   refine⟨bI,rfl,fun _=>⟨rfl,fun _=>rfl⟩,(fun hf=>by cases hf),(fun hf=>by cases hf),?_⟩
   cases m with
   |aF=>exact fun b hb=>absurd hb (Fc b)
   |ab=>exact⟨fun b hb=>absurd hb (Fc b),ky⟩
   |live=>exact⟨fun b hb=>absurd hb (Fc b),ky⟩)
  (fun gr m' aJ aq hb hm n' bm np ko iw h0 jg b cH=>absurd cH (Fc b)) (fun gr aJ aq hb b cH=>absurd cH (Fc b)) (fun gr m' aJ aq hb hm i pc b hi=>by simp at hi)
 refine⟨_,r.step rfl (fun q hq=>rE _ _ hq) (bf.insert r.hr hn (fun _ _=>rfl)) H r.fr,fun _=>?_⟩
 simp only[bG]
 exact Or.inl ⟨rfl,rfl,rfl,rfl⟩
end
end Go.Am
