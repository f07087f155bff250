/- Am23: names are given anew. No condition. -/
import Derived.Test.YtifmggmhdcdgbaaAm22
set_option linter.unusedVariables false
namespace Go.Am
def back (x c n:Nat):Nat:=if n=c then x else n
theorem T4 {x c n:Nat} (hn:n≠c):back x c (nG x c n)=n:=by
 unfold back nG
 by_cases h:n=x
 ·subst h;simp
 ·simp[h,hn]
theorem ajN {x c n:Nat} (hx:x≠c) (hn:n≠c):nG x c n≠x:=by
 unfold nG
 by_cases h:n=x
 ·simp[h];exact fun e=>hx e.symm
 ·simp[h]
structure nM (x c:Nat) (used:Nat->Bool) (h h':Nat->Option aq):Prop where
 ne:x≠c
 uc:used c=false
 gone:h' x=none
 b:∀n,n≠x->h' n=(h (back x c n)).map (·.aZ x c)
section
variable {B:Nat} {E:Ex} {w0 w w':World} {G G':Gh} {N:Nat} {h h':Nat->Option aq} {used:Nat->Bool} {x c:Nat}
variable {P:Program} {T:bh} {a:Act} {σ σ':St} {Q:Exit->Act->World->Prop}
def si (G:Gh) (x c:Nat):Gh:=⟨G.Im,fun n=>G.g (back x c n)⟩
theorem nM.at (L:nM x c used h h') {n:Nat} (hn:used n=true):h' (nG x c n)=(h n).map (·.aZ x c):=by
 have hc:n≠c:=fun e=>by subst e;rw[L.uc] at hn;cases hn
 rw[L.b _ (ajN L.ne hc),T4 hc]
theorem nM.G6 (L:nM x c used h h') {n:Nat} (hn:used n=true):(si G x c).g (nG x c n)=G.g n:=by
 have hc:n≠c:=fun e=>by subst e;rw[L.uc] at hn;cases hn
 show G.g (back x c (nG x c n))=_
 rw[T4 hc]
theorem Og {o:Option aq} (hn:o.map (·.aZ x c)≠none):o≠none:=by
 cases o with
 |none=>exact absurd rfl hn
 |some b=>simp
theorem Oh {o:Option aq} {gr:Bool} {m:Mode} {sz:Nat} {xs:List (List C)} (hn:o.map (·.aZ x c)=some (.row gr m sz xs)):o=some (.row gr m sz xs):=by
 cases o with
 |none=>cases hn
 |some b=>cases b with
  |box cs=>simp[aq.aZ] at hn
  |row gr m sz xs=>exact hn
theorem XL {o:Option aq} {cs:List ah} (hn:o.map (·.aZ x c)=some (.box cs)):∃gV,o=some (.box gV)/\cs=gV.map (·.aZ x c):=by
 cases o with
 |none=>cases hn
 |some b=>cases b with
  |box gV=>
   simp only[Option.map_some,aq.aZ] at hn
   injection hn with hn
   injection hn with hn
   exact⟨gV,rfl,hn.symm⟩
  |row gr m sz xs=>simp[aq.aZ] at hn
theorem jt.aZ (L:nM x c used h h') {y:ah} {v:Value} (hr:∀m,y.iD m->used m=true) (hc:jt w G h y v):jt w (si G x c) h' (y.oC x c) v:=by
 cases y with
 |ptr n k sz off=>
  intro hn
  rw[L.at (hr n rfl)] at hn
  rw[L.G6 (hr n rfl)]
  exact hc (Og hn)
 |sl n sz lo len=>
  intro hn
  rw[L.at (hr n rfl)] at hn
  rw[L.G6 (hr n rfl)]
  exact hc (Og hn)
 |bt n k ax off sz len=>
  intro gr xs hn
  rw[L.at (hr n rfl)] at hn
  rw[L.G6 (hr n rfl)]
  exact hc gr xs (Oh hn)
 |cB n k ax off sz i=>
  intro gr xs hn
  rw[L.at (hr n rfl)] at hn
  rw[L.G6 (hr n rfl)]
  exact hc gr xs (Oh hn)
 |c x=>exact hc
 |nil sz=>exact hc
 |cf xs off=>exact hc
 |fn f ca=>exact hc
 |bj=>exact hc
theorem RC.aZ (L:nM x c used h h') {y:ah} {v:Value} (hr:∀m,y.ref m->used m=true) (hc:RC w G h y v):RC w (si G x c) h' (y.aZ x c) v:=by
 cases y with
 |fn f ca=>
  obtain⟨vs,h1,h2,h3⟩:=hc
  refine⟨vs,h1,by simpa using h2,fun j y u hj hu=>?_⟩
  rw[List.getElem?_map] at hj
  cases hc:ca[j]? with
  |none=>rw[hc] at hj;cases hj
  |some c0=>
   rw[hc] at hj
   simp at hj
   subst hj
   exact⟨(h3 j c0 u hc hu).1,(h3 j c0 u hc hu).2.aZ L fun m hm=>hr m ⟨c0,List.mem_of_getElem? hc,hm⟩⟩
 |ptr n k sz off=>exact jt.aZ (w:=w) (G:=G) L (y:=.ptr n k sz off) hr hc
 |sl n sz lo len=>exact jt.aZ (w:=w) (G:=G) L (y:=.sl n sz lo len) hr hc
 |bt n k ax off sz len=>exact jt.aZ (w:=w) (G:=G) L (y:=.bt n k ax off sz len) hr hc
 |cB n k ax off sz i=>exact jt.aZ (w:=w) (G:=G) L (y:=.cB n k ax off sz i) hr hc
 |c x=>exact hc
 |nil sz=>exact hc
 |cf xs off=>exact hc
 |bj=>exact hc
theorem cA.aZ (L:nM x c used h h') {cs:List ah} {vs:List Value} (hr:∀y∈cs,∀m,y.ref m->used m=true) (hc:cA w G h cs vs):cA w (si G x c) h' (cs.map (·.aZ x c)) vs:=by
 refine⟨by simpa using hc.1,fun j y u hj hu=>?_⟩
 rw[List.getElem?_map] at hj
 cases ew:cs[j]? with
 |none=>rw[ew] at hj;cases hj
 |some c0=>
  rw[ew] at hj
  simp at hj
  subst hj
  exact⟨(hc.2 j c0 u ew hu).1,(hc.2 j c0 u ew hu).2.aZ L (hr c0 (List.mem_of_getElem? ew))⟩
theorem RV.aZ (L:nM x c used h h') {ag:Bool} {cs:List ah} {v:Value} (hr:∀y∈cs,∀m,y.ref m->used m=true) (hc:RV w G h ag cs v):RV w (si G x c) h' ag (cs.map (·.aZ x c)) v:=by
 unfold RV at*
 split
 ·rename_i h1
  simp only[h1,if_true] at hc
  obtain⟨vs,e,hv⟩:=hc
  exact⟨vs,e,hv.aZ L hr⟩
 ·rename_i h1
  simp only[h1] at hc
  exact cA.aZ L hr hc
theorem RA.aZ (L:nM x c used h h') {y:aj} {v:Value} (hr:∀m,y.ref m->used m=true) (hc:RA w G h y v):RA w (si G x c) h' (y.aZ x c) v:=by
 cases y with
 |one y=>
  rcases hc with rfl|hc
  ·exact Or.inl rfl
  ·exact Or.inr (RV.aZ L (fun z hz m hm=>hr m (by simp at hz;subst hz;exact hm)) hc)
 |agg cs=>exact RV.aZ L (fun z hz m hm=>hr m ⟨z,hz,hm⟩) hc
 |bk xs=>
  obtain⟨vs,e,hl,hv⟩:=hc
  refine⟨vs,e,by simpa using hl,fun j y u hj hu=>?_⟩
  rw[List.getElem?_map] at hj
  cases ew:xs[j]? with
  |none=>rw[ew] at hj;cases hj
  |some c0=>
   rw[ew] at hj
   simp at hj
   subst hj
   exact RV.aZ L (fun z hz m hm=>hr m ⟨c0,List.mem_of_getElem? ew,z,hz,hm⟩) (hv j c0 u ew hu)
def wM (used:Nat->Bool) (x c:Nat):Nat->Bool:=fun n=>if n=c then used x else if n=x then false else used n
theorem ah.DP (L:nM x c used h h') {y:ah} {m:Nat} (hr:∀m,y.iD m->used m=true) (hm:(y.oC x c).iD m):wM used x c m=true:=by
 have cP:∀n,used n=true->m=nG x c n->wM used x c m=true:=by
  intro n hn e
  subst e
  have hc:n≠c:=fun e=>by subst e;rw[L.uc] at hn;cases hn
  unfold wM nG
  by_cases h1:n=x
  ·subst h1;simp[hn]
  ·simp[h1,hc,hn]
 cases y<;>first|exact absurd hm id|exact cP _ (hr _ rfl) hm
theorem ah.A9 (L:nM x c used h h') {y:ah} {m:Nat} (hr:∀m,y.ref m->used m=true) (hm:(y.aZ x c).ref m):wM used x c m=true:=by
 cases y with
 |fn f ca=>
  obtain⟨z,hz,hm⟩:=hm
  obtain⟨z0,ub,rfl⟩:=List.mem_map.1 hz
  exact ah.DP L (fun m hm=>hr m ⟨z0,ub,hm⟩) hm
 |ptr n k sz off=>exact ah.DP L (y:=.ptr n k sz off) hr hm
 |sl n sz lo len=>exact ah.DP L (y:=.sl n sz lo len) hr hm
 |bt n k ax off sz len=>exact ah.DP L (y:=.bt n k ax off sz len) hr hm
 |cB n k ax off sz i=>exact ah.DP L (y:=.cB n k ax off sz i) hr hm
 |c x=>exact absurd hm id
 |nil sz=>exact absurd hm id
 |cf xs off=>exact absurd hm id
 |bj=>exact absurd hm id
theorem aj.A9 (L:nM x c used h h') {y:aj} {m:Nat} (hr:∀m,y.ref m->used m=true) (hm:(y.aZ x c).ref m):wM used x c m=true:=by
 cases y with
 |one y=>exact ah.A9 L hr hm
 |agg cs=>
  obtain⟨z,hz,hm⟩:=hm
  obtain⟨z0,ub,rfl⟩:=List.mem_map.1 hz
  exact ah.A9 L (fun m hm=>hr m ⟨z0,ub,hm⟩) hm
 |bk xs=>
  obtain⟨p,hp,z,hz,hm⟩:=hm
  obtain⟨p0,hp0,rfl⟩:=List.mem_map.1 hp
  obtain⟨z0,ub,rfl⟩:=List.mem_map.1 hz
  exact ah.A9 L (fun m hm=>hr m ⟨p0,hp0,z0,ub,hm⟩) hm
theorem HR.aZ (H:HR B E w G h used []) (L:nM x c used h h'):HR B E w (si G x c) h' (wM used x c) []:=by
 have nx:∀n,h' n≠none->n≠x:=fun n hn e=>by subst e;exact hn L.gone
 have hb:∀n,h' n≠none->h (back x c n)≠none:=fun n hn=>by
  have:=L.b n (nx n hn)
  rw[this] at hn
  exact Og hn
 have jZ:∀{n gr m sz xs},h' n=some (.row gr m sz xs)->h (back x c n)=some (.row gr m sz xs):=by
  intro n gr m sz xs hn
  have:=L.b n (nx n (by rw[hn];simp))
  rw[this] at hn
  exact Oh hn
 have vB:∀n n',n≠x->n'≠x->n≠n'->back x c n≠back x c n':=by
  intro n n' h1 h2 h3
  unfold back
  by_cases e1:n=c
  ·by_cases e2:n'=c
   ·omega
   ·simp[e1,e2];omega
  ·by_cases e2:n'=c
   ·simp[e1,e2];omega
   ·simp[e1,e2];omega
 have vK:∀n,n≠x->used (back x c n)=true->wM used x c n=true:=by
  intro n h1 h2
  unfold wM
  unfold back at h2
  by_cases e1:n=c
  ·simp[e1] at h2⊢;exact h2
  ·simp[e1] at h2;simp[e1,h1,h2]
 refine⟨fun n hn=>vK n (nx n hn) (H.jb _ (hb n hn)),fun m cs y n hm hy hr=>?_,fun n cs hn=>?_,fun n gr m sz xs hn=>?_,fun n hn=>H.own _ (hb n hn),
  fun n n' hn bn aC=>H.inj _ _ (hb n hn) (hb n' bn) (vB n n' (nx n hn) (nx n' bn) aC),H.fL,H.pg,fun n n' gr m sz xs bi m' aK ar hn bn hm bE aC=>H.fy _ _ gr m sz xs bi m' aK ar (jZ hn) (jZ bn) hm bE
   (vB n n' (nx n (by rw[hn];simp)) (nx n' (by rw[bn];simp)) aC),fun n gr sz xs hn b aX n' bn=>H.live _ gr sz xs (jZ hn) b aX _ (hb n' bn),?_,?_,?_⟩
 ·have tU:=nx m (by rw[hm];simp)
  rw[L.b m tU] at hm
  obtain⟨gV,h0,rfl⟩:=XL hm
  obtain⟨y0,hy0,rfl⟩:=List.mem_map.1 hy
  exact ah.A9 L (fun q hq=>H.gT _ gV y0 q h0 hy0 hq) hr
 ·have xR:=nx n (by rw[hn];simp)
  rw[L.b n xR] at hn
  obtain⟨gV,h0,rfl⟩:=XL hn
  obtain⟨a1,a2,a3⟩:=H.box _ gV h0
  refine⟨a1,a2,fun j y hj=>?_⟩
  rw[List.getElem?_map] at hj
  cases ew:gV[j]? with
  |none=>rw[ew] at hj;cases hj
  |some y0=>
   rw[ew] at hj
   simp at hj
   subst hj
   obtain⟨v,b1,b2,b3⟩:=a3 j y0 ew
   exact⟨v,b1,b2,b3.aZ L fun q hq=>H.gT _ gV y0 q h0 (List.mem_of_getElem? ew) hq⟩
 ·have hr:=H.row _ gr m sz xs (jZ hn)
  refine⟨hr.pos,hr.er,hr.nl,hr.dE,hr.room,?_⟩
  have hm:=hr.mode
  cases m<;>exact hm
 ·intro i pc hi;simp at hi
 ·intro i j pc df b _ hi;simp at hi
 ·intro i pc n gr m sz xs b hi;simp at hi
theorem R.aZ (r:R B E w0 N σ a w G) (hx:σ.aZ x c=some σ'):∃G',R B E w0 N σ' a w G':=by
 unfold St.aZ at hx
 split at hx
 ·injection hx with hx;subst hx;exact⟨G,r⟩
 ·rename_i aC
  split at hx
  ·injection hx with hx;subst hx;exact⟨G,r⟩
  rename_i hxp
  split at hx
  ·cases hx
  ·rename_i hu
   injection hx with hx
   subst hx
   have zO:¬aI<=c:=fun hc=>by rw[r.yx c hc] at hu;exact hu rfl
   have WA:¬aI<=x:=fun hc=>hxp (Nat.ble_eq_true_of_le hc)
   have HA:σ.used c=false:=by simpa using hu
   have L:nM x c σ.used σ.h (fun n=>if n=c then(σ.h x).map (·.aZ x c) else if n=x then none else(σ.h n).map (·.aZ x c)):=by
    refine⟨aC,HA,by simp[aC],fun n hn=>?_⟩
    unfold back
    by_cases h1:n=c
    ·simp[h1]
    ·simp[h1,hn]
   exact⟨si G x c,r.defers,r.size,fun s=>(r.env s).aZ L (fun m hm=>r.rF s m hm),fun s n hn=>aj.A9 L (fun m hm=>r.rF s m hm) hn,r.hr.aZ L,r.fr,fun n p b hp hb=>by
    have hn:=E.lt n p hp
    have pZ:n≠c:=fun e=>zO (e▸hn)
    have xR:n≠x:=fun e=>WA (e▸hn)
    have aX:(if n=c then(σ.h x).map (·.aZ x c) else if n=x then none else(σ.h n).map (·.aZ x c))=some b:=hb
    rw[if_neg pZ,if_neg xR] at aX
    have hg:(si G x c).g n=G.g n:=by simp[si,back,pZ]
    rw[hg]
    cases h1:σ.h n with
    |none=>rw[h1] at aX;cases aX
    |some b0=>
     obtain⟨p1,p2,p3,p4,p6,p5⟩:=r.qt n p b0 hp h1
     refine⟨p1,p2,p3,p4,p6,fun gr sz xs CF=>?_⟩
     rw[h1,CF] at aX
     cases b0 with
     |box cs=>simp[aq.aZ] at aX
     |row bi m' aK ar=>
      simp only[aq.aZ,Option.map_some,Option.some.injEq,aq.row.injEq] at aX
      obtain⟨_,rfl,_,_⟩:=aX
      exact p5 bi aK ar rfl,fun n hn=>by
    have pZ:n≠c:=fun e=>zO (e▸hn)
    have xR:n≠x:=fun e=>WA (e▸hn)
    show(if n=c then σ.used x else if n=x then false else σ.used n)=true
    rw[if_neg pZ,if_neg xR]
    exact r.yx n hn⟩
theorem R.W5 (r:R B E w0 N σ a w G) {m:Mode} {sz:Nat} (bG:0<sz) (hx:σ.ins c (.row true m sz [])=some σ'):
  ∃G',R B E w0 N σ' a w G'/\RC w G' σ'.h (.sl c sz 0 0) (.slice none 0 0):=by
 obtain⟨hn,rfl⟩:=mJ hx
 have DD:∀b,¬aV b ([]:List (List PC)):=by rintro b ⟨k,j,q,⟨e,he,_⟩,_⟩;simp at he
 have kt:io ([]:List (List PC)):=⟨by rintro k j q ⟨e,he,_⟩;simp at he,by rintro k j q k' j' q' b ⟨e,he,_⟩;simp at he⟩
 have H:=r.hr.insert (w':=w) (n:=c) (blk:=.row true m sz []) (p:=⟨true,0,0,0,[],none⟩) hn (fun _ _=>rfl) (Nat.le_refl _) (fun hf=>by cases hf) (fun cs y q hb=>by cases hb)
  (by
   refine⟨bG,rfl,fun _=>⟨rfl,fun _=>rfl⟩,(fun hf=>by cases hf),(fun hf=>by cases hf),?_⟩
   cases m with
   |aF=>exact fun b hb=>absurd hb (DD b)
   |aa=>exact⟨fun b hb=>absurd hb (DD b),kt⟩
   |live=>exact⟨fun b hb=>absurd hb (DD b),kt⟩)
  (fun gr m' aK ar hb hm n' bi nC kG il h0 jd b cl=>absurd cl (DD b)) (fun gr aK ar hb b cl=>absurd cl (DD b)) (fun gr m' aK ar hb hm i pc b hi=>by simp at hi)
 refine⟨_,r.step rfl (fun q hq=>qI _ _ hq) (aY.insert r.hr hn (fun _ _=>rfl)) H r.fr,fun _=>?_⟩
 simp only[bD]
 exact Or.inl ⟨rfl,rfl,rfl,rfl⟩
end
end Go.Am
