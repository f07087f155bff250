/- Am23: names are given anew. No condition. -/
import Derived.Test.YtifmggmhdcdgbaaAm22
set_option linter.unusedVariables false
namespace Go.Am
def back (x c n:Nat):Nat:=if n=c then x else n
theorem Vi {x c n:Nat} (hn:n≠c):back x c (mW x c n)=n:=by
 unfold back mW
 by_cases h:n=x
 ·subst h;simp
 ·simp[h,hn]
theorem amV {x c n:Nat} (hx:x≠c) (hn:n≠c):mW x c n≠x:=by
 unfold mW
 by_cases h:n=x
 ·simp[h];exact fun e=>hx e.symm
 ·simp[h]
structure m7 (x c:Nat) (used:Nat->Bool) (h h':Nat->Option ar):Prop where
 ne:x≠c
 uc:used c=false
 gone:h' x=none
 b:∀n,n≠x->h' n=(h (back x c n)).map (·.aX x c)
section
variable {B:Nat} {E:Ex} {w0 w w':World} {G G':Gh} {N:Nat} {h h':Nat->Option ar} {used:Nat->Bool} {x c:Nat}
variable {P:Program} {T:be} {a:Act} {σ σ':St} {Q:Exit->Act->World->Prop}
def rT (G:Gh) (x c:Nat):Gh:=⟨G.Im,fun n=>G.g (back x c n)⟩
theorem m7.at (L:m7 x c used h h') {n:Nat} (hn:used n=true):h' (mW x c n)=(h n).map (·.aX x c):=by
 have hc:n≠c:=fun e=>by subst e;rw[L.uc] at hn;cases hn
 rw[L.b _ (amV L.ne hc),Vi hc]
theorem m7.HM (L:m7 x c used h h') {n:Nat} (hn:used n=true):(rT G x c).g (mW x c n)=G.g n:=by
 have hc:n≠c:=fun e=>by subst e;rw[L.uc] at hn;cases hn
 show G.g (back x c (mW x c n))=_
 rw[Vi hc]
theorem PQ {o:Option ar} (hn:o.map (·.aX x c)≠none):o≠none:=by
 cases o with
 |none=>exact absurd rfl hn
 |some b=>simp
theorem PR {o:Option ar} {gr:Bool} {m:Mode} {sz:Nat} {xs:List (List C)} (hn:o.map (·.aX x c)=some (.row gr m sz xs)):o=some (.row gr m sz xs):=by
 cases o with
 |none=>cases hn
 |some b=>cases b with
  |box cs=>simp[ar.aX] at hn
  |row gr m sz xs=>exact hn
theorem Zu {o:Option ar} {cs:List ah} (hn:o.map (·.aX x c)=some (.box cs)):∃gu,o=some (.box gu)/\cs=gu.map (·.aX x c):=by
 cases o with
 |none=>cases hn
 |some b=>cases b with
  |box gu=>
   simp only[Option.map_some,ar.aX] at hn
   injection hn with hn
   injection hn with hn
   exact⟨gu,rfl,hn.symm⟩
  |row gr m sz xs=>simp[ar.aX] at hn
theorem iG.aX (L:m7 x c used h h') {y:ah} {v:Value} (hr:∀m,y.gU m->used m=true) (hc:iG w G h y v):iG w (rT G x c) h' (y.nQ x c) v:=by
 cases y with
 |ptr n k sz off=>
  intro hn
  rw[L.at (hr n rfl)] at hn
  rw[L.HM (hr n rfl)]
  exact hc (PQ hn)
 |sl n sz lo len=>
  intro hn
  rw[L.at (hr n rfl)] at hn
  rw[L.HM (hr n rfl)]
  exact hc (PQ hn)
 |br n k ax off sz len=>
  intro gr xs hn
  rw[L.at (hr n rfl)] at hn
  rw[L.HM (hr n rfl)]
  exact hc gr xs (PR hn)
 |cr n k ax off sz i=>
  intro gr xs hn
  rw[L.at (hr n rfl)] at hn
  rw[L.HM (hr n rfl)]
  exact hc gr xs (PR hn)
 |c x=>exact hc
 |nil sz=>exact hc
 |bT xs off=>exact hc
 |fn f bR=>exact hc
 |bg=>exact hc
theorem RC.aX (L:m7 x c used h h') {y:ah} {v:Value} (hr:∀m,y.ref m->used m=true) (hc:RC w G h y v):RC w (rT G x c) h' (y.aX x c) v:=by
 cases y with
 |fn f bR=>
  obtain⟨vs,h1,h2,h3⟩:=hc
  refine⟨vs,h1,by simpa using h2,fun j y u hj hu=>?_⟩
  rw[List.getElem?_map] at hj
  cases hc:bR[j]? with
  |none=>rw[hc] at hj;cases hj
  |some c0=>
   rw[hc] at hj
   simp at hj
   subst hj
   exact⟨(h3 j c0 u hc hu).1,(h3 j c0 u hc hu).2.aX L fun m hm=>hr m ⟨c0,List.mem_of_getElem? hc,hm⟩⟩
 |ptr n k sz off=>exact iG.aX (w:=w) (G:=G) L (y:=.ptr n k sz off) hr hc
 |sl n sz lo len=>exact iG.aX (w:=w) (G:=G) L (y:=.sl n sz lo len) hr hc
 |br n k ax off sz len=>exact iG.aX (w:=w) (G:=G) L (y:=.br n k ax off sz len) hr hc
 |cr n k ax off sz i=>exact iG.aX (w:=w) (G:=G) L (y:=.cr n k ax off sz i) hr hc
 |c x=>exact hc
 |nil sz=>exact hc
 |bT xs off=>exact hc
 |bg=>exact hc
theorem cj.aX (L:m7 x c used h h') {cs:List ah} {vs:List Value} (hr:∀y∈cs,∀m,y.ref m->used m=true) (hc:cj w G h cs vs):cj w (rT G x c) h' (cs.map (·.aX x c)) vs:=by
 refine⟨by simpa using hc.1,fun j y u hj hu=>?_⟩
 rw[List.getElem?_map] at hj
 cases dQ:cs[j]? with
 |none=>rw[dQ] at hj;cases hj
 |some c0=>
  rw[dQ] at hj
  simp at hj
  subst hj
  exact⟨(hc.2 j c0 u dQ hu).1,(hc.2 j c0 u dQ hu).2.aX L (hr c0 (List.mem_of_getElem? dQ))⟩
theorem RV.aX (L:m7 x c used h h') {ag:Bool} {cs:List ah} {v:Value} (hr:∀y∈cs,∀m,y.ref m->used m=true) (hc:RV w G h ag cs v):RV w (rT G x c) h' ag (cs.map (·.aX x c)) v:=by
 unfold RV at*
 split
 ·rename_i h1
  simp only[h1,if_true] at hc
  obtain⟨vs,e,hv⟩:=hc
  exact⟨vs,e,hv.aX L hr⟩
 ·rename_i h1
  simp only[h1] at hc
  exact cj.aX L hr hc
theorem RA.aX (L:m7 x c used h h') {y:ai} {v:Value} (hr:∀m,y.ref m->used m=true) (hc:RA w G h y v):RA w (rT G x c) h' (y.aX x c) v:=by
 cases y with
 |one y=>
  rcases hc with rfl|hc
  ·exact Or.inl rfl
  ·exact Or.inr (RV.aX L (fun z hz m hm=>hr m (by simp at hz;subst hz;exact hm)) hc)
 |agg cs=>exact RV.aX L (fun z hz m hm=>hr m ⟨z,hz,hm⟩) hc
 |bj xs=>
  obtain⟨vs,e,hl,hv⟩:=hc
  refine⟨vs,e,by simpa using hl,fun j y u hj hu=>?_⟩
  rw[List.getElem?_map] at hj
  cases dQ:xs[j]? with
  |none=>rw[dQ] at hj;cases hj
  |some c0=>
   rw[dQ] at hj
   simp at hj
   subst hj
   exact RV.aX L (fun z hz m hm=>hr m ⟨c0,List.mem_of_getElem? dQ,z,hz,hm⟩) (hv j c0 u dQ hu)
def wY (used:Nat->Bool) (x c:Nat):Nat->Bool:=fun n=>if n=c then used x else if n=x then false else used n
theorem ah.Ez (L:m7 x c used h h') {y:ah} {m:Nat} (hr:∀m,y.gU m->used m=true) (hm:(y.nQ x c).gU m):wY used x c m=true:=by
 have cq:∀n,used n=true->m=mW x c n->wY used x c m=true:=by
  intro n hn e
  subst e
  have hc:n≠c:=fun e=>by subst e;rw[L.uc] at hn;cases hn
  unfold wY mW
  by_cases h1:n=x
  ·subst h1;simp[hn]
  ·simp[h1,hc,hn]
 cases y<;>first|exact absurd hm id|exact cq _ (hr _ rfl) hm
theorem ah.BB (L:m7 x c used h h') {y:ah} {m:Nat} (hr:∀m,y.ref m->used m=true) (hm:(y.aX x c).ref m):wY used x c m=true:=by
 cases y with
 |fn f bR=>
  obtain⟨z,hz,hm⟩:=hm
  obtain⟨z0,tZ,rfl⟩:=List.mem_map.1 hz
  exact ah.Ez L (fun m hm=>hr m ⟨z0,tZ,hm⟩) hm
 |ptr n k sz off=>exact ah.Ez L (y:=.ptr n k sz off) hr hm
 |sl n sz lo len=>exact ah.Ez L (y:=.sl n sz lo len) hr hm
 |br n k ax off sz len=>exact ah.Ez L (y:=.br n k ax off sz len) hr hm
 |cr n k ax off sz i=>exact ah.Ez L (y:=.cr n k ax off sz i) hr hm
 |c x=>exact absurd hm id
 |nil sz=>exact absurd hm id
 |bT xs off=>exact absurd hm id
 |bg=>exact absurd hm id
theorem ai.BB (L:m7 x c used h h') {y:ai} {m:Nat} (hr:∀m,y.ref m->used m=true) (hm:(y.aX x c).ref m):wY used x c m=true:=by
 cases y with
 |one y=>exact ah.BB L hr hm
 |agg cs=>
  obtain⟨z,hz,hm⟩:=hm
  obtain⟨z0,tZ,rfl⟩:=List.mem_map.1 hz
  exact ah.BB L (fun m hm=>hr m ⟨z0,tZ,hm⟩) hm
 |bj xs=>
  obtain⟨p,hp,z,hz,hm⟩:=hm
  obtain⟨p0,hp0,rfl⟩:=List.mem_map.1 hp
  obtain⟨z0,tZ,rfl⟩:=List.mem_map.1 hz
  exact ah.BB L (fun m hm=>hr m ⟨p0,hp0,z0,tZ,hm⟩) hm
theorem HR.aX (H:HR B E w G h used []) (L:m7 x c used h h'):HR B E w (rT G x c) h' (wY used x c) []:=by
 have nx:∀n,h' n≠none->n≠x:=fun n hn e=>by subst e;exact hn L.gone
 have hb:∀n,h' n≠none->h (back x c n)≠none:=fun n hn=>by
  have:=L.b n (nx n hn)
  rw[this] at hn
  exact PQ hn
 have jh:∀{n gr m sz xs},h' n=some (.row gr m sz xs)->h (back x c n)=some (.row gr m sz xs):=by
  intro n gr m sz xs hn
  have:=L.b n (nx n (by rw[hn];simp))
  rw[this] at hn
  exact PR hn
 have vC:∀n n',n≠x->n'≠x->n≠n'->back x c n≠back x c n':=by
  intro n n' h1 h2 h3
  unfold back
  by_cases e1:n=c
  ·by_cases e2:n'=c
   ·omega
   ·simp[e1,e2];omega
  ·by_cases e2:n'=c
   ·simp[e1,e2];omega
   ·simp[e1,e2];omega
 have vL:∀n,n≠x->used (back x c n)=true->wY used x c n=true:=by
  intro n h1 h2
  unfold wY
  unfold back at h2
  by_cases e1:n=c
  ·simp[e1] at h2⊢;exact h2
  ·simp[e1] at h2;simp[e1,h1,h2]
 refine⟨fun n hn=>vL n (nx n hn) (H.iq _ (hb n hn)),fun m cs y n hm hy hr=>?_,fun n cs hn=>?_,fun n gr m sz xs hn=>?_,fun n hn=>H.own _ (hb n hn),
  fun n n' hn bh aA=>H.inj _ _ (hb n hn) (hb n' bh) (vC n n' (nx n hn) (nx n' bh) aA),H.fk,H.oH,fun n n' gr m sz xs bf m' aK au hn bh hm bz aA=>H.e7 _ _ gr m sz xs bf m' aK au (jh hn) (jh bh) hm bz
   (vC n n' (nx n (by rw[hn];simp)) (nx n' (by rw[bh];simp)) aA),fun n gr sz xs hn b aU n' bh=>H.live _ gr sz xs (jh hn) b aU _ (hb n' bh),?_,?_,?_⟩
 ·have Dl:=nx m (by rw[hm];simp)
  rw[L.b m Dl] at hm
  obtain⟨gu,h0,rfl⟩:=Zu hm
  obtain⟨y0,hy0,rfl⟩:=List.mem_map.1 hy
  exact ah.BB L (fun q hq=>H.f8 _ gu y0 q h0 hy0 hq) hr
 ·have yd:=nx n (by rw[hn];simp)
  rw[L.b n yd] at hn
  obtain⟨gu,h0,rfl⟩:=Zu hn
  obtain⟨a1,a2,a3⟩:=H.box _ gu h0
  refine⟨a1,a2,fun j y hj=>?_⟩
  rw[List.getElem?_map] at hj
  cases dQ:gu[j]? with
  |none=>rw[dQ] at hj;cases hj
  |some y0=>
   rw[dQ] at hj
   simp at hj
   subst hj
   obtain⟨v,b1,b2,b3⟩:=a3 j y0 dQ
   exact⟨v,b1,b2,b3.aX L fun q hq=>H.f8 _ gu y0 q h0 (List.mem_of_getElem? dQ) hq⟩
 ·have hr:=H.row _ gr m sz xs (jh hn)
  refine⟨hr.pos,hr.er,hr.nl,hr.dq,hr.room,?_⟩
  have hm:=hr.mode
  cases m<;>exact hm
 ·intro i pc hi;simp at hi
 ·intro i j pc cR b _ hi;simp at hi
 ·intro i pc n gr m sz xs b hi;simp at hi
theorem R.aX (r:R B E w0 N σ a w G) (hx:σ.aX x c=some σ'):∃G',R B E w0 N σ' a w G':=by
 unfold St.aX at hx
 split at hx
 ·injection hx with hx;subst hx;exact⟨G,r⟩
 ·rename_i aA
  split at hx
  ·injection hx with hx;subst hx;exact⟨G,r⟩
  rename_i hxp
  split at hx
  ·cases hx
  ·rename_i hu
   injection hx with hx
   subst hx
   have vw:¬aJ<=c:=fun hc=>by rw[r.yO c hc] at hu;exact hu rfl
   have XQ:¬aJ<=x:=fun hc=>hxp (Nat.ble_eq_true_of_le hc)
   have Ii:σ.used c=false:=by simpa using hu
   have L:m7 x c σ.used σ.h (fun n=>if n=c then(σ.h x).map (·.aX x c) else if n=x then none else(σ.h n).map (·.aX x c)):=by
    refine⟨aA,Ii,by simp[aA],fun n hn=>?_⟩
    unfold back
    by_cases h1:n=c
    ·simp[h1]
    ·simp[h1,hn]
   exact⟨rT G x c,r.defers,r.size,fun s=>(r.env s).aX L (fun m hm=>r.ru s m hm),fun s n hn=>ai.BB L (fun m hm=>r.ru s m hm) hn,r.hr.aX L,r.fr,fun n p b hp hb=>by
    have hn:=E.lt n p hp
    have pB:n≠c:=fun e=>vw (e▸hn)
    have yd:n≠x:=fun e=>XQ (e▸hn)
    have aU:(if n=c then(σ.h x).map (·.aX x c) else if n=x then none else(σ.h n).map (·.aX x c))=some b:=hb
    rw[if_neg pB,if_neg yd] at aU
    have hg:(rT G x c).g n=G.g n:=by simp[rT,back,pB]
    rw[hg]
    cases h1:σ.h n with
    |none=>rw[h1] at aU;cases aU
    |some b0=>
     obtain⟨p1,p2,p3,p4,p6,p5⟩:=r.pV n p b0 hp h1
     refine⟨p1,p2,p3,p4,p6,fun gr sz xs C7=>?_⟩
     rw[h1,C7] at aU
     cases b0 with
     |box cs=>simp[ar.aX] at aU
     |row bf m' aK au=>
      simp only[ar.aX,Option.map_some,Option.some.injEq,ar.row.injEq] at aU
      obtain⟨_,rfl,_,_⟩:=aU
      exact p5 bf aK au rfl,fun n hn=>by
    have pB:n≠c:=fun e=>vw (e▸hn)
    have yd:n≠x:=fun e=>XQ (e▸hn)
    show(if n=c then σ.used x else if n=x then false else σ.used n)=true
    rw[if_neg pB,if_neg yd]
    exact r.yO n hn⟩
theorem R.Yy (r:R B E w0 N σ a w G) {m:Mode} {sz:Nat} (bA:0<sz) (hx:σ.ins c (.row true m sz [])=some σ'):
  ∃G',R B E w0 N σ' a w G'/\RC w G' σ'.h (.sl c sz 0 0) (.slice none 0 0):=by
 obtain⟨hn,rfl⟩:=lO hx
 have Ek:∀b,¬aR b ([]:List (List PC)):=by rintro b ⟨k,j,q,⟨e,he,_⟩,_⟩;simp at he
 have jE:gI ([]:List (List PC)):=⟨by rintro k j q ⟨e,he,_⟩;simp at he,by rintro k j q k' j' q' b ⟨e,he,_⟩;simp at he⟩
 have H:=r.hr.insert (w':=w) (n:=c) (blk:=.row true m sz []) (p:=⟨true,0,0,0,[],none⟩) hn (fun _ _=>rfl) (Nat.le_refl _) (fun hf=>by cases hf) (fun cs y q hb=>by cases hb)
  (by
   refine⟨bA,rfl,fun _=>⟨rfl,fun _=>rfl⟩,(fun hf=>by cases hf),(fun hf=>by cases hf),?_⟩
   cases m with
   |aE=>exact fun b hb=>absurd hb (Ek b)
   |aa=>exact⟨fun b hb=>absurd hb (Ek b),jE⟩
   |live=>exact⟨fun b hb=>absurd hb (Ek b),jE⟩)
  (fun gr m' aK au hb hm n' bf mT jS gH h0 iu b bW=>absurd bW (Ek b)) (fun gr aK au hb b bW=>absurd bW (Ek b)) (fun gr m' aK au hb hm i pc b hi=>by simp at hi)
 refine⟨_,r.step rfl (fun q hq=>qj _ _ hq) (aV.insert r.hr hn (fun _ _=>rfl)) H r.fr,fun _=>?_⟩
 simp only[bw]
 exact Or.inl ⟨rfl,rfl,rfl,rfl⟩
end
end Go.Am
