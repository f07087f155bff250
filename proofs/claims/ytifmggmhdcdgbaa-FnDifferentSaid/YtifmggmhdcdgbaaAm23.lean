/- Am23: names are given anew. No condition. -/
import Derived.Test.YtifmggmhdcdgbaaAm22
set_option linter.unusedVariables false
namespace Go.Am
def back (x c n:Nat):Nat:=if n=c then x else n
theorem VQ {x c n:Nat} (hn:n≠c):back x c (nf x c n)=n:=by
 unfold back nf
 by_cases h:n=x
 ·subst h;simp
 ·simp[h,hn]
theorem ane {x c n:Nat} (hx:x≠c) (hn:n≠c):nf x c n≠x:=by
 unfold nf
 by_cases h:n=x
 ·simp[h];exact fun e=>hx e.symm
 ·simp[h]
structure nr (x c:Nat) (used:Nat->Bool) (h h':Nat->Option ar):Prop where
 ne:x≠c
 uc:used c=false
 gone:h' x=none
 b:∀n,n≠x->h' n=(h (back x c n)).map (·.aX x c)
section
variable {B:Nat} {E:Ex} {w0 w w':World} {G G':Gh} {N:Nat} {h h':Nat->Option ar} {used:Nat->Bool} {x c:Nat}
variable {P:Program} {T:bj} {a:Act} {σ σ':St} {Q:Exit->Act->World->Prop}
def sv (G:Gh) (x c:Nat):Gh:=⟨G.Im,fun n=>G.g (back x c n)⟩
theorem nr.at (L:nr x c used h h') {n:Nat} (hn:used n=true):h' (nf x c n)=(h n).map (·.aX x c):=by
 have hc:n≠c:=fun e=>by subst e;rw[L.uc] at hn;cases hn
 rw[L.b _ (ane L.ne hc),VQ hc]
theorem nr.Ip (L:nr x c used h h') {n:Nat} (hn:used n=true):(sv G x c).g (nf x c n)=G.g n:=by
 have hc:n≠c:=fun e=>by subst e;rw[L.uc] at hn;cases hn
 show G.g (back x c (nf x c n))=_
 rw[VQ hc]
theorem Qw {o:Option ar} (hn:o.map (·.aX x c)≠none):o≠none:=by
 cases o with
 |none=>exact absurd rfl hn
 |some b=>simp
theorem Qx {o:Option ar} {gr:Bool} {m:Mode} {sz:Nat} {xs:List (List C)} (hn:o.map (·.aX x c)=some (.row gr m sz xs)):o=some (.row gr m sz xs):=by
 cases o with
 |none=>cases hn
 |some b=>cases b with
  |box cs=>simp[ar.aX] at hn
  |row gr m sz xs=>exact hn
theorem aae {o:Option ar} {cs:List ai} (hn:o.map (·.aX x c)=some (.box cs)):∃gJ,o=some (.box gJ)/\cs=gJ.map (·.aX x c):=by
 cases o with
 |none=>cases hn
 |some b=>cases b with
  |box gJ=>
   simp only[Option.map_some,ar.aX] at hn
   injection hn with hn
   injection hn with hn
   exact⟨gJ,rfl,hn.symm⟩
  |row gr m sz xs=>simp[ar.aX] at hn
theorem ji.aX (L:nr x c used h h') {y:ai} {v:Value} (hr:∀m,y.ik m->used m=true) (hc:ji w G h y v):ji w (sv G x c) h' (y.oe x c) v:=by
 cases y with
 |ptr n k sz off=>
  intro hn
  rw[L.at (hr n rfl)] at hn
  rw[L.Ip (hr n rfl)]
  exact hc (Qw hn)
 |sl n sz lo len=>
  intro hn
  rw[L.at (hr n rfl)] at hn
  rw[L.Ip (hr n rfl)]
  exact hc (Qw hn)
 |bx n k az off sz len=>
  intro gr xs hn
  rw[L.at (hr n rfl)] at hn
  rw[L.Ip (hr n rfl)]
  exact hc gr xs (Qx hn)
 |cD n k az off sz i=>
  intro gr xs hn
  rw[L.at (hr n rfl)] at hn
  rw[L.Ip (hr n rfl)]
  exact hc gr xs (Qx hn)
 |c x=>exact hc
 |nil sz=>exact hc
 |ca xs off=>exact hc
 |fn f bW=>exact hc
 |bh=>exact hc
theorem RC.aX (L:nr x c used h h') {y:ai} {v:Value} (hr:∀m,y.ref m->used m=true) (hc:RC w G h y v):RC w (sv G x c) h' (y.aX x c) v:=by
 cases y with
 |fn f bW=>
  obtain⟨vs,h1,h2,h3⟩:=hc
  refine⟨vs,h1,by simpa using h2,fun j y u hj hu=>?_⟩
  rw[List.getElem?_map] at hj
  cases hc:bW[j]? with
  |none=>rw[hc] at hj;cases hj
  |some c0=>
   rw[hc] at hj
   simp at hj
   subst hj
   exact⟨(h3 j c0 u hc hu).1,(h3 j c0 u hc hu).2.aX L fun m hm=>hr m ⟨c0,List.mem_of_getElem? hc,hm⟩⟩
 |ptr n k sz off=>exact ji.aX (w:=w) (G:=G) L (y:=.ptr n k sz off) hr hc
 |sl n sz lo len=>exact ji.aX (w:=w) (G:=G) L (y:=.sl n sz lo len) hr hc
 |bx n k az off sz len=>exact ji.aX (w:=w) (G:=G) L (y:=.bx n k az off sz len) hr hc
 |cD n k az off sz i=>exact ji.aX (w:=w) (G:=G) L (y:=.cD n k az off sz i) hr hc
 |c x=>exact hc
 |nil sz=>exact hc
 |ca xs off=>exact hc
 |bh=>exact hc
theorem cA.aX (L:nr x c used h h') {cs:List ai} {vs:List Value} (hr:∀y∈cs,∀m,y.ref m->used m=true) (hc:cA w G h cs vs):cA w (sv G x c) h' (cs.map (·.aX x c)) vs:=by
 refine⟨by simpa using hc.1,fun j y u hj hu=>?_⟩
 rw[List.getElem?_map] at hj
 cases dY:cs[j]? with
 |none=>rw[dY] at hj;cases hj
 |some c0=>
  rw[dY] at hj
  simp at hj
  subst hj
  exact⟨(hc.2 j c0 u dY hu).1,(hc.2 j c0 u dY hu).2.aX L (hr c0 (List.mem_of_getElem? dY))⟩
theorem RV.aX (L:nr x c used h h') {ag:Bool} {cs:List ai} {v:Value} (hr:∀y∈cs,∀m,y.ref m->used m=true) (hc:RV w G h ag cs v):RV w (sv G x c) h' ag (cs.map (·.aX x c)) v:=by
 unfold RV at*
 split
 ·rename_i h1
  simp only[h1,if_true] at hc
  obtain⟨vs,e,hv⟩:=hc
  exact⟨vs,e,hv.aX L hr⟩
 ·rename_i h1
  simp only[h1] at hc
  exact cA.aX L hr hc
theorem RA.aX (L:nr x c used h h') {y:aj} {v:Value} (hr:∀m,y.ref m->used m=true) (hc:RA w G h y v):RA w (sv G x c) h' (y.aX x c) v:=by
 cases y with
 |one y=>
  rcases hc with rfl|hc
  ·exact Or.inl rfl
  ·exact Or.inr (RV.aX L (fun z hz m hm=>hr m (by simp at hz;subst hz;exact hm)) hc)
 |agg cs=>exact RV.aX L (fun z hz m hm=>hr m ⟨z,hz,hm⟩) hc
 |bn xs=>
  obtain⟨vs,e,hl,hv⟩:=hc
  refine⟨vs,e,by simpa using hl,fun j y u hj hu=>?_⟩
  rw[List.getElem?_map] at hj
  cases dY:xs[j]? with
  |none=>rw[dY] at hj;cases hj
  |some c0=>
   rw[dY] at hj
   simp at hj
   subst hj
   exact RV.aX L (fun z hz m hm=>hr m ⟨c0,List.mem_of_getElem? dY,z,hz,hm⟩) (hv j c0 u dY hu)
def xz (used:Nat->Bool) (x c:Nat):Nat->Bool:=fun n=>if n=c then used x else if n=x then false else used n
theorem ai.E5 (L:nr x c used h h') {y:ai} {m:Nat} (hr:∀m,y.ik m->used m=true) (hm:(y.oe x c).ik m):xz used x c m=true:=by
 have cr:∀n,used n=true->m=nf x c n->xz used x c m=true:=by
  intro n hn e
  subst e
  have hc:n≠c:=fun e=>by subst e;rw[L.uc] at hn;cases hn
  unfold xz nf
  by_cases h1:n=x
  ·subst h1;simp[hn]
  ·simp[h1,hc,hn]
 cases y<;>first|exact absurd hm id|exact cr _ (hr _ rfl) hm
theorem ai.Cd (L:nr x c used h h') {y:ai} {m:Nat} (hr:∀m,y.ref m->used m=true) (hm:(y.aX x c).ref m):xz used x c m=true:=by
 cases y with
 |fn f bW=>
  obtain⟨z,hz,hm⟩:=hm
  obtain⟨z0,uJ,rfl⟩:=List.mem_map.1 hz
  exact ai.E5 L (fun m hm=>hr m ⟨z0,uJ,hm⟩) hm
 |ptr n k sz off=>exact ai.E5 L (y:=.ptr n k sz off) hr hm
 |sl n sz lo len=>exact ai.E5 L (y:=.sl n sz lo len) hr hm
 |bx n k az off sz len=>exact ai.E5 L (y:=.bx n k az off sz len) hr hm
 |cD n k az off sz i=>exact ai.E5 L (y:=.cD n k az off sz i) hr hm
 |c x=>exact absurd hm id
 |nil sz=>exact absurd hm id
 |ca xs off=>exact absurd hm id
 |bh=>exact absurd hm id
theorem aj.Cd (L:nr x c used h h') {y:aj} {m:Nat} (hr:∀m,y.ref m->used m=true) (hm:(y.aX x c).ref m):xz used x c m=true:=by
 cases y with
 |one y=>exact ai.Cd L hr hm
 |agg cs=>
  obtain⟨z,hz,hm⟩:=hm
  obtain⟨z0,uJ,rfl⟩:=List.mem_map.1 hz
  exact ai.Cd L (fun m hm=>hr m ⟨z0,uJ,hm⟩) hm
 |bn xs=>
  obtain⟨p,hp,z,hz,hm⟩:=hm
  obtain⟨p0,hp0,rfl⟩:=List.mem_map.1 hp
  obtain⟨z0,uJ,rfl⟩:=List.mem_map.1 hz
  exact ai.Cd L (fun m hm=>hr m ⟨p0,hp0,z0,uJ,hm⟩) hm
theorem HR.aX (H:HR B E w G h used []) (L:nr x c used h h'):HR B E w (sv G x c) h' (xz used x c) []:=by
 have nx:∀n,h' n≠none->n≠x:=fun n hn e=>by subst e;exact hn L.gone
 have hb:∀n,h' n≠none->h (back x c n)≠none:=fun n hn=>by
  have:=L.b n (nx n hn)
  rw[this] at hn
  exact Qw hn
 have jK:∀{n gr m sz xs},h' n=some (.row gr m sz xs)->h (back x c n)=some (.row gr m sz xs):=by
  intro n gr m sz xs hn
  have:=L.b n (nx n (by rw[hn];simp))
  rw[this] at hn
  exact Qx hn
 have wm:∀n n',n≠x->n'≠x->n≠n'->back x c n≠back x c n':=by
  intro n n' h1 h2 h3
  unfold back
  by_cases e1:n=c
  ·by_cases e2:n'=c
   ·omega
   ·simp[e1,e2];omega
  ·by_cases e2:n'=c
   ·simp[e1,e2];omega
   ·simp[e1,e2];omega
 have wD:∀n,n≠x->used (back x c n)=true->xz used x c n=true:=by
  intro n h1 h2
  unfold xz
  unfold back at h2
  by_cases e1:n=c
  ·simp[e1] at h2⊢;exact h2
  ·simp[e1] at h2;simp[e1,h1,h2]
 refine⟨fun n hn=>wD n (nx n hn) (H.iS _ (hb n hn)),fun m cs y n hm hy hr=>?_,fun n cs hn=>?_,fun n gr m sz xs hn=>?_,fun n hn=>H.own _ (hb n hn),
  fun n n' hn bm ax=>H.inj _ _ (hb n hn) (hb n' bm) (wm n n' (nx n hn) (nx n' bm) ax),H.fI,H.oT,fun n n' gr m sz xs bk m' aK av hn bm hm bB ax=>H.fv _ _ gr m sz xs bk m' aK av (jK hn) (jK bm) hm bB
   (wm n n' (nx n (by rw[hn];simp)) (nx n' (by rw[bm];simp)) ax),fun n gr sz xs hn b aT n' bm=>H.live _ gr sz xs (jK hn) b aT _ (hb n' bm),?_,?_,?_⟩
 ·have DX:=nx m (by rw[hm];simp)
  rw[L.b m DX] at hm
  obtain⟨gJ,h0,rfl⟩:=aae hm
  obtain⟨y0,hy0,rfl⟩:=List.mem_map.1 hy
  exact ai.Cd L (fun q hq=>H.gy _ gJ y0 q h0 hy0 hq) hr
 ·have yJ:=nx n (by rw[hn];simp)
  rw[L.b n yJ] at hn
  obtain⟨gJ,h0,rfl⟩:=aae hn
  obtain⟨a1,a2,a3⟩:=H.box _ gJ h0
  refine⟨a1,a2,fun j y hj=>?_⟩
  rw[List.getElem?_map] at hj
  cases dY:gJ[j]? with
  |none=>rw[dY] at hj;cases hj
  |some y0=>
   rw[dY] at hj
   simp at hj
   subst hj
   obtain⟨v,b1,b2,b3⟩:=a3 j y0 dY
   exact⟨v,b1,b2,b3.aX L fun q hq=>H.gy _ gJ y0 q h0 (List.mem_of_getElem? dY) hq⟩
 ·have hr:=H.row _ gr m sz xs (jK hn)
  refine⟨hr.pos,hr.er,hr.nl,hr.dD,hr.room,?_⟩
  have hm:=hr.mode
  cases m<;>exact hm
 ·intro i pc hi;simp at hi
 ·intro i j pc c6 b _ hi;simp at hi
 ·intro i pc n gr m sz xs b hi;simp at hi
theorem R.aX (r:R B E w0 N σ a w G) (hx:σ.aX x c=some σ'):∃G',R B E w0 N σ' a w G':=by
 unfold St.aX at hx
 split at hx
 ·injection hx with hx;subst hx;exact⟨G,r⟩
 ·rename_i ax
  split at hx
  ·injection hx with hx;subst hx;exact⟨G,r⟩
  rename_i hxp
  split at hx
  ·cases hx
  ·rename_i hu
   injection hx with hx
   subst hx
   have wi:¬aH<=c:=fun hc=>by rw[r.zf c hc] at hu;exact hu rfl
   have Yy:¬aH<=x:=fun hc=>hxp (Nat.ble_eq_true_of_le hc)
   have IU:σ.used c=false:=by simpa using hu
   have L:nr x c σ.used σ.h (fun n=>if n=c then(σ.h x).map (·.aX x c) else if n=x then none else(σ.h n).map (·.aX x c)):=by
    refine⟨ax,IU,by simp[ax],fun n hn=>?_⟩
    unfold back
    by_cases h1:n=c
    ·simp[h1]
    ·simp[h1,hn]
   exact⟨sv G x c,r.defers,r.size,fun s=>(r.env s).aX L (fun m hm=>r.rR s m hm),fun s n hn=>aj.Cd L (fun m hm=>r.rR s m hm) hn,r.hr.aX L,r.fr,fun n p b hp hb=>by
    have hn:=E.lt n p hp
    have pO:n≠c:=fun e=>wi (e▸hn)
    have yJ:n≠x:=fun e=>Yy (e▸hn)
    have aT:(if n=c then(σ.h x).map (·.aX x c) else if n=x then none else(σ.h n).map (·.aX x c))=some b:=hb
    rw[if_neg pO,if_neg yJ] at aT
    have hg:(sv G x c).g n=G.g n:=by simp[sv,back,pO]
    rw[hg]
    cases h1:σ.h n with
    |none=>rw[h1] at aT;cases aT
    |some b0=>
     obtain⟨p1,p2,p3,p4,p6,p5⟩:=r.qv n p b0 hp h1
     refine⟨p1,p2,p3,p4,p6,fun gr sz xs DI=>?_⟩
     rw[h1,DI] at aT
     cases b0 with
     |box cs=>simp[ar.aX] at aT
     |row bk m' aK av=>
      simp only[ar.aX,Option.map_some,Option.some.injEq,ar.row.injEq] at aT
      obtain⟨_,rfl,_,_⟩:=aT
      exact p5 bk aK av rfl,fun n hn=>by
    have pO:n≠c:=fun e=>wi (e▸hn)
    have yJ:n≠x:=fun e=>Yy (e▸hn)
    show(if n=c then σ.used x else if n=x then false else σ.used n)=true
    rw[if_neg pO,if_neg yJ]
    exact r.zf n hn⟩
theorem R.Zc (r:R B E w0 N σ a w G) {m:Mode} {sz:Nat} (bD:0<sz) (hx:σ.ins c (.row true m sz [])=some σ'):
  ∃G',R B E w0 N σ' a w G'/\RC w G' σ'.h (.sl c sz 0 0) (.slice none 0 0):=by
 obtain⟨hn,rfl⟩:=mg hx
 have ES:∀b,¬aS b ([]:List (List PC)):=by rintro b ⟨k,j,q,⟨e,he,_⟩,_⟩;simp at he
 have j4:g7 ([]:List (List PC)):=⟨by rintro k j q ⟨e,he,_⟩;simp at he,by rintro k j q k' j' q' b ⟨e,he,_⟩;simp at he⟩
 have H:=r.hr.insert (w':=w) (n:=c) (blk:=.row true m sz []) (p:=⟨true,0,0,0,[],none⟩) hn (fun _ _=>rfl) (Nat.le_refl _) (fun hf=>by cases hf) (fun cs y q hb=>by cases hb)
  (by
   refine⟨bD,rfl,fun _=>⟨rfl,fun _=>rfl⟩,(fun hf=>by cases hf),(fun hf=>by cases hf),?_⟩
   cases m with
   |aA=>exact fun b hb=>absurd hb (ES b)
   |ab=>exact⟨fun b hb=>absurd hb (ES b),j4⟩
   |live=>exact⟨fun b hb=>absurd hb (ES b),j4⟩)
  (fun gr m' aK av hb hm n' bk nc kc g0 h0 iW b cg=>absurd cg (ES b)) (fun gr aK av hb b cg=>absurd cg (ES b)) (fun gr m' aK av hb hm i pc b hi=>by simp at hi)
 refine⟨_,r.step rfl (fun q hq=>qI _ _ hq) (aW.insert r.hr hn (fun _ _=>rfl)) H r.fr,fun _=>?_⟩
 simp only[bA]
 exact Or.inl ⟨rfl,rfl,rfl,rfl⟩
end
end Go.Am
