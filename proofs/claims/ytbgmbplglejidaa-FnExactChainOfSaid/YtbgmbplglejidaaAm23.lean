/- Am23: names are given anew. No condition. -/
import Derived.Test.YtbgmbplglejidaaAm22
set_option linter.unusedVariables false
namespace Go.Am
def back (x c n:Nat):Nat:=if n=c then x else n
theorem Xg {x c n:Nat} (hn:n≠c):back x c (nu x c n)=n:=by
 unfold back nu
 by_cases h:n=x
 ·subst h;simp
 ·simp[h,hn]
theorem ao0 {x c n:Nat} (hx:x≠c) (hn:n≠c):nu x c n≠x:=by
 unfold nu
 by_cases h:n=x
 ·simp[h];exact fun e=>hx e.symm
 ·simp[h]
structure nH (x c:Nat) (used:Nat->Bool) (h h':Nat->Option aq):Prop where
 ne:x≠c
 uc:used c=false
 gone:h' x=none
 b:∀n,n≠x->h' n=(h (back x c n)).map (·.ba x c)
section
variable {B:Nat} {E:Ex} {w0 w w':World} {G G':Gh} {N:Nat} {h h':Nat->Option aq} {used:Nat->Bool} {x c:Nat}
variable {P:Program} {T:aS} {a:Act} {σ σ':St} {Q:Exit->Act->World->Prop}
def sM (G:Gh) (x c:Nat):Gh:=⟨G.Im,fun n=>G.g (back x c n)⟩
theorem nH.at (L:nH x c used h h') {n:Nat} (hn:used n=true):h' (nu x c n)=(h n).map (·.ba x c):=by
 have hc:n≠c:=fun e=>by subst e;rw[L.uc] at hn;cases hn
 rw[L.b _ (ao0 L.ne hc),Xg hc]
theorem nH.IC (L:nH x c used h h') {n:Nat} (hn:used n=true):(sM G x c).g (nu x c n)=G.g n:=by
 have hc:n≠c:=fun e=>by subst e;rw[L.uc] at hn;cases hn
 show G.g (back x c (nu x c n))=_
 rw[Xg hc]
theorem Qx {o:Option aq} (hn:o.map (·.ba x c)≠none):o≠none:=by
 cases o with
 |none=>exact absurd rfl hn
 |some b=>simp
theorem Qy {o:Option aq} {gr:Bool} {m:Mode} {sz:Nat} {xs:List (List C)} (hn:o.map (·.ba x c)=some (.row gr m sz xs)):o=some (.row gr m sz xs):=by
 cases o with
 |none=>cases hn
 |some b=>cases b with
  |box cs=>simp[aq.ba] at hn
  |row gr m sz xs=>exact hn
theorem aa2 {o:Option aq} {cs:List ah} (hn:o.map (·.ba x c)=some (.box cs)):∃gV,o=some (.box gV)/\cs=gV.map (·.ba x c):=by
 cases o with
 |none=>cases hn
 |some b=>cases b with
  |box gV=>
   simp only[Option.map_some,aq.ba] at hn
   injection hn with hn
   injection hn with hn
   exact⟨gV,rfl,hn.symm⟩
  |row gr m sz xs=>simp[aq.ba] at hn
theorem je.ba (L:nH x c used h h') {y:ah} {v:Value} (hr:∀m,y.iu m->used m=true) (hc:je w G h y v):je w (sM G x c) h' (y.ot x c) v:=by
 cases y with
 |ptr n k sz off=>
  intro hn
  rw[L.at (hr n rfl)] at hn
  rw[L.IC (hr n rfl)]
  exact hc (Qx hn)
 |sl n sz lo len=>
  intro hn
  rw[L.at (hr n rfl)] at hn
  rw[L.IC (hr n rfl)]
  exact hc (Qx hn)
 |bx n k aD off sz len=>
  intro gr xs hn
  rw[L.at (hr n rfl)] at hn
  rw[L.IC (hr n rfl)]
  exact hc gr xs (Qy hn)
 |cN n k aD off sz i=>
  intro gr xs hn
  rw[L.at (hr n rfl)] at hn
  rw[L.IC (hr n rfl)]
  exact hc gr xs (Qy hn)
 |c x=>exact hc
 |nil sz=>exact hc
 |cj xs off=>exact hc
 |fn f cf=>exact hc
 |bn=>exact hc
theorem RC.ba (L:nH x c used h h') {y:ah} {v:Value} (hr:∀m,y.ref m->used m=true) (hc:RC w G h y v):RC w (sM G x c) h' (y.ba x c) v:=by
 cases y with
 |fn f cf=>
  obtain⟨vs,h1,h2,h3⟩:=hc
  refine⟨vs,h1,by simpa using h2,fun j y u hj hu=>?_⟩
  rw[List.getElem?_map] at hj
  cases hc:cf[j]? with
  |none=>rw[hc] at hj;cases hj
  |some c0=>
   rw[hc] at hj
   simp at hj
   subst hj
   exact⟨(h3 j c0 u hc hu).1,(h3 j c0 u hc hu).2.ba L fun m hm=>hr m ⟨c0,List.mem_of_getElem? hc,hm⟩⟩
 |ptr n k sz off=>exact je.ba (w:=w) (G:=G) L (y:=.ptr n k sz off) hr hc
 |sl n sz lo len=>exact je.ba (w:=w) (G:=G) L (y:=.sl n sz lo len) hr hc
 |bx n k aD off sz len=>exact je.ba (w:=w) (G:=G) L (y:=.bx n k aD off sz len) hr hc
 |cN n k aD off sz i=>exact je.ba (w:=w) (G:=G) L (y:=.cN n k aD off sz i) hr hc
 |c x=>exact hc
 |nil sz=>exact hc
 |cj xs off=>exact hc
 |bn=>exact hc
theorem cJ.ba (L:nH x c used h h') {cs:List ah} {vs:List Value} (hr:∀y∈cs,∀m,y.ref m->used m=true) (hc:cJ w G h cs vs):cJ w (sM G x c) h' (cs.map (·.ba x c)) vs:=by
 refine⟨by simpa using hc.1,fun j y u hj hu=>?_⟩
 rw[List.getElem?_map] at hj
 cases eD:cs[j]? with
 |none=>rw[eD] at hj;cases hj
 |some c0=>
  rw[eD] at hj
  simp at hj
  subst hj
  exact⟨(hc.2 j c0 u eD hu).1,(hc.2 j c0 u eD hu).2.ba L (hr c0 (List.mem_of_getElem? eD))⟩
theorem RV.ba (L:nH x c used h h') {ag:Bool} {cs:List ah} {v:Value} (hr:∀y∈cs,∀m,y.ref m->used m=true) (hc:RV w G h ag cs v):RV w (sM G x c) h' ag (cs.map (·.ba x c)) v:=by
 unfold RV at*
 split
 ·rename_i h1
  simp only[h1,if_true] at hc
  obtain⟨vs,e,hv⟩:=hc
  exact⟨vs,e,hv.ba L hr⟩
 ·rename_i h1
  simp only[h1] at hc
  exact cJ.ba L hr hc
theorem RA.ba (L:nH x c used h h') {y:aj} {v:Value} (hr:∀m,y.ref m->used m=true) (hc:RA w G h y v):RA w (sM G x c) h' (y.ba x c) v:=by
 cases y with
 |one y=>
  rcases hc with rfl|hc
  ·exact Or.inl rfl
  ·exact Or.inr (RV.ba L (fun z hz m hm=>hr m (by simp at hz;subst hz;exact hm)) hc)
 |agg cs=>exact RV.ba L (fun z hz m hm=>hr m ⟨z,hz,hm⟩) hc
 |bo xs=>
  obtain⟨vs,e,hl,hv⟩:=hc
  refine⟨vs,e,by simpa using hl,fun j y u hj hu=>?_⟩
  rw[List.getElem?_map] at hj
  cases eD:xs[j]? with
  |none=>rw[eD] at hj;cases hj
  |some c0=>
   rw[eD] at hj
   simp at hj
   subst hj
   exact RV.ba L (fun z hz m hm=>hr m ⟨c0,List.mem_of_getElem? eD,z,hz,hm⟩) (hv j c0 u eD hu)
def xw (used:Nat->Bool) (x c:Nat):Nat->Bool:=fun n=>if n=c then used x else if n=x then false else used n
theorem ah.ES (L:nH x c used h h') {y:ah} {m:Nat} (hr:∀m,y.iu m->used m=true) (hm:(y.ot x c).iu m):xw used x c m=true:=by
 have cV:∀n,used n=true->m=nu x c n->xw used x c m=true:=by
  intro n hn e
  subst e
  have hc:n≠c:=fun e=>by subst e;rw[L.uc] at hn;cases hn
  unfold xw nu
  by_cases h1:n=x
  ·subst h1;simp[hn]
  ·simp[h1,hc,hn]
 cases y<;>first|exact absurd hm id|exact cV _ (hr _ rfl) hm
theorem ah.B3 (L:nH x c used h h') {y:ah} {m:Nat} (hr:∀m,y.ref m->used m=true) (hm:(y.ba x c).ref m):xw used x c m=true:=by
 cases y with
 |fn f cf=>
  obtain⟨z,hz,hm⟩:=hm
  obtain⟨z0,uI,rfl⟩:=List.mem_map.1 hz
  exact ah.ES L (fun m hm=>hr m ⟨z0,uI,hm⟩) hm
 |ptr n k sz off=>exact ah.ES L (y:=.ptr n k sz off) hr hm
 |sl n sz lo len=>exact ah.ES L (y:=.sl n sz lo len) hr hm
 |bx n k aD off sz len=>exact ah.ES L (y:=.bx n k aD off sz len) hr hm
 |cN n k aD off sz i=>exact ah.ES L (y:=.cN n k aD off sz i) hr hm
 |c x=>exact absurd hm id
 |nil sz=>exact absurd hm id
 |cj xs off=>exact absurd hm id
 |bn=>exact absurd hm id
theorem aj.B3 (L:nH x c used h h') {y:aj} {m:Nat} (hr:∀m,y.ref m->used m=true) (hm:(y.ba x c).ref m):xw used x c m=true:=by
 cases y with
 |one y=>exact ah.B3 L hr hm
 |agg cs=>
  obtain⟨z,hz,hm⟩:=hm
  obtain⟨z0,uI,rfl⟩:=List.mem_map.1 hz
  exact ah.B3 L (fun m hm=>hr m ⟨z0,uI,hm⟩) hm
 |bo xs=>
  obtain⟨p,hp,z,hz,hm⟩:=hm
  obtain⟨p0,hp0,rfl⟩:=List.mem_map.1 hp
  obtain⟨z0,uI,rfl⟩:=List.mem_map.1 hz
  exact ah.B3 L (fun m hm=>hr m ⟨p0,hp0,z0,uI,hm⟩) hm
theorem HR.ba (H:HR B E w G h used []) (L:nH x c used h h'):HR B E w (sM G x c) h' (xw used x c) []:=by
 have nx:∀n,h' n≠none->n≠x:=fun n hn e=>by subst e;exact hn L.gone
 have hb:∀n,h' n≠none->h (back x c n)≠none:=fun n hn=>by
  have:=L.b n (nx n hn)
  rw[this] at hn
  exact Qx hn
 have eS:∀{n gr m sz xs},h' n=some (.row gr m sz xs)->h (back x c n)=some (.row gr m sz xs):=by
  intro n gr m sz xs hn
  have:=L.b n (nx n (by rw[hn];simp))
  rw[this] at hn
  exact Qy hn
 have v9:∀n n',n≠x->n'≠x->n≠n'->back x c n≠back x c n':=by
  intro n n' h1 h2 h3
  unfold back
  by_cases e1:n=c
  ·by_cases e2:n'=c
   ·omega
   ·simp[e1,e2];omega
  ·by_cases e2:n'=c
   ·simp[e1,e2];omega
   ·simp[e1,e2];omega
 have wv:∀n,n≠x->used (back x c n)=true->xw used x c n=true:=by
  intro n h1 h2
  unfold xw
  unfold back at h2
  by_cases e1:n=c
  ·simp[e1] at h2⊢;exact h2
  ·simp[e1] at h2;simp[e1,h1,h2]
 refine⟨fun n hn=>wv n (nx n hn) (H.iA _ (hb n hn)),fun m cs y n hm hy hr=>?_,fun n cs hn=>?_,fun n gr m sz xs hn=>?_,fun n hn=>H.own _ (hb n hn),
  fun n n' hn bk aE=>H.inj _ _ (hb n hn) (hb n' bk) (v9 n n' (nx n hn) (nx n' bk) aE),H.fL,H.oY,fun n n' gr m sz xs bj m' aL ar hn bk hm bI aE=>H.fA _ _ gr m sz xs bj m' aL ar (eS hn) (eS bk) hm bI
   (v9 n n' (nx n (by rw[hn];simp)) (nx n' (by rw[bk];simp)) aE),fun n gr sz xs hn b aW n' bk=>H.live _ gr sz xs (eS hn) b aW _ (hb n' bk),?_,?_,?_⟩
 ·have Ph:=nx m (by rw[hm];simp)
  rw[L.b m Ph] at hm
  obtain⟨gV,h0,rfl⟩:=aa2 hm
  obtain⟨y0,hy0,rfl⟩:=List.mem_map.1 hy
  exact ah.B3 L (fun q hq=>H.gC _ gV y0 q h0 hy0 hq) hr
 ·have yA:=nx n (by rw[hn];simp)
  rw[L.b n yA] at hn
  obtain⟨gV,h0,rfl⟩:=aa2 hn
  obtain⟨a1,a2,a3⟩:=H.box _ gV h0
  refine⟨a1,a2,fun j y hj=>?_⟩
  rw[List.getElem?_map] at hj
  cases eD:gV[j]? with
  |none=>rw[eD] at hj;cases hj
  |some y0=>
   rw[eD] at hj
   simp at hj
   subst hj
   obtain⟨v,b1,b2,b3⟩:=a3 j y0 eD
   exact⟨v,b1,b2,b3.ba L fun q hq=>H.gC _ gV y0 q h0 (List.mem_of_getElem? eD) hq⟩
 ·have hr:=H.row _ gr m sz xs (eS hn)
  refine⟨hr.pos,hr.er,hr.nl,hr.dT,hr.room,?_⟩
  have hm:=hr.mode
  cases m<;>exact hm
 ·intro i pc hi;simp at hi
 ·intro i j pc di b _ hi;simp at hi
 ·intro i pc n gr m sz xs b hi;simp at hi
theorem R.ba (r:R B E w0 N σ a w G) (hx:σ.ba x c=some σ'):∃G',R B E w0 N σ' a w G':=by
 unfold St.ba at hx
 split at hx
 ·injection hx with hx;subst hx;exact⟨G,r⟩
 ·rename_i aE
  split at hx
  ·injection hx with hx;subst hx;exact⟨G,r⟩
  rename_i hxp
  split at hx
  ·cases hx
  ·rename_i hu
   injection hx with hx
   subst hx
   have AV:¬aM<=c:=fun hc=>by rw[r.ze c hc] at hu;exact hu rfl
   have aad:¬aM<=x:=fun hc=>hxp (Nat.ble_eq_true_of_le hc)
   have Ja:σ.used c=false:=by simpa using hu
   have L:nH x c σ.used σ.h (fun n=>if n=c then(σ.h x).map (·.ba x c) else if n=x then none else(σ.h n).map (·.ba x c)):=by
    refine⟨aE,Ja,by simp[aE],fun n hn=>?_⟩
    unfold back
    by_cases h1:n=c
    ·simp[h1]
    ·simp[h1,hn]
   exact⟨sM G x c,r.defers,r.size,fun s=>(r.env s).ba L (fun m hm=>r.r7 s m hm),fun s n hn=>aj.B3 L (fun m hm=>r.r7 s m hm) hn,r.hr.ba L,r.fr,fun n p b hp hb=>by
    have hn:=E.lt n p hp
    have qd:n≠c:=fun e=>AV (e▸hn)
    have yA:n≠x:=fun e=>aad (e▸hn)
    have aW:(if n=c then(σ.h x).map (·.ba x c) else if n=x then none else(σ.h n).map (·.ba x c))=some b:=hb
    rw[if_neg qd,if_neg yA] at aW
    have hg:(sM G x c).g n=G.g n:=by simp[sM,back,qd]
    rw[hg]
    cases h1:σ.h n with
    |none=>rw[h1] at aW;cases aW
    |some b0=>
     obtain⟨p1,p2,p3,p4,p6,p5⟩:=r.qD n p b0 hp h1
     refine⟨p1,p2,p3,p4,p6,fun gr sz xs DH=>?_⟩
     rw[h1,DH] at aW
     cases b0 with
     |box cs=>simp[aq.ba] at aW
     |row bj m' aL ar=>
      simp only[aq.ba,Option.map_some,Option.some.injEq,aq.row.injEq] at aW
      obtain⟨_,rfl,_,_⟩:=aW
      exact p5 bj aL ar rfl,fun n hn=>by
    have qd:n≠c:=fun e=>AV (e▸hn)
    have yA:n≠x:=fun e=>aad (e▸hn)
    show(if n=c then σ.used x else if n=x then false else σ.used n)=true
    rw[if_neg qd,if_neg yA]
    exact r.ze n hn⟩
theorem R.aaq (r:R B E w0 N σ a w G) {m:Mode} {sz:Nat} (bF:0<sz) (hx:σ.ins c (.row true m sz [])=some σ'):
  ∃G',R B E w0 N σ' a w G'/\RC w G' σ'.h (.sl c sz 0 0) (.slice none 0 0):=by
 obtain⟨hn,rfl⟩:=lP hx
 have EF:∀b,¬aX b ([]:List (List PC)):=by rintro b ⟨k,j,q,⟨e,he,_⟩,_⟩;simp at he
 have kf:ig ([]:List (List PC)):=⟨by rintro k j q ⟨e,he,_⟩;simp at he,by rintro k j q k' j' q' b ⟨e,he,_⟩;simp at he⟩
 have H:=r.hr.insert (w':=w) (n:=c) (blk:=.row true m sz []) (p:=⟨true,0,0,0,[],none⟩) hn (fun _ _=>rfl) (Nat.le_refl _) (fun hf=>by cases hf) (fun cs y q hb=>by cases hb)
  (by
   refine⟨bF,rfl,fun _=>⟨rfl,fun _=>rfl⟩,(fun hf=>by cases hf),(fun hf=>by cases hf),?_⟩
   cases m with
   |aO=>exact fun b hb=>absurd hb (EF b)
   |ab=>exact⟨fun b hb=>absurd hb (EF b),kf⟩
   |live=>exact⟨fun b hb=>absurd hb (EF b),kf⟩)
  (fun gr m' aL ar hb hm n' bj mR jZ ic h0 iV b cB=>absurd cB (EF b)) (fun gr aL ar hb b cB=>absurd cB (EF b)) (fun gr m' aL ar hb hm i pc b hi=>by simp at hi)
 refine⟨_,r.step rfl (fun q hq=>qT _ _ hq) (aZ.insert r.hr hn (fun _ _=>rfl)) H r.fr,fun _=>?_⟩
 simp only[bE]
 exact Or.inl ⟨rfl,rfl,rfl,rfl⟩
end
end Go.Am
