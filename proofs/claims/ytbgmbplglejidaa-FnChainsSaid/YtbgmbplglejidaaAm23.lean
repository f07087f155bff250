/- Am23: names are given anew. No condition. -/
import Derived.Test.YtbgmbplglejidaaAm22
set_option linter.unusedVariables false
namespace Go.Am
def back (x c n:Nat):Nat:=if n=c then x else n
theorem Wg {x c n:Nat} (hn:n≠c):back x c (nu x c n)=n:=by
 unfold back nu
 by_cases h:n=x
 ·subst h;simp
 ·simp[h,hn]
theorem anz {x c n:Nat} (hx:x≠c) (hn:n≠c):nu x c n≠x:=by
 unfold nu
 by_cases h:n=x
 ·simp[h];exact fun e=>hx e.symm
 ·simp[h]
structure nG (x c:Nat) (used:Nat->Bool) (h h':Nat->Option ao):Prop where
 ne:x≠c
 uc:used c=false
 gone:h' x=none
 b:∀n,n≠x->h' n=(h (back x c n)).map (·.be x c)
section
variable {B:Nat} {E:Ex} {w0 w w':World} {G G':Gh} {N:Nat} {h h':Nat->Option ao} {used:Nat->Bool} {x c:Nat}
variable {P:Program} {T:aO} {a:Act} {σ σ':St} {Q:Exit->Act->World->Prop}
def sD (G:Gh) (x c:Nat):Gh:=⟨G.Im,fun n=>G.g (back x c n)⟩
theorem nG.at (L:nG x c used h h') {n:Nat} (hn:used n=true):h' (nu x c n)=(h n).map (·.be x c):=by
 have hc:n≠c:=fun e=>by subst e;rw[L.uc] at hn;cases hn
 rw[L.b _ (anz L.ne hc),Wg hc]
theorem nG.Iv (L:nG x c used h h') {n:Nat} (hn:used n=true):(sD G x c).g (nu x c n)=G.g n:=by
 have hc:n≠c:=fun e=>by subst e;rw[L.uc] at hn;cases hn
 show G.g (back x c (nu x c n))=_
 rw[Wg hc]
theorem PS {o:Option ao} (hn:o.map (·.be x c)≠none):o≠none:=by
 cases o with
 |none=>exact absurd rfl hn
 |some b=>simp
theorem PT {o:Option ao} {gr:Bool} {m:Mode} {sz:Nat} {xs:List (List C)} (hn:o.map (·.be x c)=some (.row gr m sz xs)):o=some (.row gr m sz xs):=by
 cases o with
 |none=>cases hn
 |some b=>cases b with
  |box cs=>simp[ao.be] at hn
  |row gr m sz xs=>exact hn
theorem aah {o:Option ao} {cs:List ah} (hn:o.map (·.be x c)=some (.box cs)):∃gS,o=some (.box gS)/\cs=gS.map (·.be x c):=by
 cases o with
 |none=>cases hn
 |some b=>cases b with
  |box gS=>
   simp only[Option.map_some,ao.be] at hn
   injection hn with hn
   injection hn with hn
   exact⟨gS,rfl,hn.symm⟩
  |row gr m sz xs=>simp[ao.be] at hn
theorem jo.be (L:nG x c used h h') {y:ah} {v:Value} (hr:∀m,y.iD m->used m=true) (hc:jo w G h y v):jo w (sD G x c) h' (y.ot x c) v:=by
 cases y with
 |ptr n k sz off=>
  intro hn
  rw[L.at (hr n rfl)] at hn
  rw[L.Iv (hr n rfl)]
  exact hc (PS hn)
 |sl n sz lo len=>
  intro hn
  rw[L.at (hr n rfl)] at hn
  rw[L.Iv (hr n rfl)]
  exact hc (PS hn)
 |bz n k az off sz len=>
  intro gr xs hn
  rw[L.at (hr n rfl)] at hn
  rw[L.Iv (hr n rfl)]
  exact hc gr xs (PT hn)
 |cQ n k az off sz i=>
  intro gr xs hn
  rw[L.at (hr n rfl)] at hn
  rw[L.Iv (hr n rfl)]
  exact hc gr xs (PT hn)
 |c x=>exact hc
 |nil sz=>exact hc
 |cu xs off=>exact hc
 |fn f cr=>exact hc
 |bm=>exact hc
theorem RC.be (L:nG x c used h h') {y:ah} {v:Value} (hr:∀m,y.ref m->used m=true) (hc:RC w G h y v):RC w (sD G x c) h' (y.be x c) v:=by
 cases y with
 |fn f cr=>
  obtain⟨vs,h1,h2,h3⟩:=hc
  refine⟨vs,h1,by simpa using h2,fun j y u hj hu=>?_⟩
  rw[List.getElem?_map] at hj
  cases hc:cr[j]? with
  |none=>rw[hc] at hj;cases hj
  |some c0=>
   rw[hc] at hj
   simp at hj
   subst hj
   exact⟨(h3 j c0 u hc hu).1,(h3 j c0 u hc hu).2.be L fun m hm=>hr m ⟨c0,List.mem_of_getElem? hc,hm⟩⟩
 |ptr n k sz off=>exact jo.be (w:=w) (G:=G) L (y:=.ptr n k sz off) hr hc
 |sl n sz lo len=>exact jo.be (w:=w) (G:=G) L (y:=.sl n sz lo len) hr hc
 |bz n k az off sz len=>exact jo.be (w:=w) (G:=G) L (y:=.bz n k az off sz len) hr hc
 |cQ n k az off sz i=>exact jo.be (w:=w) (G:=G) L (y:=.cQ n k az off sz i) hr hc
 |c x=>exact hc
 |nil sz=>exact hc
 |cu xs off=>exact hc
 |bm=>exact hc
theorem cN.be (L:nG x c used h h') {cs:List ah} {vs:List Value} (hr:∀y∈cs,∀m,y.ref m->used m=true) (hc:cN w G h cs vs):cN w (sD G x c) h' (cs.map (·.be x c)) vs:=by
 refine⟨by simpa using hc.1,fun j y u hj hu=>?_⟩
 rw[List.getElem?_map] at hj
 cases eJ:cs[j]? with
 |none=>rw[eJ] at hj;cases hj
 |some c0=>
  rw[eJ] at hj
  simp at hj
  subst hj
  exact⟨(hc.2 j c0 u eJ hu).1,(hc.2 j c0 u eJ hu).2.be L (hr c0 (List.mem_of_getElem? eJ))⟩
theorem RV.be (L:nG x c used h h') {ag:Bool} {cs:List ah} {v:Value} (hr:∀y∈cs,∀m,y.ref m->used m=true) (hc:RV w G h ag cs v):RV w (sD G x c) h' ag (cs.map (·.be x c)) v:=by
 unfold RV at*
 split
 ·rename_i h1
  simp only[h1,if_true] at hc
  obtain⟨vs,e,hv⟩:=hc
  exact⟨vs,e,hv.be L hr⟩
 ·rename_i h1
  simp only[h1] at hc
  exact cN.be L hr hc
theorem RA.be (L:nG x c used h h') {y:aj} {v:Value} (hr:∀m,y.ref m->used m=true) (hc:RA w G h y v):RA w (sD G x c) h' (y.be x c) v:=by
 cases y with
 |one y=>
  rcases hc with rfl|hc
  ·exact Or.inl rfl
  ·exact Or.inr (RV.be L (fun z hz m hm=>hr m (by simp at hz;subst hz;exact hm)) hc)
 |agg cs=>exact RV.be L (fun z hz m hm=>hr m ⟨z,hz,hm⟩) hc
 |bn xs=>
  obtain⟨vs,e,hl,hv⟩:=hc
  refine⟨vs,e,by simpa using hl,fun j y u hj hu=>?_⟩
  rw[List.getElem?_map] at hj
  cases eJ:xs[j]? with
  |none=>rw[eJ] at hj;cases hj
  |some c0=>
   rw[eJ] at hj
   simp at hj
   subst hj
   exact RV.be L (fun z hz m hm=>hr m ⟨c0,List.mem_of_getElem? eJ,z,hz,hm⟩) (hv j c0 u eJ hu)
def xi (used:Nat->Bool) (x c:Nat):Nat->Bool:=fun n=>if n=c then used x else if n=x then false else used n
theorem ah.EM (L:nG x c used h h') {y:ah} {m:Nat} (hr:∀m,y.iD m->used m=true) (hm:(y.ot x c).iD m):xi used x c m=true:=by
 have cf:∀n,used n=true->m=nu x c n->xi used x c m=true:=by
  intro n hn e
  subst e
  have hc:n≠c:=fun e=>by subst e;rw[L.uc] at hn;cases hn
  unfold xi nu
  by_cases h1:n=x
  ·subst h1;simp[hn]
  ·simp[h1,hc,hn]
 cases y<;>first|exact absurd hm id|exact cf _ (hr _ rfl) hm
theorem ah.B1 (L:nG x c used h h') {y:ah} {m:Nat} (hr:∀m,y.ref m->used m=true) (hm:(y.be x c).ref m):xi used x c m=true:=by
 cases y with
 |fn f cr=>
  obtain⟨z,hz,hm⟩:=hm
  obtain⟨z0,uz,rfl⟩:=List.mem_map.1 hz
  exact ah.EM L (fun m hm=>hr m ⟨z0,uz,hm⟩) hm
 |ptr n k sz off=>exact ah.EM L (y:=.ptr n k sz off) hr hm
 |sl n sz lo len=>exact ah.EM L (y:=.sl n sz lo len) hr hm
 |bz n k az off sz len=>exact ah.EM L (y:=.bz n k az off sz len) hr hm
 |cQ n k az off sz i=>exact ah.EM L (y:=.cQ n k az off sz i) hr hm
 |c x=>exact absurd hm id
 |nil sz=>exact absurd hm id
 |cu xs off=>exact absurd hm id
 |bm=>exact absurd hm id
theorem aj.B1 (L:nG x c used h h') {y:aj} {m:Nat} (hr:∀m,y.ref m->used m=true) (hm:(y.be x c).ref m):xi used x c m=true:=by
 cases y with
 |one y=>exact ah.B1 L hr hm
 |agg cs=>
  obtain⟨z,hz,hm⟩:=hm
  obtain⟨z0,uz,rfl⟩:=List.mem_map.1 hz
  exact ah.B1 L (fun m hm=>hr m ⟨z0,uz,hm⟩) hm
 |bn xs=>
  obtain⟨p,hp,z,hz,hm⟩:=hm
  obtain⟨p0,hp0,rfl⟩:=List.mem_map.1 hp
  obtain⟨z0,uz,rfl⟩:=List.mem_map.1 hz
  exact ah.B1 L (fun m hm=>hr m ⟨p0,hp0,z0,uz,hm⟩) hm
theorem HR.be (H:HR B E w G h used []) (L:nG x c used h h'):HR B E w (sD G x c) h' (xi used x c) []:=by
 have nx:∀n,h' n≠none->n≠x:=fun n hn e=>by subst e;exact hn L.gone
 have hb:∀n,h' n≠none->h (back x c n)≠none:=fun n hn=>by
  have:=L.b n (nx n hn)
  rw[this] at hn
  exact PS hn
 have fc:∀{n gr m sz xs},h' n=some (.row gr m sz xs)->h (back x c n)=some (.row gr m sz xs):=by
  intro n gr m sz xs hn
  have:=L.b n (nx n (by rw[hn];simp))
  rw[this] at hn
  exact PT hn
 have vY:∀n n',n≠x->n'≠x->n≠n'->back x c n≠back x c n':=by
  intro n n' h1 h2 h3
  unfold back
  by_cases e1:n=c
  ·by_cases e2:n'=c
   ·omega
   ·simp[e1,e2];omega
  ·by_cases e2:n'=c
   ·simp[e1,e2];omega
   ·simp[e1,e2];omega
 have wi:∀n,n≠x->used (back x c n)=true->xi used x c n=true:=by
  intro n h1 h2
  unfold xi
  unfold back at h2
  by_cases e1:n=c
  ·simp[e1] at h2⊢;exact h2
  ·simp[e1] at h2;simp[e1,h1,h2]
 refine⟨fun n hn=>wi n (nx n hn) (H.iG _ (hb n hn)),fun m cs y n hm hy hr=>?_,fun n cs hn=>?_,fun n gr m sz xs hn=>?_,fun n hn=>H.own _ (hb n hn),
  fun n n' hn bj aB=>H.inj _ _ (hb n hn) (hb n' bj) (vY n n' (nx n hn) (nx n' bj) aB),H.fW,H.pf,fun n n' gr m sz xs bk m' aJ aq hn bj hm bJ aB=>H.fJ _ _ gr m sz xs bk m' aJ aq (fc hn) (fc bj) hm bJ
   (vY n n' (nx n (by rw[hn];simp)) (nx n' (by rw[bj];simp)) aB),fun n gr sz xs hn b aY n' bj=>H.live _ gr sz xs (fc hn) b aY _ (hb n' bj),?_,?_,?_⟩
 ·have OA:=nx m (by rw[hm];simp)
  rw[L.b m OA] at hm
  obtain⟨gS,h0,rfl⟩:=aah hm
  obtain⟨y0,hy0,rfl⟩:=List.mem_map.1 hy
  exact ah.B1 L (fun q hq=>H.gH _ gS y0 q h0 hy0 hq) hr
 ·have yr:=nx n (by rw[hn];simp)
  rw[L.b n yr] at hn
  obtain⟨gS,h0,rfl⟩:=aah hn
  obtain⟨a1,a2,a3⟩:=H.box _ gS h0
  refine⟨a1,a2,fun j y hj=>?_⟩
  rw[List.getElem?_map] at hj
  cases eJ:gS[j]? with
  |none=>rw[eJ] at hj;cases hj
  |some y0=>
   rw[eJ] at hj
   simp at hj
   subst hj
   obtain⟨v,b1,b2,b3⟩:=a3 j y0 eJ
   exact⟨v,b1,b2,b3.be L fun q hq=>H.gH _ gS y0 q h0 (List.mem_of_getElem? eJ) hq⟩
 ·have hr:=H.row _ gr m sz xs (fc hn)
  refine⟨hr.pos,hr.er,hr.nl,hr.dR,hr.room,?_⟩
  have hm:=hr.mode
  cases m<;>exact hm
 ·intro i pc hi;simp at hi
 ·intro i j pc dg b _ hi;simp at hi
 ·intro i pc n gr m sz xs b hi;simp at hi
theorem R.be (r:R B E w0 N σ a w G) (hx:σ.be x c=some σ'):∃G',R B E w0 N σ' a w G':=by
 unfold St.be at hx
 split at hx
 ·injection hx with hx;subst hx;exact⟨G,r⟩
 ·rename_i aB
  split at hx
  ·injection hx with hx;subst hx;exact⟨G,r⟩
  rename_i hxp
  split at hx
  ·cases hx
  ·rename_i hu
   injection hx with hx
   subst hx
   have AV:¬aK<=c:=fun hc=>by rw[r.y4 c hc] at hu;exact hu rfl
   have Zp:¬aK<=x:=fun hc=>hxp (Nat.ble_eq_true_of_le hc)
   have IZ:σ.used c=false:=by simpa using hu
   have L:nG x c σ.used σ.h (fun n=>if n=c then(σ.h x).map (·.be x c) else if n=x then none else(σ.h n).map (·.be x c)):=by
    refine⟨aB,IZ,by simp[aB],fun n hn=>?_⟩
    unfold back
    by_cases h1:n=c
    ·simp[h1]
    ·simp[h1,hn]
   exact⟨sD G x c,r.defers,r.size,fun s=>(r.env s).be L (fun m hm=>r.r7 s m hm),fun s n hn=>aj.B1 L (fun m hm=>r.r7 s m hm) hn,r.hr.be L,r.fr,fun n p b hp hb=>by
    have hn:=E.lt n p hp
    have uj:n≠c:=fun e=>AV (e▸hn)
    have yr:n≠x:=fun e=>Zp (e▸hn)
    have aY:(if n=c then(σ.h x).map (·.be x c) else if n=x then none else(σ.h n).map (·.be x c))=some b:=hb
    rw[if_neg uj,if_neg yr] at aY
    have hg:(sD G x c).g n=G.g n:=by simp[sD,back,uj]
    rw[hg]
    cases h1:σ.h n with
    |none=>rw[h1] at aY;cases aY
    |some b0=>
     obtain⟨p1,p2,p3,p4,p6,p5⟩:=r.qA n p b0 hp h1
     refine⟨p1,p2,p3,p4,p6,fun gr sz xs DI=>?_⟩
     rw[h1,DI] at aY
     cases b0 with
     |box cs=>simp[ao.be] at aY
     |row bk m' aJ aq=>
      simp only[ao.be,Option.map_some,Option.some.injEq,ao.row.injEq] at aY
      obtain⟨_,rfl,_,_⟩:=aY
      exact p5 bk aJ aq rfl,fun n hn=>by
    have uj:n≠c:=fun e=>AV (e▸hn)
    have yr:n≠x:=fun e=>Zp (e▸hn)
    show(if n=c then σ.used x else if n=x then false else σ.used n)=true
    rw[if_neg uj,if_neg yr]
    exact r.y4 n hn⟩
theorem R.ZC (r:R B E w0 N σ a w G) {m:Mode} {sz:Nat} (bD:0<sz) (hx:σ.ins c (.row true m sz [])=some σ'):
  ∃G',R B E w0 N σ' a w G'/\RC w G' σ'.h (.sl c sz 0 0) (.slice none 0 0):=by
 obtain⟨hn,rfl⟩:=lL hx
 have Ey:∀b,¬aV b ([]:List (List PC)):=by rintro b ⟨k,j,q,⟨e,he,_⟩,_⟩;simp at he
 have kc:ij ([]:List (List PC)):=⟨by rintro k j q ⟨e,he,_⟩;simp at he,by rintro k j q k' j' q' b ⟨e,he,_⟩;simp at he⟩
 have H:=r.hr.insert (w':=w) (n:=c) (blk:=.row true m sz []) (p:=⟨true,0,0,0,[],none⟩) hn (fun _ _=>rfl) (Nat.le_refl _) (fun hf=>by cases hf) (fun cs y q hb=>by cases hb)
  (by
   refine⟨bD,rfl,fun _=>⟨rfl,fun _=>rfl⟩,(fun hf=>by cases hf),(fun hf=>by cases hf),?_⟩
   cases m with
   |aD=>exact fun b hb=>absurd hb (Ey b)
   |ae=>exact⟨fun b hb=>absurd hb (Ey b),kc⟩
   |live=>exact⟨fun b hb=>absurd hb (Ey b),kc⟩)
  (fun gr m' aJ aq hb hm n' bk mS jZ ii h0 iZ b cF=>absurd cF (Ey b)) (fun gr aJ aq hb b cF=>absurd cF (Ey b)) (fun gr m' aJ aq hb hm i pc b hi=>by simp at hi)
 refine⟨_,r.step rfl (fun q hq=>qR _ _ hq) (bc.insert r.hr hn (fun _ _=>rfl)) H r.fr,fun _=>?_⟩
 simp only[bF]
 exact Or.inl ⟨rfl,rfl,rfl,rfl⟩
end
end Go.Am
