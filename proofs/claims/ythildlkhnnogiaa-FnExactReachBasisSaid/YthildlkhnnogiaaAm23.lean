/- Am22, Am23: parts of the proof. No condition. -/
import Derived.Test.YthildlkhnnogiaaAm21
set_option linter.unusedVariables false
section
namespace Go.Am
theorem Rv (ok:Nat->Bool) (env:Nat->ah):∀(ss:List Nat) (n:Nat),vY ok env ss n=if n∈ss then(env n).cE ok else .one .aX
 |[],n=>by simp[vY,wU]
 |s::ss,n=>by
  simp only[vY,iU,Rv ok env ss,List.mem_cons]
  by_cases h:n=s
  ·subst h;simp
  ·simp[h]
theorem Kd (ok:Nat->Bool) (h:Nat->Option aj):∀(ss:List Nat) (n:Nat),rf ok h ss n=if n∈ss/\ok n=true then(h n).map (·.cE ok) else none
 |[],n=>by simp[rf,Bv]
 |s::ss,n=>by
  have ih:=Kd ok h ss n
  simp only[rf,List.mem_cons]
  by_cases hn:n=s
  ·subst hn
   by_cases hk:ok n=true
   ·rw[if_pos hk]
    cases hh:h n with
    |some b=>simp[bo,hk]
    |none=>simp only[ih,hh];simp
   ·rw[if_neg hk,ih];simp[hk]
  ·by_cases hk:ok s=true
   ·rw[if_pos hk]
    cases hh:h s with
    |some b=>simp only[bP _ _ _ _ hn,ih];simp[hn]
    |none=>simp only[ih];simp[hn]
   ·rw[if_neg hk,ih];simp[hn]
theorem Z7 (ok:Nat->Bool):∀(ss:List Nat) (n:Nat),vZ ok ss n=(decide (n∈ss)&&ok n)
 |[],n=>by simp[vZ,Wi]
 |s::ss,n=>by
  have ih:=Z7 ok ss n
  simp only[vZ]
  by_cases hn:n=s
  ·subst hn
   by_cases hk:ok n=true
   ·rw[if_pos hk];simp[bo,hk]
   ·rw[if_neg hk,ih];simp[hk]
  ·by_cases hk:ok s=true
   ·rw[if_pos hk,bP _ _ _ _ hn,ih];simp[hn]
   ·rw[if_neg hk,ih];simp[hn]
theorem ab.acE {ok:Nat->Bool} {c:ab} {m:Nat} (h:(c.eA ok).fL m):ok m=true:=by
 cases c<;>simp only[ab.eA] at h<;>first|exact h.elim|skip
 all_goals
  split at h
  ·rename_i hk
   have h':=h
   simp only[ab.fL] at h'
   subst h'
   exact hk
  ·exact h.elim
theorem ab.Bm {ok:Nat->Bool} {c:ab} {m:Nat} (h:(c.cE ok).ref m):ok m=true:=by
 cases c with
 |fn f bI=>
  obtain⟨x,hx,h⟩:=h
  obtain⟨y,hy,rfl⟩:=List.mem_map.1 hx
  exact ab.acE h
 |c x=>exact h.elim
 |nil sz=>exact h.elim
 |cd xs off=>exact h.elim
 |aX=>exact h.elim
 |ptr n k sz off=>
  simp only[ab.cE,ab.eA] at h
  split at h
  ·rename_i hk;have h':m=n:=h;subst h';exact hk
  ·exact h.elim
 |sl n sz lo len=>
  simp only[ab.cE,ab.eA] at h
  split at h
  ·rename_i hk;have h':m=n:=h;subst h';exact hk
  ·exact h.elim
 |bf n k au off sz len=>
  simp only[ab.cE,ab.eA] at h
  split at h
  ·rename_i hk;have h':m=n:=h;subst h';exact hk
  ·exact h.elim
 |bX n k au off sz i=>
  simp only[ab.cE,ab.eA] at h
  split at h
  ·rename_i hk;have h':m=n:=h;subst h';exact hk
  ·exact h.elim
 |bK xs off j n sz len=>
  simp only[ab.cE,ab.eA] at h
  split at h
  ·rename_i hk;have h':m=n:=h;subst h';exact hk
  ·exact h.elim
section
variable {B:Nat} {E:Ex} {w0 w w':World} {G G':Gh} {N:Nat} {h h':Nat->Option aj} {ok:Nat->Bool}
variable {P:Program} {T:aF} {a:Act} {σ σ':St} {Q:Exit->Act->World->Prop}
structure oS (ok:Nat->Bool) (h h':Nat->Option aj):Prop where
 le:∀n,ok n=true->h' n=(h n).map (·.cE ok)\/h' n=none
 no:∀n,ok n=false->h' n=none
theorem oS.ne (L:oS ok h h') {n:Nat} (hn:h' n≠none):ok n=true/\h n≠none:=by
 cases hk:ok n with
 |false=>exact absurd (L.no n hk) hn
 |true=>
  refine⟨rfl,fun e=>?_⟩
  rcases L.le n hk with h1|h1
  ·rw[e] at h1;exact hn h1
  ·exact hn h1
theorem oS.row (L:oS ok h h') {n:Nat} {gr:Bool} {m:Mode} {sz:Nat} {xs:List (List C)} (hn:h' n=some (.row gr m sz xs)):h n=some (.row gr m sz xs):=by
 obtain⟨hk,h0⟩:=L.ne (n:=n) (by rw[hn];simp)
 rcases L.le n hk with h1|h1
 ·rw[h1] at hn
  cases hh:h n with
  |none=>exact absurd hh h0
  |some b=>cases b with
   |box cs=>rw[hh] at hn;simp[aj.cE] at hn
   |row gr m sz xs=>rw[hh] at hn;simp only[Option.map_some,aj.cE] at hn;exact hn
 ·rw[h1] at hn;cases hn
theorem oS.box (L:oS ok h h') {n:Nat} {cs:List ab} (hn:h' n=some (.box cs)):∃eO,h n=some (.box eO)/\cs=eO.map (·.cE ok):=by
 obtain⟨hk,h0⟩:=L.ne (n:=n) (by rw[hn];simp)
 rcases L.le n hk with h1|h1
 ·rw[h1] at hn
  cases hh:h n with
  |none=>exact absurd hh h0
  |some b=>cases b with
   |box eO=>
    rw[hh] at hn
    simp only[Option.map_some,aj.cE] at hn
    injection hn with hn
    injection hn with hn
    exact⟨eO,rfl,hn.symm⟩
   |row gr m sz xs=>rw[hh] at hn;simp[aj.cE] at hn
 ·rw[h1] at hn;cases hn
theorem fV.less (L:oS ok h h') {c:ab} {v:Value} (hc:fV w G h c v):fV w G h' (c.eA ok) v:=by
 cases c with
 |ptr n k sz off=>
  simp only[ab.eA]
  split
  ·exact fun hn=>hc (L.ne hn).2
  ·trivial
 |sl n sz lo len=>
  simp only[ab.eA]
  split
  ·exact fun hn=>hc (L.ne hn).2
  ·trivial
 |bf n k au off sz len=>
  simp only[ab.eA]
  split
  ·exact fun gr xs hn=>hc gr xs (L.row hn)
  ·trivial
 |bX n k au off sz i=>
  simp only[ab.eA]
  split
  ·exact fun gr xs hn=>hc gr xs (L.row hn)
  ·trivial
 |bK xs off j n sz len=>
  simp only[ab.eA]
  split
  ·obtain⟨b,o,pe,h1,h2,h3,h4,h5⟩:=hc
   obtain⟨u,u1,u2,u3⟩:=h5
   exact⟨b,o,pe,h1,h2,h3,h4,u,u1,u2,fun hn=>u3 (L.ne hn).2⟩
  ·trivial
 |c x=>exact hc
 |nil sz=>exact hc
 |cd xs off=>exact hc
 |fn f bI=>exact hc
 |aX=>exact hc
theorem RC.less (L:oS ok h h') {c:ab} {v:Value} (hc:RC w G h c v):RC w G h' (c.cE ok) v:=by
 cases c with
 |fn f bI=>
  obtain⟨vs,h1,h2,h3⟩:=hc
  refine⟨vs,h1,by simpa using h2,fun j c u hj hu=>?_⟩
  rw[List.getElem?_map] at hj
  cases hc:bI[j]? with
  |none=>rw[hc] at hj;cases hj
  |some c0=>
   rw[hc] at hj
   simp at hj
   subst hj
   exact⟨(h3 j c0 u hc hu).1,(h3 j c0 u hc hu).2.less L⟩
 |ptr n k sz off=>
  have:=fV.less (w:=w) (G:=G) L (c:=.ptr n k sz off) hc
  simp only[ab.cE]
  rw[qh]
  ·exact this
  ·simp only[ab.eA];split<;>rfl
 |sl n sz lo len=>
  have:=fV.less (w:=w) (G:=G) L (c:=.sl n sz lo len) hc
  simp only[ab.cE]
  rw[qh]
  ·exact this
  ·simp only[ab.eA];split<;>rfl
 |bf n k au off sz len=>
  have:=fV.less (w:=w) (G:=G) L (c:=.bf n k au off sz len) hc
  simp only[ab.cE]
  rw[qh]
  ·exact this
  ·simp only[ab.eA];split<;>rfl
 |bX n k au off sz i=>
  have:=fV.less (w:=w) (G:=G) L (c:=.bX n k au off sz i) hc
  simp only[ab.cE]
  rw[qh]
  ·exact this
  ·simp only[ab.eA];split<;>rfl
 |bK xs off j n sz len=>
  have:=fV.less (w:=w) (G:=G) L (c:=.bK xs off j n sz len) hc
  simp only[ab.cE]
  rw[qh]
  ·exact this
  ·simp only[ab.eA];split<;>rfl
 |c x=>exact hc
 |nil sz=>exact hc
 |cd xs off=>exact hc
 |aX=>exact hc
theorem cb.less (L:oS ok h h') {cs:List ab} {vs:List Value} (hc:cb w G h cs vs):cb w G h' (cs.map (·.cE ok)) vs:=by
 refine⟨by simpa using hc.1,fun j c u hj hu=>?_⟩
 rw[List.getElem?_map] at hj
 cases cA:cs[j]? with
 |none=>rw[cA] at hj;cases hj
 |some c0=>
  rw[cA] at hj
  simp at hj
  subst hj
  exact⟨(hc.2 j c0 u cA hu).1,(hc.2 j c0 u cA hu).2.less L⟩
theorem RV.less (L:oS ok h h') {ag:Bool} {cs:List ab} {v:Value} (hc:RV w G h ag cs v):RV w G h' ag (cs.map (·.cE ok)) v:=by
 unfold RV at*
 split
 ·rename_i h1
  simp only[h1,if_true] at hc
  obtain⟨vs,e,hv⟩:=hc
  exact⟨vs,e,hv.less L⟩
 ·rename_i h1
  simp only[h1] at hc
  exact cb.less L hc
theorem RA.less (L:oS ok h h') {x:ah} {v:Value} (hc:RA w G h x v):RA w G h' (x.cE ok) v:=by
 cases x with
 |one c=>
  rcases hc with rfl|hc
  ·exact Or.inl rfl
  ·exact Or.inr (RV.less L hc)
 |agg cs=>exact RV.less L hc
 |bk xs=>
  obtain⟨vs,e,hl,hv⟩:=hc
  refine⟨vs,e,by simpa using hl,fun j x u hj hu=>?_⟩
  rw[List.getElem?_map] at hj
  cases cA:xs[j]? with
  |none=>rw[cA] at hj;cases hj
  |some c0=>
   rw[cA] at hj
   simp at hj
   subst hj
   exact RV.less L (hv j c0 u cA hu)
theorem ah.Bm {x:ah} {m:Nat} (h:(x.cE ok).ref m):ok m=true:=by
 cases x with
 |one c=>exact ab.Bm h
 |agg cs=>
  obtain⟨c,hc,h⟩:=h
  obtain⟨c0,cA,rfl⟩:=List.mem_map.1 hc
  exact ab.Bm h
 |bk xs=>
  obtain⟨x,hx,c,hc,h⟩:=h
  obtain⟨x0,zF,rfl⟩:=List.mem_map.1 hx
  obtain⟨c0,cA,rfl⟩:=List.mem_map.1 hc
  exact ab.Bm h
theorem HR.less {used:Nat->Bool} (H:HR B E w G h used []) (L:oS ok h h'):HR B E w G h' ok []:=by
 refine⟨fun n hn=>(L.ne hn).1,fun m cs c n hm hc hr=>?_,fun n cs hn=>?_,fun n gr m sz xs hn=>H.row n gr m sz xs (L.row hn),fun n hn=>H.own n (L.ne hn).2,fun n n' hn bh=>H.inj n n' (L.ne hn).2 (L.ne bh).2,
  H.e7,H.ov,fun n n' gr m sz xs aW m' ax ak hn bh=>H.eV n n' gr m sz xs aW m' ax ak (L.row hn) (L.row bh),fun n gr sz xs hn b hb n' bh=>H.live n gr sz xs (L.row hn) b hb n' (L.ne bh).2,?_,?_,?_⟩
 ·obtain⟨eO,_,rfl⟩:=L.box hm
  obtain⟨c0,_,rfl⟩:=List.mem_map.1 hc
  exact ab.Bm hr
 ·obtain⟨eO,h0,rfl⟩:=L.box hn
  obtain⟨a1,a2,a3⟩:=H.box n eO h0
  refine⟨a1,a2,fun j c hj=>?_⟩
  rw[List.getElem?_map] at hj
  cases cA:eO[j]? with
  |none=>rw[cA] at hj;cases hj
  |some c0=>
   rw[cA] at hj
   simp at hj
   subst hj
   obtain⟨v,b1,b2,b3⟩:=a3 j c0 cA
   exact⟨v,b1,b2,b3.less L⟩
 ·intro i pc hi;simp at hi
 ·intro i j pc cm b _ hi;simp at hi
 ·intro i pc n gr m sz xs b hi;simp at hi
theorem HR.amH {used used':Nat->Bool} (H:HR B E w G h used []) (hu:∀n,used n=true->used' n=true):HR B E w G h used' []:=
 ⟨fun n hn=>hu n (H.gT n hn),fun m cs c n hm hc hr=>hu n (H.gd m cs c n hm hc hr),H.box,H.row,H.own,H.inj,H.e7,H.ov,H.eV,H.live,H.ru,H.wq,H.rv⟩
theorem Q2 {ke kh:List Nat} {n:Nat} (hn:σ.iO ke kh n=true):n∈kh:=by
 simp only[St.iO,Bool.and_eq_true] at hn
 simpa using hn.1.1
theorem R.hJ (r:R B E w0 N σ a w G) (ke kh:List Nat):R B E w0 N (σ.hJ ke kh) a w G:=by
 have L:oS (σ.iO ke kh) σ.h (σ.hJ ke kh).h:=by
  refine⟨fun n hn=>.inl ?_,fun n hn=>?_⟩
  ·show rf _ _ _ n=_
   rw[Kd,if_pos ⟨Q2 hn,hn⟩]
  ·show rf _ _ _ n=_
   rw[Kd,if_neg (by simp[hn])]
 have hu:∀n,σ.iO ke kh n=true->(σ.hJ ke kh).used n=true:=by
  intro n hk
  show(Nat.ble aJ n||vZ _ _ n)=true
  rw[Z7]
  simp[hk,Q2 hk]
 refine⟨r.defers,r.size,fun s=>?_,fun s n hn=>?_,?_,r.fr,fun n p b hp hb=>?_,fun n hn=>?_⟩
 ·show RA w G _ (vY _ _ _ s) _
  rw[Rv]
  split
  ·exact(r.env s).less L
  ·exact Or.inl rfl
 ·have bh:(vY (σ.iO ke kh) σ.env ke s).ref n:=hn
  rw[Rv] at bh
  split at bh
  ·exact hu n (ah.Bm bh)
  ·exact absurd bh id
 ·exact(r.hr.less L).amH hu
 ·have h0:(σ.hJ ke kh).h n≠none:=by rw[hb];simp
  obtain⟨hk,_⟩:=L.ne h0
  have np:=fun b0 (h1:σ.h n=some b0)=>r.nF n p b0 hp h1
  have aE:rf (σ.iO ke kh) σ.h kh n=some b:=hb
  rw[Kd,if_pos ⟨Q2 hk,hk⟩] at aE
  cases h1:σ.h n with
  |none=>rw[h1] at aE;cases aE
  |some b0=>
   obtain⟨p1,p2,p3,p4,p6,p5⟩:=np b0 h1
   refine⟨p1,p2,p3,p4,p6,fun gr sz xs Ej=>?_⟩
   rw[h1,Ej] at aE
   cases b0 with
   |box cs=>simp[aj.cE] at aE
   |row aW m' ax ak=>
    simp only[aj.cE,Option.map_some,Option.some.injEq,aj.row.injEq] at aE
    obtain⟨_,rfl,_,_⟩:=aE
    exact p5 aW ax ak rfl
 ·show(Nat.ble aJ n||_)=true
  rw[Nat.ble_eq_true_of_le hn];rfl
end
end Go.Am
end
section
namespace Go.Am
def back (x c n:Nat):Nat:=if n=c then x else n
theorem Vs {x c n:Nat} (hn:n≠c):back x c (mN x c n)=n:=by
 unfold back mN
 by_cases h:n=x
 ·subst h;simp
 ·simp[h,hn]
theorem alb {x c n:Nat} (hx:x≠c) (hn:n≠c):mN x c n≠x:=by
 unfold mN
 by_cases h:n=x
 ·simp[h];exact fun e=>hx e.symm
 ·simp[h]
structure nS (x c:Nat) (used:Nat->Bool) (h h':Nat->Option aj):Prop where
 ne:x≠c
 uc:used c=false
 gone:h' x=none
 b:∀n,n≠x->h' n=(h (back x c n)).map (·.bc x c)
section
variable {B:Nat} {E:Ex} {w0 w w':World} {G G':Gh} {N:Nat} {h h':Nat->Option aj} {used:Nat->Bool} {x c:Nat}
variable {P:Program} {T:aF} {a:Act} {σ σ':St} {Q:Exit->Act->World->Prop}
def tj (G:Gh) (x c:Nat):Gh:=⟨G.Im,fun n=>G.g (back x c n)⟩
theorem nS.at (L:nS x c used h h') {n:Nat} (hn:used n=true):h' (mN x c n)=(h n).map (·.bc x c):=by
 have hc:n≠c:=fun e=>by subst e;rw[L.uc] at hn;cases hn
 rw[L.b _ (alb L.ne hc),Vs hc]
theorem nS.Ef (L:nS x c used h h') {n:Nat} (hn:used n=true):(tj G x c).g (mN x c n)=G.g n:=by
 have hc:n≠c:=fun e=>by subst e;rw[L.uc] at hn;cases hn
 show G.g (back x c (mN x c n))=_
 rw[Vs hc]
theorem JF {o:Option aj} (hn:o.map (·.bc x c)≠none):o≠none:=by
 cases o with
 |none=>exact absurd rfl hn
 |some b=>simp
theorem PW {o:Option aj} {gr:Bool} {m:Mode} {sz:Nat} {xs:List (List C)} (hn:o.map (·.bc x c)=some (.row gr m sz xs)):o=some (.row gr m sz xs):=by
 cases o with
 |none=>cases hn
 |some b=>cases b with
  |box cs=>simp[aj.bc] at hn
  |row gr m sz xs=>exact hn
theorem Y7 {o:Option aj} {cs:List ab} (hn:o.map (·.bc x c)=some (.box cs)):∃eO,o=some (.box eO)/\cs=eO.map (·.bc x c):=by
 cases o with
 |none=>cases hn
 |some b=>cases b with
  |box eO=>
   simp only[Option.map_some,aj.bc] at hn
   injection hn with hn
   injection hn with hn
   exact⟨eO,rfl,hn.symm⟩
  |row gr m sz xs=>simp[aj.bc] at hn
theorem fV.bc (L:nS x c used h h') {y:ab} {v:Value} (hr:∀m,y.fL m->used m=true) (hc:fV w G h y v):fV w (tj G x c) h' (y.nH x c) v:=by
 cases y with
 |ptr n k sz off=>
  intro hn
  rw[L.at (hr n rfl)] at hn
  rw[L.Ef (hr n rfl)]
  exact hc (JF hn)
 |sl n sz lo len=>
  intro hn
  rw[L.at (hr n rfl)] at hn
  rw[L.Ef (hr n rfl)]
  exact hc (JF hn)
 |bf n k au off sz len=>
  intro gr xs hn
  rw[L.at (hr n rfl)] at hn
  rw[L.Ef (hr n rfl)]
  exact hc gr xs (PW hn)
 |bX n k au off sz i=>
  intro gr xs hn
  rw[L.at (hr n rfl)] at hn
  rw[L.Ef (hr n rfl)]
  exact hc gr xs (PW hn)
 |bK xs off j n sz len=>
  obtain⟨b,o,pe,h1,h2,h3,h4,h5⟩:=hc
  obtain⟨u,u1,u2,u3⟩:=h5
  refine⟨b,o,pe,h1,h2,h3,h4,u,u1,u2,fun hn=>?_⟩
  rw[L.at (hr n rfl)] at hn
  rw[L.Ef (hr n rfl)]
  exact u3 (JF hn)
 |c x=>exact hc
 |nil sz=>exact hc
 |cd xs off=>exact hc
 |fn f bI=>exact hc
 |aX=>exact hc
theorem RC.bc (L:nS x c used h h') {y:ab} {v:Value} (hr:∀m,y.ref m->used m=true) (hc:RC w G h y v):RC w (tj G x c) h' (y.bc x c) v:=by
 cases y with
 |fn f bI=>
  obtain⟨vs,h1,h2,h3⟩:=hc
  refine⟨vs,h1,by simpa using h2,fun j y u hj hu=>?_⟩
  rw[List.getElem?_map] at hj
  cases hc:bI[j]? with
  |none=>rw[hc] at hj;cases hj
  |some c0=>
   rw[hc] at hj
   simp at hj
   subst hj
   exact⟨(h3 j c0 u hc hu).1,(h3 j c0 u hc hu).2.bc L fun m hm=>hr m ⟨c0,List.mem_of_getElem? hc,hm⟩⟩
 |ptr n k sz off=>exact fV.bc (w:=w) (G:=G) L (y:=.ptr n k sz off) hr hc
 |sl n sz lo len=>exact fV.bc (w:=w) (G:=G) L (y:=.sl n sz lo len) hr hc
 |bf n k au off sz len=>exact fV.bc (w:=w) (G:=G) L (y:=.bf n k au off sz len) hr hc
 |bX n k au off sz i=>exact fV.bc (w:=w) (G:=G) L (y:=.bX n k au off sz i) hr hc
 |bK xs off j n sz len=>exact fV.bc (w:=w) (G:=G) L (y:=.bK xs off j n sz len) hr hc
 |c x=>exact hc
 |nil sz=>exact hc
 |cd xs off=>exact hc
 |aX=>exact hc
theorem cb.bc (L:nS x c used h h') {cs:List ab} {vs:List Value} (hr:∀y∈cs,∀m,y.ref m->used m=true) (hc:cb w G h cs vs):cb w (tj G x c) h' (cs.map (·.bc x c)) vs:=by
 refine⟨by simpa using hc.1,fun j y u hj hu=>?_⟩
 rw[List.getElem?_map] at hj
 cases cA:cs[j]? with
 |none=>rw[cA] at hj;cases hj
 |some c0=>
  rw[cA] at hj
  simp at hj
  subst hj
  exact⟨(hc.2 j c0 u cA hu).1,(hc.2 j c0 u cA hu).2.bc L (hr c0 (List.mem_of_getElem? cA))⟩
theorem RV.bc (L:nS x c used h h') {ag:Bool} {cs:List ab} {v:Value} (hr:∀y∈cs,∀m,y.ref m->used m=true) (hc:RV w G h ag cs v):RV w (tj G x c) h' ag (cs.map (·.bc x c)) v:=by
 unfold RV at*
 split
 ·rename_i h1
  simp only[h1,if_true] at hc
  obtain⟨vs,e,hv⟩:=hc
  exact⟨vs,e,hv.bc L hr⟩
 ·rename_i h1
  simp only[h1] at hc
  exact cb.bc L hr hc
theorem RA.bc (L:nS x c used h h') {y:ah} {v:Value} (hr:∀m,y.ref m->used m=true) (hc:RA w G h y v):RA w (tj G x c) h' (y.bc x c) v:=by
 cases y with
 |one y=>
  rcases hc with rfl|hc
  ·exact Or.inl rfl
  ·exact Or.inr (RV.bc L (fun z hz m hm=>hr m (by simp at hz;subst hz;exact hm)) hc)
 |agg cs=>exact RV.bc L (fun z hz m hm=>hr m ⟨z,hz,hm⟩) hc
 |bk xs=>
  obtain⟨vs,e,hl,hv⟩:=hc
  refine⟨vs,e,by simpa using hl,fun j y u hj hu=>?_⟩
  rw[List.getElem?_map] at hj
  cases cA:xs[j]? with
  |none=>rw[cA] at hj;cases hj
  |some c0=>
   rw[cA] at hj
   simp at hj
   subst hj
   exact RV.bc L (fun z hz m hm=>hr m ⟨c0,List.mem_of_getElem? cA,z,hz,hm⟩) (hv j c0 u cA hu)
def yo (used:Nat->Bool) (x c:Nat):Nat->Bool:=fun n=>if n=c then used x else if n=x then false else used n
theorem ab.CL (L:nS x c used h h') {y:ab} {m:Nat} (hr:∀m,y.fL m->used m=true) (hm:(y.nH x c).fL m):yo used x c m=true:=by
 have bW:∀n,used n=true->m=mN x c n->yo used x c m=true:=by
  intro n hn e
  subst e
  have hc:n≠c:=fun e=>by subst e;rw[L.uc] at hn;cases hn
  unfold yo mN
  by_cases h1:n=x
  ·subst h1;simp[hn]
  ·simp[h1,hc,hn]
 cases y<;>first|exact absurd hm id|exact bW _ (hr _ rfl) hm
theorem ab.CM (L:nS x c used h h') {y:ab} {m:Nat} (hr:∀m,y.ref m->used m=true) (hm:(y.bc x c).ref m):yo used x c m=true:=by
 cases y with
 |fn f bI=>
  obtain⟨z,hz,hm⟩:=hm
  obtain⟨z0,vw,rfl⟩:=List.mem_map.1 hz
  exact ab.CL L (fun m hm=>hr m ⟨z0,vw,hm⟩) hm
 |ptr n k sz off=>exact ab.CL L (y:=.ptr n k sz off) hr hm
 |sl n sz lo len=>exact ab.CL L (y:=.sl n sz lo len) hr hm
 |bf n k au off sz len=>exact ab.CL L (y:=.bf n k au off sz len) hr hm
 |bX n k au off sz i=>exact ab.CL L (y:=.bX n k au off sz i) hr hm
 |bK xs off j n sz len=>exact ab.CL L (y:=.bK xs off j n sz len) hr hm
 |c x=>exact absurd hm id
 |nil sz=>exact absurd hm id
 |cd xs off=>exact absurd hm id
 |aX=>exact absurd hm id
theorem ah.CM (L:nS x c used h h') {y:ah} {m:Nat} (hr:∀m,y.ref m->used m=true) (hm:(y.bc x c).ref m):yo used x c m=true:=by
 cases y with
 |one y=>exact ab.CM L hr hm
 |agg cs=>
  obtain⟨z,hz,hm⟩:=hm
  obtain⟨z0,vw,rfl⟩:=List.mem_map.1 hz
  exact ab.CM L (fun m hm=>hr m ⟨z0,vw,hm⟩) hm
 |bk xs=>
  obtain⟨p,hp,z,hz,hm⟩:=hm
  obtain⟨p0,EE,rfl⟩:=List.mem_map.1 hp
  obtain⟨z0,vw,rfl⟩:=List.mem_map.1 hz
  exact ab.CM L (fun m hm=>hr m ⟨p0,EE,z0,vw,hm⟩) hm
theorem HR.bc (H:HR B E w G h used []) (L:nS x c used h h'):HR B E w (tj G x c) h' (yo used x c) []:=by
 have nx:∀n,h' n≠none->n≠x:=fun n hn e=>by subst e;exact hn L.gone
 have hb:∀n,h' n≠none->h (back x c n)≠none:=fun n hn=>by
  have:=L.b n (nx n hn)
  rw[this] at hn
  exact JF hn
 have dR:∀{n gr m sz xs},h' n=some (.row gr m sz xs)->h (back x c n)=some (.row gr m sz xs):=by
  intro n gr m sz xs hn
  have:=L.b n (nx n (by rw[hn];simp))
  rw[this] at hn
  exact PW hn
 have tq:∀n n',n≠x->n'≠x->n≠n'->back x c n≠back x c n':=by
  intro n n' h1 h2 h3
  unfold back
  by_cases e1:n=c
  ·by_cases e2:n'=c
   ·omega
   ·simp[e1,e2];omega
  ·by_cases e2:n'=c
   ·simp[e1,e2];omega
   ·simp[e1,e2];omega
 have xm:∀n,n≠x->used (back x c n)=true->yo used x c n=true:=by
  intro n h1 h2
  unfold yo
  unfold back at h2
  by_cases e1:n=c
  ·simp[e1] at h2⊢;exact h2
  ·simp[e1] at h2;simp[e1,h1,h2]
 refine⟨fun n hn=>xm n (nx n hn) (H.gT _ (hb n hn)),fun m cs y n hm hy hr=>?_,fun n cs hn=>?_,fun n gr m sz xs hn=>?_,fun n hn=>H.own _ (hb n hn),
  fun n n' hn bh av=>H.inj _ _ (hb n hn) (hb n' bh) (tq n n' (nx n hn) (nx n' bh) av),H.e7,H.ov,fun n n' gr m sz xs aW m' ax ak hn bh hm bm av=>H.eV _ _ gr m sz xs aW m' ax ak (dR hn) (dR bh) hm bm
   (tq n n' (nx n (by rw[hn];simp)) (nx n' (by rw[bh];simp)) av),fun n gr sz xs hn b aE n' bh=>H.live _ gr sz xs (dR hn) b aE _ (hb n' bh),?_,?_,?_⟩
 ·have zw:=nx m (by rw[hm];simp)
  rw[L.b m zw] at hm
  obtain⟨eO,h0,rfl⟩:=Y7 hm
  obtain⟨y0,Jk,rfl⟩:=List.mem_map.1 hy
  exact ab.CM L (fun q hq=>H.gd _ eO y0 q h0 Jk hq) hr
 ·have zy:=nx n (by rw[hn];simp)
  rw[L.b n zy] at hn
  obtain⟨eO,h0,rfl⟩:=Y7 hn
  obtain⟨a1,a2,a3⟩:=H.box _ eO h0
  refine⟨a1,a2,fun j y hj=>?_⟩
  rw[List.getElem?_map] at hj
  cases cA:eO[j]? with
  |none=>rw[cA] at hj;cases hj
  |some y0=>
   rw[cA] at hj
   simp at hj
   subst hj
   obtain⟨v,b1,b2,b3⟩:=a3 j y0 cA
   exact⟨v,b1,b2,b3.bc L fun q hq=>H.gd _ eO y0 q h0 (List.mem_of_getElem? cA) hq⟩
 ·have hr:=H.row _ gr m sz xs (dR hn)
  refine⟨hr.pos,hr.er,hr.nl,hr.cZ,hr.room,?_,hr.nr⟩
  have hm:=hr.mode
  cases m<;>exact hm
 ·intro i pc hi;simp at hi
 ·intro i j pc cm b _ hi;simp at hi
 ·intro i pc n gr m sz xs b hi;simp at hi
theorem R.bc (r:R B E w0 N σ a w G) (hx:σ.bc x c=some σ'):∃G',R B E w0 N σ' a w G':=by
 unfold St.bc at hx
 split at hx
 ·injection hx with hx;subst hx;exact⟨G,r⟩
 ·rename_i av
  split at hx
  ·injection hx with hx;subst hx;exact⟨G,r⟩
  rename_i hxp
  split at hx
  ·cases hx
  ·rename_i hu
   injection hx with hx
   subst hx
   have BP:¬aJ<=c:=fun hc=>by rw[r.t8 c hc] at hu;exact hu rfl
   have Yf:¬aJ<=x:=fun hc=>hxp (Nat.ble_eq_true_of_le hc)
   have Jg:σ.used c=false:=by simpa using hu
   have L:nS x c σ.used σ.h (fun n=>if n=c then(σ.h x).map (·.bc x c) else if n=x then none else(σ.h n).map (·.bc x c)):=by
    refine⟨av,Jg,by simp[av],fun n hn=>?_⟩
    unfold back
    by_cases h1:n=c
    ·simp[h1]
    ·simp[h1,hn]
   exact⟨tj G x c,r.defers,r.size,fun s=>(r.env s).bc L (fun m hm=>r.nO s m hm),fun s n hn=>ah.CM L (fun m hm=>r.nO s m hm) hn,r.hr.bc L,r.fr,fun n p b hp hb=>by
    have hn:=E.lt n p hp
    have od:n≠c:=fun e=>BP (e▸hn)
    have zy:n≠x:=fun e=>Yf (e▸hn)
    have aE:(if n=c then(σ.h x).map (·.bc x c) else if n=x then none else(σ.h n).map (·.bc x c))=some b:=hb
    rw[if_neg od,if_neg zy] at aE
    have hg:(tj G x c).g n=G.g n:=by simp[tj,back,od]
    rw[hg]
    cases h1:σ.h n with
    |none=>rw[h1] at aE;cases aE
    |some b0=>
     obtain⟨p1,p2,p3,p4,p6,p5⟩:=r.nF n p b0 hp h1
     refine⟨p1,p2,p3,p4,p6,fun gr sz xs Ej=>?_⟩
     rw[h1,Ej] at aE
     cases b0 with
     |box cs=>simp[aj.bc] at aE
     |row aW m' ax ak=>
      simp only[aj.bc,Option.map_some,Option.some.injEq,aj.row.injEq] at aE
      obtain⟨_,rfl,_,_⟩:=aE
      exact p5 aW ax ak rfl,fun n hn=>by
    have od:n≠c:=fun e=>BP (e▸hn)
    have zy:n≠x:=fun e=>Yf (e▸hn)
    show(if n=c then σ.used x else if n=x then false else σ.used n)=true
    rw[if_neg od,if_neg zy]
    exact r.t8 n hn⟩
theorem R.Yx (r:R B E w0 N σ a w G) {m:Mode} {sz:Nat} (bn:0<sz) (hx:σ.ins c (.row true m sz [])=some σ'):
  ∃G',R B E w0 N σ' a w G'/\RC w G' σ'.h (.sl c sz 0 0) (.slice none 0 0):=by
 obtain⟨hn,rfl⟩:=iI hx
 have Fw:∀b,¬aP b ([]:List (List PC)):=by rintro b ⟨k,j,q,⟨e,he,_⟩,_⟩;simp at he
 have iG:gF ([]:List (List PC)):=⟨by rintro k j q ⟨e,he,_⟩;simp at he,by rintro k j q k' j' q' b ⟨e,he,_⟩;simp at he⟩
 have H:=r.hr.insert (w':=w) (n:=c) (blk:=.row true m sz []) (p:=⟨true,0,0,0,[],none⟩) hn (fun _ _=>rfl) (Nat.le_refl _) (fun hf=>by cases hf) (fun cs y q hb=>by cases hb)
  (by
   refine⟨bn,rfl,fun _=>⟨rfl,fun _=>rfl⟩,(fun hf=>by cases hf),(fun hf=>by cases hf),?_,fun _ _ k pc hk=>by obtain⟨e,he,_⟩:=hk;simp at he⟩
   cases m with
   |aG=>exact fun b hb=>absurd hb (Fw b)
   |af=>exact⟨fun b hb=>absurd hb (Fw b),iG⟩
   |live=>exact⟨fun b hb=>absurd hb (Fw b),iG⟩)
  (fun gr m' ax ak hb hm n' aW iv gm eT h0 fY b bL=>absurd bL (Fw b)) (fun gr ax ak hb b bL=>absurd bL (Fw b)) (fun gr m' ax ak hb hm i pc b hi=>by simp at hi)
 refine⟨_,r.step rfl (fun q hq=>lQ _ _ hq) (aR.insert r.hr hn (fun _ _=>rfl)) H r.fr,fun _=>?_⟩
 simp only[bo]
 exact Or.inl ⟨rfl,rfl,rfl,rfl⟩
end
end Go.Am
end
