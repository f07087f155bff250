/- Am22, Am23: parts of the proof. No condition. -/
import Derived.Test.YtfkfmbhknekkdaaAm21
set_option linter.unusedVariables false
section
namespace Go.Am
theorem NU (ok:Nat->Bool) (env:Nat->ai):∀(ss:List Nat) (n:Nat),sW ok env ss n=if n∈ss then(env n).cG ok else .one .bg
 |[],n=>by simp[sW,yn]
 |s::ss,n=>by
  simp only[sW,ik,NU ok env ss,List.mem_cons]
  by_cases h:n=s
  ·subst h;simp
  ·simp[h]
theorem GH (ok:Nat->Bool) (h:Nat->Option ak):∀(ss:List Nat) (n:Nat),oH ok h ss n=if n∈ss/\ok n=true then(h n).map (·.cG ok) else none
 |[],n=>by simp[oH,yo]
 |s::ss,n=>by
  have ih:=GH ok h ss n
  simp only[oH,List.mem_cons]
  by_cases hn:n=s
  ·subst hn
   by_cases hk:ok n=true
   ·rw[if_pos hk]
    cases hh:h n with
    |some b=>simp[bu,hk]
    |none=>simp only[ih,hh];simp
   ·rw[if_neg hk,ih];simp[hk]
  ·by_cases hk:ok s=true
   ·rw[if_pos hk]
    cases hh:h s with
    |some b=>simp only[cd _ _ _ _ hn,ih];simp[hn]
    |none=>simp only[ih];simp[hn]
   ·rw[if_neg hk,ih];simp[hn]
theorem XY (ok:Nat->Bool):∀(ss:List Nat) (n:Nat),sY ok ss n=(decide (n∈ss)&&ok n)
 |[],n=>by simp[sY,Sw]
 |s::ss,n=>by
  have ih:=XY ok ss n
  simp only[sY]
  by_cases hn:n=s
  ·subst hn
   by_cases hk:ok n=true
   ·rw[if_pos hk];simp[bu,hk]
   ·rw[if_neg hk,ih];simp[hk]
  ·by_cases hk:ok s=true
   ·rw[if_pos hk,cd _ _ _ _ hn,ih];simp[hn]
   ·rw[if_neg hk,ih];simp[hn]
theorem ae.aaE {ok:Nat->Bool} {c:ae} {m:Nat} (h:(c.dT ok).gu m):ok m=true:=by
 cases c<;>simp only[ae.dT] at h<;>first|exact h.elim|skip
 all_goals
  split at h
  ·rename_i hk
   have h':=h
   simp only[ae.gu] at h'
   subst h'
   exact hk
  ·exact h.elim
theorem ae.yi {ok:Nat->Bool} {c:ae} {m:Nat} (h:(c.cG ok).ref m):ok m=true:=by
 cases c with
 |fn f bM=>
  obtain⟨x,hx,h⟩:=h
  obtain⟨y,hy,rfl⟩:=List.mem_map.1 hx
  exact ae.aaE h
 |c x=>exact h.elim
 |nil sz=>exact h.elim
 |bV xs off=>exact h.elim
 |bg=>exact h.elim
 |ptr n k sz off=>
  simp only[ae.cG,ae.dT] at h
  split at h
  ·rename_i hk;have h':m=n:=h;subst h';exact hk
  ·exact h.elim
 |sl n sz lo len=>
  simp only[ae.cG,ae.dT] at h
  split at h
  ·rename_i hk;have h':m=n:=h;subst h';exact hk
  ·exact h.elim
 |bj n k au off sz len=>
  simp only[ae.cG,ae.dT] at h
  split at h
  ·rename_i hk;have h':m=n:=h;subst h';exact hk
  ·exact h.elim
 |cH n k au off sz i=>
  simp only[ae.cG,ae.dT] at h
  split at h
  ·rename_i hk;have h':m=n:=h;subst h';exact hk
  ·exact h.elim
 |bD xs off j n sz len=>
  simp only[ae.cG,ae.dT] at h
  split at h
  ·rename_i hk;have h':m=n:=h;subst h';exact hk
  ·exact h.elim
section
variable {B:Nat} {E:Ex} {w0 w w':World} {G G':Gh} {N:Nat} {h h':Nat->Option ak} {ok:Nat->Bool}
variable {P:Program} {T:aA} {a:Act} {σ σ':St} {Q:Exit->Act->World->Prop}
structure mO (ok:Nat->Bool) (h h':Nat->Option ak):Prop where
 le:∀n,ok n=true->h' n=(h n).map (·.cG ok)\/h' n=none
 no:∀n,ok n=false->h' n=none
theorem mO.ne (L:mO ok h h') {n:Nat} (hn:h' n≠none):ok n=true/\h n≠none:=by
 cases hk:ok n with
 |false=>exact absurd (L.no n hk) hn
 |true=>
  refine⟨rfl,fun e=>?_⟩
  rcases L.le n hk with h1|h1
  ·rw[e] at h1;exact hn h1
  ·exact hn h1
theorem mO.row (L:mO ok h h') {n:Nat} {gr:Bool} {m:Mode} {sz:Nat} {xs:List (List C)} (hn:h' n=some (.row gr m sz xs)):h n=some (.row gr m sz xs):=by
 obtain⟨hk,h0⟩:=L.ne (n:=n) (by rw[hn];simp)
 rcases L.le n hk with h1|h1
 ·rw[h1] at hn
  cases hh:h n with
  |none=>exact absurd hh h0
  |some b=>cases b with
   |box cs=>rw[hh] at hn;simp[ak.cG] at hn
   |row gr m sz xs=>rw[hh] at hn;simp only[Option.map_some,ak.cG] at hn;exact hn
 ·rw[h1] at hn;cases hn
theorem mO.box (L:mO ok h h') {n:Nat} {cs:List ae} (hn:h' n=some (.box cs)):∃gb,h n=some (.box gb)/\cs=gb.map (·.cG ok):=by
 obtain⟨hk,h0⟩:=L.ne (n:=n) (by rw[hn];simp)
 rcases L.le n hk with h1|h1
 ·rw[h1] at hn
  cases hh:h n with
  |none=>exact absurd hh h0
  |some b=>cases b with
   |box gb=>
    rw[hh] at hn
    simp only[Option.map_some,ak.cG] at hn
    injection hn with hn
    injection hn with hn
    exact⟨gb,rfl,hn.symm⟩
   |row gr m sz xs=>rw[hh] at hn;simp[ak.cG] at hn
 ·rw[h1] at hn;cases hn
theorem gJ.less (L:mO ok h h') {c:ae} {v:Value} (hc:gJ w G h c v):gJ w G h' (c.dT ok) v:=by
 cases c with
 |ptr n k sz off=>
  simp only[ae.dT]
  split
  ·exact fun hn=>hc (L.ne hn).2
  ·trivial
 |sl n sz lo len=>
  simp only[ae.dT]
  split
  ·exact fun hn=>hc (L.ne hn).2
  ·trivial
 |bj n k au off sz len=>
  simp only[ae.dT]
  split
  ·exact fun gr xs hn=>hc gr xs (L.row hn)
  ·trivial
 |cH n k au off sz i=>
  simp only[ae.dT]
  split
  ·exact fun gr xs hn=>hc gr xs (L.row hn)
  ·trivial
 |bD xs off j n sz len=>
  simp only[ae.dT]
  split
  ·obtain⟨b,o,pe,h1,h2,h3,h4,h5⟩:=hc
   obtain⟨u,u1,u2,u3⟩:=h5
   exact⟨b,o,pe,h1,h2,h3,h4,u,u1,u2,fun hn=>u3 (L.ne hn).2⟩
  ·trivial
 |c x=>exact hc
 |nil sz=>exact hc
 |bV xs off=>exact hc
 |fn f bM=>exact hc
 |bg=>exact hc
theorem RC.less (L:mO ok h h') {c:ae} {v:Value} (hc:RC w G h c v):RC w G h' (c.cG ok) v:=by
 cases c with
 |fn f bM=>
  obtain⟨vs,h1,h2,h3⟩:=hc
  refine⟨vs,h1,by simpa using h2,fun j c u hj hu=>?_⟩
  rw[List.getElem?_map] at hj
  cases hc:bM[j]? with
  |none=>rw[hc] at hj;cases hj
  |some c0=>
   rw[hc] at hj
   simp at hj
   subst hj
   exact⟨(h3 j c0 u hc hu).1,(h3 j c0 u hc hu).2.less L⟩
 |ptr n k sz off=>
  have:=gJ.less (w:=w) (G:=G) L (c:=.ptr n k sz off) hc
  simp only[ae.cG]
  rw[rR]
  ·exact this
  ·simp only[ae.dT];split<;>rfl
 |sl n sz lo len=>
  have:=gJ.less (w:=w) (G:=G) L (c:=.sl n sz lo len) hc
  simp only[ae.cG]
  rw[rR]
  ·exact this
  ·simp only[ae.dT];split<;>rfl
 |bj n k au off sz len=>
  have:=gJ.less (w:=w) (G:=G) L (c:=.bj n k au off sz len) hc
  simp only[ae.cG]
  rw[rR]
  ·exact this
  ·simp only[ae.dT];split<;>rfl
 |cH n k au off sz i=>
  have:=gJ.less (w:=w) (G:=G) L (c:=.cH n k au off sz i) hc
  simp only[ae.cG]
  rw[rR]
  ·exact this
  ·simp only[ae.dT];split<;>rfl
 |bD xs off j n sz len=>
  have:=gJ.less (w:=w) (G:=G) L (c:=.bD xs off j n sz len) hc
  simp only[ae.cG]
  rw[rR]
  ·exact this
  ·simp only[ae.dT];split<;>rfl
 |c x=>exact hc
 |nil sz=>exact hc
 |bV xs off=>exact hc
 |bg=>exact hc
theorem cL.less (L:mO ok h h') {cs:List ae} {vs:List Value} (hc:cL w G h cs vs):cL w G h' (cs.map (·.cG ok)) vs:=by
 refine⟨by simpa using hc.1,fun j c u hj hu=>?_⟩
 rw[List.getElem?_map] at hj
 cases dL:cs[j]? with
 |none=>rw[dL] at hj;cases hj
 |some c0=>
  rw[dL] at hj
  simp at hj
  subst hj
  exact⟨(hc.2 j c0 u dL hu).1,(hc.2 j c0 u dL hu).2.less L⟩
theorem RV.less (L:mO ok h h') {ag:Bool} {cs:List ae} {v:Value} (hc:RV w G h ag cs v):RV w G h' ag (cs.map (·.cG ok)) v:=by
 unfold RV at*
 split
 ·rename_i h1
  simp only[h1,if_true] at hc
  obtain⟨vs,e,hv⟩:=hc
  exact⟨vs,e,hv.less L⟩
 ·rename_i h1
  simp only[h1] at hc
  exact cL.less L hc
theorem RA.less (L:mO ok h h') {x:ai} {v:Value} (hc:RA w G h x v):RA w G h' (x.cG ok) v:=by
 cases x with
 |one c=>
  rcases hc with rfl|hc
  ·exact Or.inl rfl
  ·exact Or.inr (RV.less L hc)
 |agg cs=>exact RV.less L hc
 |aY xs=>
  obtain⟨vs,e,hl,hv⟩:=hc
  refine⟨vs,e,by simpa using hl,fun j x u hj hu=>?_⟩
  rw[List.getElem?_map] at hj
  cases dL:xs[j]? with
  |none=>rw[dL] at hj;cases hj
  |some c0=>
   rw[dL] at hj
   simp at hj
   subst hj
   exact RV.less L (hv j c0 u dL hu)
theorem ai.yi {x:ai} {m:Nat} (h:(x.cG ok).ref m):ok m=true:=by
 cases x with
 |one c=>exact ae.yi h
 |agg cs=>
  obtain⟨c,hc,h⟩:=h
  obtain⟨c0,dL,rfl⟩:=List.mem_map.1 hc
  exact ae.yi h
 |aY xs=>
  obtain⟨x,hx,c,hc,h⟩:=h
  obtain⟨x0,hx0,rfl⟩:=List.mem_map.1 hx
  obtain⟨c0,dL,rfl⟩:=List.mem_map.1 hc
  exact ae.yi h
theorem HR.less {used:Nat->Bool} (H:HR B E w G h used []) (L:mO ok h h'):HR B E w G h' ok []:=by
 refine⟨fun n hn=>(L.ne hn).1,fun m cs c n hm hc hr=>?_,fun n cs hn=>?_,fun n gr m sz xs hn=>H.row n gr m sz xs (L.row hn),fun n hn=>H.own n (L.ne hn).2,fun n n' hn bC=>H.inj n n' (L.ne hn).2 (L.ne bC).2,
  H.fv,H.oq,fun n n' gr m sz xs aU m' aC ao hn bC=>H.fg n n' gr m sz xs aU m' aC ao (L.row hn) (L.row bC),fun n gr sz xs hn b hb n' bC=>H.live n gr sz xs (L.row hn) b hb n' (L.ne bC).2,?_,?_,?_⟩
 ·obtain⟨gb,_,rfl⟩:=L.box hm
  obtain⟨c0,_,rfl⟩:=List.mem_map.1 hc
  exact ae.yi hr
 ·obtain⟨gb,h0,rfl⟩:=L.box hn
  obtain⟨a1,a2,a3⟩:=H.box n gb h0
  refine⟨a1,a2,fun j c hj=>?_⟩
  rw[List.getElem?_map] at hj
  cases dL:gb[j]? with
  |none=>rw[dL] at hj;cases hj
  |some c0=>
   rw[dL] at hj
   simp at hj
   subst hj
   obtain⟨v,b1,b2,b3⟩:=a3 j c0 dL
   exact⟨v,b1,b2,b3.less L⟩
 ·intro i pc hi;simp at hi
 ·intro i j pc dd b _ hi;simp at hi
 ·intro i pc n gr m sz xs b hi;simp at hi
theorem HR.alk {used used':Nat->Bool} (H:HR B E w G h used []) (hu:∀n,used n=true->used' n=true):HR B E w G h used' []:=
 ⟨fun n hn=>hu n (H.gN n hn),fun m cs c n hm hc hr=>hu n (H.fW m cs c n hm hc hr),H.box,H.row,H.own,H.inj,H.fv,H.oq,H.fg,H.live,H.oQ,H.tg,H.oR⟩
theorem NB {ke kh:List Nat} {n:Nat} (hn:σ.gU ke kh n=true):n∈kh:=by
 simp only[St.gU,Bool.and_eq_true] at hn
 simpa using hn.1.1
theorem R.gv (r:R B E w0 N σ a w G) (ke kh:List Nat):R B E w0 N (σ.gv ke kh) a w G:=by
 have L:mO (σ.gU ke kh) σ.h (σ.gv ke kh).h:=by
  refine⟨fun n hn=>.inl ?_,fun n hn=>?_⟩
  ·show oH _ _ _ n=_
   rw[GH,if_pos ⟨NB hn,hn⟩]
  ·show oH _ _ _ n=_
   rw[GH,if_neg (by simp[hn])]
 have hu:∀n,σ.gU ke kh n=true->(σ.gv ke kh).used n=true:=by
  intro n hk
  show(Nat.ble aZ n||sY _ _ n)=true
  rw[XY]
  simp[hk,NB hk]
 refine⟨r.defers,r.size,fun s=>?_,fun s n hn=>?_,?_,r.fr,fun n p b hp hb=>?_,fun n hn=>?_⟩
 ·show RA w G _ (sW _ _ _ s) _
  rw[NU]
  split
  ·exact(r.env s).less L
  ·exact Or.inl rfl
 ·have bC:(sW (σ.gU ke kh) σ.env ke s).ref n:=hn
  rw[NU] at bC
  split at bC
  ·exact hu n (ai.yi bC)
  ·exact absurd bC id
 ·exact(r.hr.less L).alk hu
 ·have h0:(σ.gv ke kh).h n≠none:=by rw[hb];simp
  obtain⟨hk,_⟩:=L.ne h0
  have yS:=fun b0 (h1:σ.h n=some b0)=>r.rq n p b0 hp h1
  have aL:oH (σ.gU ke kh) σ.h kh n=some b:=hb
  rw[GH,if_pos ⟨NB hk,hk⟩] at aL
  cases h1:σ.h n with
  |none=>rw[h1] at aL;cases aL
  |some b0=>
   obtain⟨p1,p2,p3,p4,p6,p5⟩:=yS b0 h1
   refine⟨p1,p2,p3,p4,p6,fun gr sz xs Bw=>?_⟩
   rw[h1,Bw] at aL
   cases b0 with
   |box cs=>simp[ak.cG] at aL
   |row aU m' aC ao=>
    simp only[ak.cG,Option.map_some,Option.some.injEq,ak.row.injEq] at aL
    obtain⟨_,rfl,_,_⟩:=aL
    exact p5 aU aC ao rfl
 ·show(Nat.ble aZ n||_)=true
  rw[Nat.ble_eq_true_of_le hn];rfl
end
end Go.Am
end
section
namespace Go.Am
def back (x c n:Nat):Nat:=if n=c then x else n
theorem Rl {x c n:Nat} (hn:n≠c):back x c (kV x c n)=n:=by
 unfold back kV
 by_cases h:n=x
 ·subst h;simp
 ·simp[h,hn]
theorem ajJ {x c n:Nat} (hx:x≠c) (hn:n≠c):kV x c n≠x:=by
 unfold kV
 by_cases h:n=x
 ·simp[h];exact fun e=>hx e.symm
 ·simp[h]
structure lU (x c:Nat) (used:Nat->Bool) (h h':Nat->Option ak):Prop where
 ne:x≠c
 uc:used c=false
 gone:h' x=none
 b:∀n,n≠x->h' n=(h (back x c n)).map (·.aO x c)
section
variable {B:Nat} {E:Ex} {w0 w w':World} {G G':Gh} {N:Nat} {h h':Nat->Option ak} {used:Nat->Bool} {x c:Nat}
variable {P:Program} {T:aA} {a:Act} {σ σ':St} {Q:Exit->Act->World->Prop}
def qK (G:Gh) (x c:Nat):Gh:=⟨G.Im,fun n=>G.g (back x c n)⟩
theorem lU.at (L:lU x c used h h') {n:Nat} (hn:used n=true):h' (kV x c n)=(h n).map (·.aO x c):=by
 have hc:n≠c:=fun e=>by subst e;rw[L.uc] at hn;cases hn
 rw[L.b _ (ajJ L.ne hc),Rl hc]
theorem lU.Bp (L:lU x c used h h') {n:Nat} (hn:used n=true):(qK G x c).g (kV x c n)=G.g n:=by
 have hc:n≠c:=fun e=>by subst e;rw[L.uc] at hn;cases hn
 show G.g (back x c (kV x c n))=_
 rw[Rl hc]
theorem Gb {o:Option ak} (hn:o.map (·.aO x c)≠none):o≠none:=by
 cases o with
 |none=>exact absurd rfl hn
 |some b=>simp
theorem MC {o:Option ak} {gr:Bool} {m:Mode} {sz:Nat} {xs:List (List C)} (hn:o.map (·.aO x c)=some (.row gr m sz xs)):o=some (.row gr m sz xs):=by
 cases o with
 |none=>cases hn
 |some b=>cases b with
  |box cs=>simp[ak.aO] at hn
  |row gr m sz xs=>exact hn
theorem WZ {o:Option ak} {cs:List ae} (hn:o.map (·.aO x c)=some (.box cs)):∃gb,o=some (.box gb)/\cs=gb.map (·.aO x c):=by
 cases o with
 |none=>cases hn
 |some b=>cases b with
  |box gb=>
   simp only[Option.map_some,ak.aO] at hn
   injection hn with hn
   injection hn with hn
   exact⟨gb,rfl,hn.symm⟩
  |row gr m sz xs=>simp[ak.aO] at hn
theorem gJ.aO (L:lU x c used h h') {y:ae} {v:Value} (hr:∀m,y.gu m->used m=true) (hc:gJ w G h y v):gJ w (qK G x c) h' (y.lM x c) v:=by
 cases y with
 |ptr n k sz off=>
  intro hn
  rw[L.at (hr n rfl)] at hn
  rw[L.Bp (hr n rfl)]
  exact hc (Gb hn)
 |sl n sz lo len=>
  intro hn
  rw[L.at (hr n rfl)] at hn
  rw[L.Bp (hr n rfl)]
  exact hc (Gb hn)
 |bj n k au off sz len=>
  intro gr xs hn
  rw[L.at (hr n rfl)] at hn
  rw[L.Bp (hr n rfl)]
  exact hc gr xs (MC hn)
 |cH n k au off sz i=>
  intro gr xs hn
  rw[L.at (hr n rfl)] at hn
  rw[L.Bp (hr n rfl)]
  exact hc gr xs (MC hn)
 |bD xs off j n sz len=>
  obtain⟨b,o,pe,h1,h2,h3,h4,h5⟩:=hc
  obtain⟨u,u1,u2,u3⟩:=h5
  refine⟨b,o,pe,h1,h2,h3,h4,u,u1,u2,fun hn=>?_⟩
  rw[L.at (hr n rfl)] at hn
  rw[L.Bp (hr n rfl)]
  exact u3 (Gb hn)
 |c x=>exact hc
 |nil sz=>exact hc
 |bV xs off=>exact hc
 |fn f bM=>exact hc
 |bg=>exact hc
theorem RC.aO (L:lU x c used h h') {y:ae} {v:Value} (hr:∀m,y.ref m->used m=true) (hc:RC w G h y v):RC w (qK G x c) h' (y.aO x c) v:=by
 cases y with
 |fn f bM=>
  obtain⟨vs,h1,h2,h3⟩:=hc
  refine⟨vs,h1,by simpa using h2,fun j y u hj hu=>?_⟩
  rw[List.getElem?_map] at hj
  cases hc:bM[j]? with
  |none=>rw[hc] at hj;cases hj
  |some c0=>
   rw[hc] at hj
   simp at hj
   subst hj
   exact⟨(h3 j c0 u hc hu).1,(h3 j c0 u hc hu).2.aO L fun m hm=>hr m ⟨c0,List.mem_of_getElem? hc,hm⟩⟩
 |ptr n k sz off=>exact gJ.aO (w:=w) (G:=G) L (y:=.ptr n k sz off) hr hc
 |sl n sz lo len=>exact gJ.aO (w:=w) (G:=G) L (y:=.sl n sz lo len) hr hc
 |bj n k au off sz len=>exact gJ.aO (w:=w) (G:=G) L (y:=.bj n k au off sz len) hr hc
 |cH n k au off sz i=>exact gJ.aO (w:=w) (G:=G) L (y:=.cH n k au off sz i) hr hc
 |bD xs off j n sz len=>exact gJ.aO (w:=w) (G:=G) L (y:=.bD xs off j n sz len) hr hc
 |c x=>exact hc
 |nil sz=>exact hc
 |bV xs off=>exact hc
 |bg=>exact hc
theorem cL.aO (L:lU x c used h h') {cs:List ae} {vs:List Value} (hr:∀y∈cs,∀m,y.ref m->used m=true) (hc:cL w G h cs vs):cL w (qK G x c) h' (cs.map (·.aO x c)) vs:=by
 refine⟨by simpa using hc.1,fun j y u hj hu=>?_⟩
 rw[List.getElem?_map] at hj
 cases dL:cs[j]? with
 |none=>rw[dL] at hj;cases hj
 |some c0=>
  rw[dL] at hj
  simp at hj
  subst hj
  exact⟨(hc.2 j c0 u dL hu).1,(hc.2 j c0 u dL hu).2.aO L (hr c0 (List.mem_of_getElem? dL))⟩
theorem RV.aO (L:lU x c used h h') {ag:Bool} {cs:List ae} {v:Value} (hr:∀y∈cs,∀m,y.ref m->used m=true) (hc:RV w G h ag cs v):RV w (qK G x c) h' ag (cs.map (·.aO x c)) v:=by
 unfold RV at*
 split
 ·rename_i h1
  simp only[h1,if_true] at hc
  obtain⟨vs,e,hv⟩:=hc
  exact⟨vs,e,hv.aO L hr⟩
 ·rename_i h1
  simp only[h1] at hc
  exact cL.aO L hr hc
theorem RA.aO (L:lU x c used h h') {y:ai} {v:Value} (hr:∀m,y.ref m->used m=true) (hc:RA w G h y v):RA w (qK G x c) h' (y.aO x c) v:=by
 cases y with
 |one y=>
  rcases hc with rfl|hc
  ·exact Or.inl rfl
  ·exact Or.inr (RV.aO L (fun z hz m hm=>hr m (by simp at hz;subst hz;exact hm)) hc)
 |agg cs=>exact RV.aO L (fun z hz m hm=>hr m ⟨z,hz,hm⟩) hc
 |aY xs=>
  obtain⟨vs,e,hl,hv⟩:=hc
  refine⟨vs,e,by simpa using hl,fun j y u hj hu=>?_⟩
  rw[List.getElem?_map] at hj
  cases dL:xs[j]? with
  |none=>rw[dL] at hj;cases hj
  |some c0=>
   rw[dL] at hj
   simp at hj
   subst hj
   exact RV.aO L (fun z hz m hm=>hr m ⟨c0,List.mem_of_getElem? dL,z,hz,hm⟩) (hv j c0 u dL hu)
def vh (used:Nat->Bool) (x c:Nat):Nat->Bool:=fun n=>if n=c then used x else if n=x then false else used n
theorem ae.zN (L:lU x c used h h') {y:ae} {m:Nat} (hr:∀m,y.gu m->used m=true) (hm:(y.lM x c).gu m):vh used x c m=true:=by
 have bU:∀n,used n=true->m=kV x c n->vh used x c m=true:=by
  intro n hn e
  subst e
  have hc:n≠c:=fun e=>by subst e;rw[L.uc] at hn;cases hn
  unfold vh kV
  by_cases h1:n=x
  ·subst h1;simp[hn]
  ·simp[h1,hc,hn]
 cases y<;>first|exact absurd hm id|exact bU _ (hr _ rfl) hm
theorem ae.zO (L:lU x c used h h') {y:ae} {m:Nat} (hr:∀m,y.ref m->used m=true) (hm:(y.aO x c).ref m):vh used x c m=true:=by
 cases y with
 |fn f bM=>
  obtain⟨z,hz,hm⟩:=hm
  obtain⟨z0,sL,rfl⟩:=List.mem_map.1 hz
  exact ae.zN L (fun m hm=>hr m ⟨z0,sL,hm⟩) hm
 |ptr n k sz off=>exact ae.zN L (y:=.ptr n k sz off) hr hm
 |sl n sz lo len=>exact ae.zN L (y:=.sl n sz lo len) hr hm
 |bj n k au off sz len=>exact ae.zN L (y:=.bj n k au off sz len) hr hm
 |cH n k au off sz i=>exact ae.zN L (y:=.cH n k au off sz i) hr hm
 |bD xs off j n sz len=>exact ae.zN L (y:=.bD xs off j n sz len) hr hm
 |c x=>exact absurd hm id
 |nil sz=>exact absurd hm id
 |bV xs off=>exact absurd hm id
 |bg=>exact absurd hm id
theorem ai.zO (L:lU x c used h h') {y:ai} {m:Nat} (hr:∀m,y.ref m->used m=true) (hm:(y.aO x c).ref m):vh used x c m=true:=by
 cases y with
 |one y=>exact ae.zO L hr hm
 |agg cs=>
  obtain⟨z,hz,hm⟩:=hm
  obtain⟨z0,sL,rfl⟩:=List.mem_map.1 hz
  exact ae.zO L (fun m hm=>hr m ⟨z0,sL,hm⟩) hm
 |aY xs=>
  obtain⟨p,hp,z,hz,hm⟩:=hm
  obtain⟨p0,hp0,rfl⟩:=List.mem_map.1 hp
  obtain⟨z0,sL,rfl⟩:=List.mem_map.1 hz
  exact ae.zO L (fun m hm=>hr m ⟨p0,hp0,z0,sL,hm⟩) hm
theorem HR.aO (H:HR B E w G h used []) (L:lU x c used h h'):HR B E w (qK G x c) h' (vh used x c) []:=by
 have nx:∀n,h' n≠none->n≠x:=fun n hn e=>by subst e;exact hn L.gone
 have hb:∀n,h' n≠none->h (back x c n)≠none:=fun n hn=>by
  have:=L.b n (nx n hn)
  rw[this] at hn
  exact Gb hn
 have d9:∀{n gr m sz xs},h' n=some (.row gr m sz xs)->h (back x c n)=some (.row gr m sz xs):=by
  intro n gr m sz xs hn
  have:=L.b n (nx n (by rw[hn];simp))
  rw[this] at hn
  exact MC hn
 have tS:∀n n',n≠x->n'≠x->n≠n'->back x c n≠back x c n':=by
  intro n n' h1 h2 h3
  unfold back
  by_cases e1:n=c
  ·by_cases e2:n'=c
   ·omega
   ·simp[e1,e2];omega
  ·by_cases e2:n'=c
   ·simp[e1,e2];omega
   ·simp[e1,e2];omega
 have ub:∀n,n≠x->used (back x c n)=true->vh used x c n=true:=by
  intro n h1 h2
  unfold vh
  unfold back at h2
  by_cases e1:n=c
  ·simp[e1] at h2⊢;exact h2
  ·simp[e1] at h2;simp[e1,h1,h2]
 refine⟨fun n hn=>ub n (nx n hn) (H.gN _ (hb n hn)),fun m cs y n hm hy hr=>?_,fun n cs hn=>?_,fun n gr m sz xs hn=>?_,fun n hn=>H.own _ (hb n hn),
  fun n n' hn bC av=>H.inj _ _ (hb n hn) (hb n' bC) (tS n n' (nx n hn) (nx n' bC) av),H.fv,H.oq,fun n n' gr m sz xs aU m' aC ao hn bC hm bx av=>H.fg _ _ gr m sz xs aU m' aC ao (d9 hn) (d9 bC) hm bx
   (tS n n' (nx n (by rw[hn];simp)) (nx n' (by rw[bC];simp)) av),fun n gr sz xs hn b aL n' bC=>H.live _ gr sz xs (d9 hn) b aL _ (hb n' bC),?_,?_,?_⟩
 ·have BO:=nx m (by rw[hm];simp)
  rw[L.b m BO] at hm
  obtain⟨gb,h0,rfl⟩:=WZ hm
  obtain⟨y0,hy0,rfl⟩:=List.mem_map.1 hy
  exact ae.zO L (fun q hq=>H.fW _ gb y0 q h0 hy0 hq) hr
 ·have ww:=nx n (by rw[hn];simp)
  rw[L.b n ww] at hn
  obtain⟨gb,h0,rfl⟩:=WZ hn
  obtain⟨a1,a2,a3⟩:=H.box _ gb h0
  refine⟨a1,a2,fun j y hj=>?_⟩
  rw[List.getElem?_map] at hj
  cases dL:gb[j]? with
  |none=>rw[dL] at hj;cases hj
  |some y0=>
   rw[dL] at hj
   simp at hj
   subst hj
   obtain⟨v,b1,b2,b3⟩:=a3 j y0 dL
   exact⟨v,b1,b2,b3.aO L fun q hq=>H.fW _ gb y0 q h0 (List.mem_of_getElem? dL) hq⟩
 ·have hr:=H.row _ gr m sz xs (d9 hn)
  refine⟨hr.pos,hr.er,hr.nl,hr.dv,hr.room,?_⟩
  have hm:=hr.mode
  cases m<;>exact hm
 ·intro i pc hi;simp at hi
 ·intro i j pc dd b _ hi;simp at hi
 ·intro i pc n gr m sz xs b hi;simp at hi
theorem R.aO (r:R B E w0 N σ a w G) (hx:σ.aO x c=some σ'):∃G',R B E w0 N σ' a w G':=by
 unfold St.aO at hx
 split at hx
 ·injection hx with hx;subst hx;exact⟨G,r⟩
 ·rename_i av
  split at hx
  ·injection hx with hx;subst hx;exact⟨G,r⟩
  rename_i hxp
  split at hx
  ·cases hx
  ·rename_i hu
   injection hx with hx
   subst hx
   have TV:¬aZ<=c:=fun hc=>by rw[r.wW c hc] at hu;exact hu rfl
   have UD:¬aZ<=x:=fun hc=>hxp (Nat.ble_eq_true_of_le hc)
   have FB:σ.used c=false:=by simpa using hu
   have L:lU x c σ.used σ.h (fun n=>if n=c then(σ.h x).map (·.aO x c) else if n=x then none else(σ.h n).map (·.aO x c)):=by
    refine⟨av,FB,by simp[av],fun n hn=>?_⟩
    unfold back
    by_cases h1:n=c
    ·simp[h1]
    ·simp[h1,hn]
   exact⟨qK G x c,r.defers,r.size,fun s=>(r.env s).aO L (fun m hm=>r.qj s m hm),fun s n hn=>ai.zO L (fun m hm=>r.qj s m hm) hn,r.hr.aO L,r.fr,fun n p b hp hb=>by
    have hn:=E.lt n p hp
    have tY:n≠c:=fun e=>TV (e▸hn)
    have ww:n≠x:=fun e=>UD (e▸hn)
    have aL:(if n=c then(σ.h x).map (·.aO x c) else if n=x then none else(σ.h n).map (·.aO x c))=some b:=hb
    rw[if_neg tY,if_neg ww] at aL
    have hg:(qK G x c).g n=G.g n:=by simp[qK,back,tY]
    rw[hg]
    cases h1:σ.h n with
    |none=>rw[h1] at aL;cases aL
    |some b0=>
     obtain⟨p1,p2,p3,p4,p6,p5⟩:=r.rq n p b0 hp h1
     refine⟨p1,p2,p3,p4,p6,fun gr sz xs Bw=>?_⟩
     rw[h1,Bw] at aL
     cases b0 with
     |box cs=>simp[ak.aO] at aL
     |row aU m' aC ao=>
      simp only[ak.aO,Option.map_some,Option.some.injEq,ak.row.injEq] at aL
      obtain⟨_,rfl,_,_⟩:=aL
      exact p5 aU aC ao rfl,fun n hn=>by
    have tY:n≠c:=fun e=>TV (e▸hn)
    have ww:n≠x:=fun e=>UD (e▸hn)
    show(if n=c then σ.used x else if n=x then false else σ.used n)=true
    rw[if_neg tY,if_neg ww]
    exact r.wW n hn⟩
theorem R.V2 (r:R B E w0 N σ a w G) {m:Mode} {sz:Nat} (bo:0<sz) (hx:σ.ins c (.row true m sz [])=some σ'):
  ∃G',R B E w0 N σ' a w G'/\RC w G' σ'.h (.sl c sz 0 0) (.slice none 0 0):=by
 obtain⟨hn,rfl⟩:=j8 hx
 have Cy:∀b,¬aN b ([]:List (List PC)):=by rintro b ⟨k,j,q,⟨e,he,_⟩,_⟩;simp at he
 have je:gx ([]:List (List PC)):=⟨by rintro k j q ⟨e,he,_⟩;simp at he,by rintro k j q k' j' q' b ⟨e,he,_⟩;simp at he⟩
 have H:=r.hr.insert (w':=w) (n:=c) (blk:=.row true m sz []) (p:=⟨true,0,0,0,[],none⟩) hn (fun _ _=>rfl) (Nat.le_refl _) (fun hf=>by cases hf) (fun cs y q hb=>by cases hb)
  (by
   refine⟨bo,rfl,fun _=>⟨rfl,fun _=>rfl⟩,(fun hf=>by cases hf),(fun hf=>by cases hf),?_⟩
   cases m with
   |aF=>exact fun b hb=>absurd hb (Cy b)
   |aj=>exact⟨fun b hb=>absurd hb (Cy b),je⟩
   |live=>exact⟨fun b hb=>absurd hb (Cy b),je⟩)
  (fun gr m' aC ao hb hm n' aU kR iS gw h0 ia b cz=>absurd cz (Cy b)) (fun gr aC ao hb b cz=>absurd cz (Cy b)) (fun gr m' aC ao hb hm i pc b hi=>by simp at hi)
 refine⟨_,r.step rfl (fun q hq=>oT _ _ hq) (aQ.insert r.hr hn (fun _ _=>rfl)) H r.fr,fun _=>?_⟩
 simp only[bu]
 exact Or.inl ⟨rfl,rfl,rfl,rfl⟩
end
end Go.Am
end
