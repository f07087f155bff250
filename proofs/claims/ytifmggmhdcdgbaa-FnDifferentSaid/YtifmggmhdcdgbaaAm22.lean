/- Am22: code as a whole. No condition. -/
import Derived.Test.YtifmggmhdcdgbaaAm21
set_option linter.unusedVariables false
namespace Go.Am
theorem R4 (ok:Nat->Bool) (env:Nat->aj):∀(ss:List Nat) (n:Nat),u9 ok env ss n=if n∈ss then(env n).cI ok else .one .bh
 |[],n=>by simp[u9,vZ]
 |s::ss,n=>by
  simp only[u9,jg,R4 ok env ss,List.mem_cons]
  by_cases h:n=s
  ·subst h;simp
  ·simp[h]
theorem KA (ok:Nat->Bool) (h:Nat->Option ar):∀(ss:List Nat) (n:Nat),qy ok h ss n=if n∈ss/\ok n=true then(h n).map (·.cI ok) else none
 |[],n=>by simp[qy,An]
 |s::ss,n=>by
  have ih:=KA ok h ss n
  simp only[qy,List.mem_cons]
  by_cases hn:n=s
  ·subst hn
   by_cases hk:ok n=true
   ·rw[if_pos hk]
    cases hh:h n with
    |some b=>simp[bA,hk]
    |none=>simp only[ih,hh];simp
   ·rw[if_neg hk,ih];simp[hk]
  ·by_cases hk:ok s=true
   ·rw[if_pos hk]
    cases hh:h s with
    |some b=>simp only[bZ _ _ _ _ hn,ih];simp[hn]
    |none=>simp only[ih];simp[hn]
   ·rw[if_neg hk,ih];simp[hn]
theorem aa9 (ok:Nat->Bool):∀(ss:List Nat) (n:Nat),vb ok ss n=(decide (n∈ss)&&ok n)
 |[],n=>by simp[vb,WH]
 |s::ss,n=>by
  have ih:=aa9 ok ss n
  simp only[vb]
  by_cases hn:n=s
  ·subst hn
   by_cases hk:ok n=true
   ·rw[if_pos hk];simp[bA,hk]
   ·rw[if_neg hk,ih];simp[hk]
  ·by_cases hk:ok s=true
   ·rw[if_pos hk,bZ _ _ _ _ hn,ih];simp[hn]
   ·rw[if_neg hk,ih];simp[hn]
theorem ai.adC {ok:Nat->Bool} {c:ai} {m:Nat} (h:(c.e9 ok).ik m):ok m=true:=by
 cases c<;>simp only[ai.e9] at h<;>first|exact h.elim|skip
 all_goals
  split at h
  ·rename_i hk
   have h':=h
   simp only[ai.ik] at h'
   subst h'
   exact hk
  ·exact h.elim
theorem ai.Af {ok:Nat->Bool} {c:ai} {m:Nat} (h:(c.cI ok).ref m):ok m=true:=by
 cases c with
 |fn f bW=>
  obtain⟨x,hx,h⟩:=h
  obtain⟨y,hy,rfl⟩:=List.mem_map.1 hx
  exact ai.adC h
 |c x=>exact h.elim
 |nil sz=>exact h.elim
 |ca xs off=>exact h.elim
 |bh=>exact h.elim
 |ptr n k sz off=>
  simp only[ai.cI,ai.e9] at h
  split at h
  ·rename_i hk;have h':m=n:=h;subst h';exact hk
  ·exact h.elim
 |sl n sz lo len=>
  simp only[ai.cI,ai.e9] at h
  split at h
  ·rename_i hk;have h':m=n:=h;subst h';exact hk
  ·exact h.elim
 |bx n k az off sz len=>
  simp only[ai.cI,ai.e9] at h
  split at h
  ·rename_i hk;have h':m=n:=h;subst h';exact hk
  ·exact h.elim
 |cD n k az off sz i=>
  simp only[ai.cI,ai.e9] at h
  split at h
  ·rename_i hk;have h':m=n:=h;subst h';exact hk
  ·exact h.elim
section
variable {B:Nat} {E:Ex} {w0 w w':World} {G G':Gh} {N:Nat} {h h':Nat->Option ar} {ok:Nat->Bool}
variable {P:Program} {T:bj} {a:Act} {σ σ':St} {Q:Exit->Act->World->Prop}
structure oD (ok:Nat->Bool) (h h':Nat->Option ar):Prop where
 le:∀n,ok n=true->h' n=(h n).map (·.cI ok)\/h' n=none
 no:∀n,ok n=false->h' n=none
theorem oD.ne (L:oD ok h h') {n:Nat} (hn:h' n≠none):ok n=true/\h n≠none:=by
 cases hk:ok n with
 |false=>exact absurd (L.no n hk) hn
 |true=>
  refine⟨rfl,fun e=>?_⟩
  rcases L.le n hk with h1|h1
  ·rw[e] at h1;exact hn h1
  ·exact hn h1
theorem oD.row (L:oD ok h h') {n:Nat} {gr:Bool} {m:Mode} {sz:Nat} {xs:List (List C)} (hn:h' n=some (.row gr m sz xs)):h n=some (.row gr m sz xs):=by
 obtain⟨hk,h0⟩:=L.ne (n:=n) (by rw[hn];simp)
 rcases L.le n hk with h1|h1
 ·rw[h1] at hn
  cases hh:h n with
  |none=>exact absurd hh h0
  |some b=>cases b with
   |box cs=>rw[hh] at hn;simp[ar.cI] at hn
   |row gr m sz xs=>rw[hh] at hn;simp only[Option.map_some,ar.cI] at hn;exact hn
 ·rw[h1] at hn;cases hn
theorem oD.box (L:oD ok h h') {n:Nat} {cs:List ai} (hn:h' n=some (.box cs)):∃gJ,h n=some (.box gJ)/\cs=gJ.map (·.cI ok):=by
 obtain⟨hk,h0⟩:=L.ne (n:=n) (by rw[hn];simp)
 rcases L.le n hk with h1|h1
 ·rw[h1] at hn
  cases hh:h n with
  |none=>exact absurd hh h0
  |some b=>cases b with
   |box gJ=>
    rw[hh] at hn
    simp only[Option.map_some,ar.cI] at hn
    injection hn with hn
    injection hn with hn
    exact⟨gJ,rfl,hn.symm⟩
   |row gr m sz xs=>rw[hh] at hn;simp[ar.cI] at hn
 ·rw[h1] at hn;cases hn
theorem ji.less (L:oD ok h h') {c:ai} {v:Value} (hc:ji w G h c v):ji w G h' (c.e9 ok) v:=by
 cases c with
 |ptr n k sz off=>
  simp only[ai.e9]
  split
  ·exact fun hn=>hc (L.ne hn).2
  ·trivial
 |sl n sz lo len=>
  simp only[ai.e9]
  split
  ·exact fun hn=>hc (L.ne hn).2
  ·trivial
 |bx n k az off sz len=>
  simp only[ai.e9]
  split
  ·exact fun gr xs hn=>hc gr xs (L.row hn)
  ·trivial
 |cD n k az off sz i=>
  simp only[ai.e9]
  split
  ·exact fun gr xs hn=>hc gr xs (L.row hn)
  ·trivial
 |c x=>exact hc
 |nil sz=>exact hc
 |ca xs off=>exact hc
 |fn f bW=>exact hc
 |bh=>exact hc
theorem RC.less (L:oD ok h h') {c:ai} {v:Value} (hc:RC w G h c v):RC w G h' (c.cI ok) v:=by
 cases c with
 |fn f bW=>
  obtain⟨vs,h1,h2,h3⟩:=hc
  refine⟨vs,h1,by simpa using h2,fun j c u hj hu=>?_⟩
  rw[List.getElem?_map] at hj
  cases hc:bW[j]? with
  |none=>rw[hc] at hj;cases hj
  |some c0=>
   rw[hc] at hj
   simp at hj
   subst hj
   exact⟨(h3 j c0 u hc hu).1,(h3 j c0 u hc hu).2.less L⟩
 |ptr n k sz off=>
  have:=ji.less (w:=w) (G:=G) L (c:=.ptr n k sz off) hc
  simp only[ai.cI]
  rw[xU]
  ·exact this
  ·simp only[ai.e9];split<;>rfl
 |sl n sz lo len=>
  have:=ji.less (w:=w) (G:=G) L (c:=.sl n sz lo len) hc
  simp only[ai.cI]
  rw[xU]
  ·exact this
  ·simp only[ai.e9];split<;>rfl
 |bx n k az off sz len=>
  have:=ji.less (w:=w) (G:=G) L (c:=.bx n k az off sz len) hc
  simp only[ai.cI]
  rw[xU]
  ·exact this
  ·simp only[ai.e9];split<;>rfl
 |cD n k az off sz i=>
  have:=ji.less (w:=w) (G:=G) L (c:=.cD n k az off sz i) hc
  simp only[ai.cI]
  rw[xU]
  ·exact this
  ·simp only[ai.e9];split<;>rfl
 |c x=>exact hc
 |nil sz=>exact hc
 |ca xs off=>exact hc
 |bh=>exact hc
theorem cA.less (L:oD ok h h') {cs:List ai} {vs:List Value} (hc:cA w G h cs vs):cA w G h' (cs.map (·.cI ok)) vs:=by
 refine⟨by simpa using hc.1,fun j c u hj hu=>?_⟩
 rw[List.getElem?_map] at hj
 cases dY:cs[j]? with
 |none=>rw[dY] at hj;cases hj
 |some c0=>
  rw[dY] at hj
  simp at hj
  subst hj
  exact⟨(hc.2 j c0 u dY hu).1,(hc.2 j c0 u dY hu).2.less L⟩
theorem RV.less (L:oD ok h h') {ag:Bool} {cs:List ai} {v:Value} (hc:RV w G h ag cs v):RV w G h' ag (cs.map (·.cI ok)) v:=by
 unfold RV at*
 split
 ·rename_i h1
  simp only[h1,if_true] at hc
  obtain⟨vs,e,hv⟩:=hc
  exact⟨vs,e,hv.less L⟩
 ·rename_i h1
  simp only[h1] at hc
  exact cA.less L hc
theorem RA.less (L:oD ok h h') {x:aj} {v:Value} (hc:RA w G h x v):RA w G h' (x.cI ok) v:=by
 cases x with
 |one c=>
  rcases hc with rfl|hc
  ·exact Or.inl rfl
  ·exact Or.inr (RV.less L hc)
 |agg cs=>exact RV.less L hc
 |bn xs=>
  obtain⟨vs,e,hl,hv⟩:=hc
  refine⟨vs,e,by simpa using hl,fun j x u hj hu=>?_⟩
  rw[List.getElem?_map] at hj
  cases dY:xs[j]? with
  |none=>rw[dY] at hj;cases hj
  |some c0=>
   rw[dY] at hj
   simp at hj
   subst hj
   exact RV.less L (hv j c0 u dY hu)
theorem aj.Af {x:aj} {m:Nat} (h:(x.cI ok).ref m):ok m=true:=by
 cases x with
 |one c=>exact ai.Af h
 |agg cs=>
  obtain⟨c,hc,h⟩:=h
  obtain⟨c0,dY,rfl⟩:=List.mem_map.1 hc
  exact ai.Af h
 |bn xs=>
  obtain⟨x,hx,c,hc,h⟩:=h
  obtain⟨x0,hx0,rfl⟩:=List.mem_map.1 hx
  obtain⟨c0,dY,rfl⟩:=List.mem_map.1 hc
  exact ai.Af h
theorem HR.less {used:Nat->Bool} (H:HR B E w G h used []) (L:oD ok h h'):HR B E w G h' ok []:=by
 refine⟨fun n hn=>(L.ne hn).1,fun m cs c n hm hc hr=>?_,fun n cs hn=>?_,fun n gr m sz xs hn=>H.row n gr m sz xs (L.row hn),fun n hn=>H.own n (L.ne hn).2,fun n n' hn bm=>H.inj n n' (L.ne hn).2 (L.ne bm).2,
  H.fI,H.oT,fun n n' gr m sz xs bk m' aK av hn bm=>H.fv n n' gr m sz xs bk m' aK av (L.row hn) (L.row bm),fun n gr sz xs hn b hb n' bm=>H.live n gr sz xs (L.row hn) b hb n' (L.ne bm).2,?_,?_,?_⟩
 ·obtain⟨gJ,_,rfl⟩:=L.box hm
  obtain⟨c0,_,rfl⟩:=List.mem_map.1 hc
  exact ai.Af hr
 ·obtain⟨gJ,h0,rfl⟩:=L.box hn
  obtain⟨a1,a2,a3⟩:=H.box n gJ h0
  refine⟨a1,a2,fun j c hj=>?_⟩
  rw[List.getElem?_map] at hj
  cases dY:gJ[j]? with
  |none=>rw[dY] at hj;cases hj
  |some c0=>
   rw[dY] at hj
   simp at hj
   subst hj
   obtain⟨v,b1,b2,b3⟩:=a3 j c0 dY
   exact⟨v,b1,b2,b3.less L⟩
 ·intro i pc hi;simp at hi
 ·intro i j pc c6 b _ hi;simp at hi
 ·intro i pc n gr m sz xs b hi;simp at hi
theorem HR.aoF {used used':Nat->Bool} (H:HR B E w G h used []) (hu:∀n,used n=true->used' n=true):HR B E w G h used' []:=
 ⟨fun n hn=>hu n (H.iS n hn),fun m cs c n hm hc hr=>hu n (H.gy m cs c n hm hc hr),H.box,H.row,H.own,H.inj,H.fI,H.oT,H.fv,H.live,H.qG,H.vo,H.qH⟩
theorem Rz {ke kh:List Nat} {n:Nat} (hn:σ.iK ke kh n=true):n∈kh:=by
 simp only[St.iK,Bool.and_eq_true] at hn
 simpa using hn.1.1
theorem R.gY (r:R B E w0 N σ a w G) (ke kh:List Nat):R B E w0 N (σ.gY ke kh) a w G:=by
 have L:oD (σ.iK ke kh) σ.h (σ.gY ke kh).h:=by
  refine⟨fun n hn=>.inl ?_,fun n hn=>?_⟩
  ·show qy _ _ _ n=_
   rw[KA,if_pos ⟨Rz hn,hn⟩]
  ·show qy _ _ _ n=_
   rw[KA,if_neg (by simp[hn])]
 have hu:∀n,σ.iK ke kh n=true->(σ.gY ke kh).used n=true:=by
  intro n hk
  show(Nat.ble aH n||vb _ _ n)=true
  rw[aa9]
  simp[hk,Rz hk]
 refine⟨r.defers,r.size,fun s=>?_,fun s n hn=>?_,?_,r.fr,fun n p b hp hb=>?_,fun n hn=>?_⟩
 ·show RA w G _ (u9 _ _ _ s) _
  rw[R4]
  split
  ·exact(r.env s).less L
  ·exact Or.inl rfl
 ·have bm:(u9 (σ.iK ke kh) σ.env ke s).ref n:=hn
  rw[R4] at bm
  split at bm
  ·exact hu n (aj.Af bm)
  ·exact absurd bm id
 ·exact(r.hr.less L).aoF hu
 ·have h0:(σ.gY ke kh).h n≠none:=by rw[hb];simp
  obtain⟨hk,_⟩:=L.ne h0
  have wB:=fun b0 (h1:σ.h n=some b0)=>r.qv n p b0 hp h1
  have aT:qy (σ.iK ke kh) σ.h kh n=some b:=hb
  rw[KA,if_pos ⟨Rz hk,hk⟩] at aT
  cases h1:σ.h n with
  |none=>rw[h1] at aT;cases aT
  |some b0=>
   obtain⟨p1,p2,p3,p4,p6,p5⟩:=wB b0 h1
   refine⟨p1,p2,p3,p4,p6,fun gr sz xs DI=>?_⟩
   rw[h1,DI] at aT
   cases b0 with
   |box cs=>simp[ar.cI] at aT
   |row bk m' aK av=>
    simp only[ar.cI,Option.map_some,Option.some.injEq,ar.row.injEq] at aT
    obtain⟨_,rfl,_,_⟩:=aT
    exact p5 bk aK av rfl
 ·show(Nat.ble aH n||_)=true
  rw[Nat.ble_eq_true_of_le hn];rfl
end
end Go.Am
