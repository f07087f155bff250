/- Am22: code as a whole. No condition. -/
import Derived.Test.YtifmggmhdcdgbaaAm21
set_option linter.unusedVariables false
namespace Go.Am
theorem PN (ok:Nat->Bool) (env:Nat->ak):∀(ss:List Nat) (n:Nat),tZ ok env ss n=if n∈ss then(env n).cH ok else .one .bf
 |[],n=>by simp[tZ,uP]
 |s::ss,n=>by
  simp only[tZ,iK,PN ok env ss,List.mem_cons]
  by_cases h:n=s
  ·subst h;simp
  ·simp[h]
theorem Il (ok:Nat->Bool) (h:Nat->Option aq):∀(ss:List Nat) (n:Nat),pO ok h ss n=if n∈ss/\ok n=true then(h n).map (·.cH ok) else none
 |[],n=>by simp[pO,zw]
 |s::ss,n=>by
  have ih:=Il ok h ss n
  simp only[pO,List.mem_cons]
  by_cases hn:n=s
  ·subst hn
   by_cases hk:ok n=true
   ·rw[if_pos hk]
    cases hh:h n with
    |some b=>simp[bC,hk]
    |none=>simp only[ih,hh];simp
   ·rw[if_neg hk,ih];simp[hk]
  ·by_cases hk:ok s=true
   ·rw[if_pos hk]
    cases hh:h s with
    |some b=>simp only[cb _ _ _ _ hn,ih];simp[hn]
    |none=>simp only[ih];simp[hn]
   ·rw[if_neg hk,ih];simp[hn]
theorem YG (ok:Nat->Bool):∀(ss:List Nat) (n:Nat),t7 ok ss n=(decide (n∈ss)&&ok n)
 |[],n=>by simp[t7,Ub]
 |s::ss,n=>by
  have ih:=YG ok ss n
  simp only[t7]
  by_cases hn:n=s
  ·subst hn
   by_cases hk:ok n=true
   ·rw[if_pos hk];simp[bC,hk]
   ·rw[if_neg hk,ih];simp[hk]
  ·by_cases hk:ok s=true
   ·rw[if_pos hk,cb _ _ _ _ hn,ih];simp[hn]
   ·rw[if_neg hk,ih];simp[hn]
theorem ai.aaR {ok:Nat->Bool} {c:ai} {m:Nat} (h:(c.eS ok).g7 m):ok m=true:=by
 cases c<;>simp only[ai.eS] at h<;>first|exact h.elim|skip
 all_goals
  split at h
  ·rename_i hk
   have h':=h
   simp only[ai.g7] at h'
   subst h'
   exact hk
  ·exact h.elim
theorem ai.zo {ok:Nat->Bool} {c:ai} {m:Nat} (h:(c.cH ok).ref m):ok m=true:=by
 cases c with
 |fn f bY=>
  obtain⟨x,hx,h⟩:=h
  obtain⟨y,hy,rfl⟩:=List.mem_map.1 hx
  exact ai.aaR h
 |c x=>exact h.elim
 |nil sz=>exact h.elim
 |cd xs off=>exact h.elim
 |bf=>exact h.elim
 |ptr n k sz off=>
  simp only[ai.cH,ai.eS] at h
  split at h
  ·rename_i hk;have h':m=n:=h;subst h';exact hk
  ·exact h.elim
 |sl n sz lo len=>
  simp only[ai.cH,ai.eS] at h
  split at h
  ·rename_i hk;have h':m=n:=h;subst h';exact hk
  ·exact h.elim
 |bx n k ax off sz len=>
  simp only[ai.cH,ai.eS] at h
  split at h
  ·rename_i hk;have h':m=n:=h;subst h';exact hk
  ·exact h.elim
 |cD n k ax off sz i=>
  simp only[ai.cH,ai.eS] at h
  split at h
  ·rename_i hk;have h':m=n:=h;subst h';exact hk
  ·exact h.elim
section
variable {B:Nat} {E:Ex} {w0 w w':World} {G G':Gh} {N:Nat} {h h':Nat->Option aq} {ok:Nat->Bool}
variable {P:Program} {T:bg} {a:Act} {σ σ':St} {Q:Exit->Act->World->Prop}
structure nR (ok:Nat->Bool) (h h':Nat->Option aq):Prop where
 le:∀n,ok n=true->h' n=(h n).map (·.cH ok)\/h' n=none
 no:∀n,ok n=false->h' n=none
theorem nR.ne (L:nR ok h h') {n:Nat} (hn:h' n≠none):ok n=true/\h n≠none:=by
 cases hk:ok n with
 |false=>exact absurd (L.no n hk) hn
 |true=>
  refine⟨rfl,fun e=>?_⟩
  rcases L.le n hk with h1|h1
  ·rw[e] at h1;exact hn h1
  ·exact hn h1
theorem nR.row (L:nR ok h h') {n:Nat} {gr:Bool} {m:Mode} {sz:Nat} {xs:List (List C)} (hn:h' n=some (.row gr m sz xs)):h n=some (.row gr m sz xs):=by
 obtain⟨hk,h0⟩:=L.ne (n:=n) (by rw[hn];simp)
 rcases L.le n hk with h1|h1
 ·rw[h1] at hn
  cases hh:h n with
  |none=>exact absurd hh h0
  |some b=>cases b with
   |box cs=>rw[hh] at hn;simp[aq.cH] at hn
   |row gr m sz xs=>rw[hh] at hn;simp only[Option.map_some,aq.cH] at hn;exact hn
 ·rw[h1] at hn;cases hn
theorem nR.box (L:nR ok h h') {n:Nat} {cs:List ai} (hn:h' n=some (.box cs)):∃gx,h n=some (.box gx)/\cs=gx.map (·.cH ok):=by
 obtain⟨hk,h0⟩:=L.ne (n:=n) (by rw[hn];simp)
 rcases L.le n hk with h1|h1
 ·rw[h1] at hn
  cases hh:h n with
  |none=>exact absurd hh h0
  |some b=>cases b with
   |box gx=>
    rw[hh] at hn
    simp only[Option.map_some,aq.cH] at hn
    injection hn with hn
    injection hn with hn
    exact⟨gx,rfl,hn.symm⟩
   |row gr m sz xs=>rw[hh] at hn;simp[aq.cH] at hn
 ·rw[h1] at hn;cases hn
theorem iM.less (L:nR ok h h') {c:ai} {v:Value} (hc:iM w G h c v):iM w G h' (c.eS ok) v:=by
 cases c with
 |ptr n k sz off=>
  simp only[ai.eS]
  split
  ·exact fun hn=>hc (L.ne hn).2
  ·trivial
 |sl n sz lo len=>
  simp only[ai.eS]
  split
  ·exact fun hn=>hc (L.ne hn).2
  ·trivial
 |bx n k ax off sz len=>
  simp only[ai.eS]
  split
  ·exact fun gr xs hn=>hc gr xs (L.row hn)
  ·trivial
 |cD n k ax off sz i=>
  simp only[ai.eS]
  split
  ·exact fun gr xs hn=>hc gr xs (L.row hn)
  ·trivial
 |c x=>exact hc
 |nil sz=>exact hc
 |cd xs off=>exact hc
 |fn f bY=>exact hc
 |bf=>exact hc
theorem RC.less (L:nR ok h h') {c:ai} {v:Value} (hc:RC w G h c v):RC w G h' (c.cH ok) v:=by
 cases c with
 |fn f bY=>
  obtain⟨vs,h1,h2,h3⟩:=hc
  refine⟨vs,h1,by simpa using h2,fun j c u hj hu=>?_⟩
  rw[List.getElem?_map] at hj
  cases hc:bY[j]? with
  |none=>rw[hc] at hj;cases hj
  |some c0=>
   rw[hc] at hj
   simp at hj
   subst hj
   exact⟨(h3 j c0 u hc hu).1,(h3 j c0 u hc hu).2.less L⟩
 |ptr n k sz off=>
  have:=iM.less (w:=w) (G:=G) L (c:=.ptr n k sz off) hc
  simp only[ai.cH]
  rw[wO]
  ·exact this
  ·simp only[ai.eS];split<;>rfl
 |sl n sz lo len=>
  have:=iM.less (w:=w) (G:=G) L (c:=.sl n sz lo len) hc
  simp only[ai.cH]
  rw[wO]
  ·exact this
  ·simp only[ai.eS];split<;>rfl
 |bx n k ax off sz len=>
  have:=iM.less (w:=w) (G:=G) L (c:=.bx n k ax off sz len) hc
  simp only[ai.cH]
  rw[wO]
  ·exact this
  ·simp only[ai.eS];split<;>rfl
 |cD n k ax off sz i=>
  have:=iM.less (w:=w) (G:=G) L (c:=.cD n k ax off sz i) hc
  simp only[ai.cH]
  rw[wO]
  ·exact this
  ·simp only[ai.eS];split<;>rfl
 |c x=>exact hc
 |nil sz=>exact hc
 |cd xs off=>exact hc
 |bf=>exact hc
theorem cA.less (L:nR ok h h') {cs:List ai} {vs:List Value} (hc:cA w G h cs vs):cA w G h' (cs.map (·.cH ok)) vs:=by
 refine⟨by simpa using hc.1,fun j c u hj hu=>?_⟩
 rw[List.getElem?_map] at hj
 cases dS:cs[j]? with
 |none=>rw[dS] at hj;cases hj
 |some c0=>
  rw[dS] at hj
  simp at hj
  subst hj
  exact⟨(hc.2 j c0 u dS hu).1,(hc.2 j c0 u dS hu).2.less L⟩
theorem RV.less (L:nR ok h h') {ag:Bool} {cs:List ai} {v:Value} (hc:RV w G h ag cs v):RV w G h' ag (cs.map (·.cH ok)) v:=by
 unfold RV at*
 split
 ·rename_i h1
  simp only[h1,if_true] at hc
  obtain⟨vs,e,hv⟩:=hc
  exact⟨vs,e,hv.less L⟩
 ·rename_i h1
  simp only[h1] at hc
  exact cA.less L hc
theorem RA.less (L:nR ok h h') {x:ak} {v:Value} (hc:RA w G h x v):RA w G h' (x.cH ok) v:=by
 cases x with
 |one c=>
  rcases hc with rfl|hc
  ·exact Or.inl rfl
  ·exact Or.inr (RV.less L hc)
 |agg cs=>exact RV.less L hc
 |bn xs=>
  obtain⟨vs,e,hl,hv⟩:=hc
  refine⟨vs,e,by simpa using hl,fun j x u hj hu=>?_⟩
  rw[List.getElem?_map] at hj
  cases dS:xs[j]? with
  |none=>rw[dS] at hj;cases hj
  |some c0=>
   rw[dS] at hj
   simp at hj
   subst hj
   exact RV.less L (hv j c0 u dS hu)
theorem ak.zo {x:ak} {m:Nat} (h:(x.cH ok).ref m):ok m=true:=by
 cases x with
 |one c=>exact ai.zo h
 |agg cs=>
  obtain⟨c,hc,h⟩:=h
  obtain⟨c0,dS,rfl⟩:=List.mem_map.1 hc
  exact ai.zo h
 |bn xs=>
  obtain⟨x,hx,c,hc,h⟩:=h
  obtain⟨x0,hx0,rfl⟩:=List.mem_map.1 hx
  obtain⟨c0,dS,rfl⟩:=List.mem_map.1 hc
  exact ai.zo h
theorem HR.less {used:Nat->Bool} (H:HR B E w G h used []) (L:nR ok h h'):HR B E w G h' ok []:=by
 refine⟨fun n hn=>(L.ne hn).1,fun m cs c n hm hc hr=>?_,fun n cs hn=>?_,fun n gr m sz xs hn=>H.row n gr m sz xs (L.row hn),fun n hn=>H.own n (L.ne hn).2,fun n n' hn bk=>H.inj n n' (L.ne hn).2 (L.ne bk).2,
  H.fx,H.ox,fun n n' gr m sz xs bh m' aG ar hn bk=>H.fi n n' gr m sz xs bh m' aG ar (L.row hn) (L.row bk),fun n gr sz xs hn b hb n' bk=>H.live n gr sz xs (L.row hn) b hb n' (L.ne bk).2,?_,?_,?_⟩
 ·obtain⟨gx,_,rfl⟩:=L.box hm
  obtain⟨c0,_,rfl⟩:=List.mem_map.1 hc
  exact ai.zo hr
 ·obtain⟨gx,h0,rfl⟩:=L.box hn
  obtain⟨a1,a2,a3⟩:=H.box n gx h0
  refine⟨a1,a2,fun j c hj=>?_⟩
  rw[List.getElem?_map] at hj
  cases dS:gx[j]? with
  |none=>rw[dS] at hj;cases hj
  |some c0=>
   rw[dS] at hj
   simp at hj
   subst hj
   obtain⟨v,b1,b2,b3⟩:=a3 j c0 dS
   exact⟨v,b1,b2,b3.less L⟩
 ·intro i pc hi;simp at hi
 ·intro i j pc c8 b _ hi;simp at hi
 ·intro i pc n gr m sz xs b hi;simp at hi
theorem HR.ala {used used':Nat->Bool} (H:HR B E w G h used []) (hu:∀n,used n=true->used' n=true):HR B E w G h used' []:=
 ⟨fun n hn=>hu n (H.iA n hn),fun m cs c n hm hc hr=>hu n (H.gi m cs c n hm hc hr),H.box,H.row,H.own,H.inj,H.fx,H.ox,H.fi,H.live,H.qa,H.uh,H.qb⟩
theorem Pp {ke kh:List Nat} {n:Nat} (hn:σ.ir ke kh n=true):n∈kh:=by
 simp only[St.ir,Bool.and_eq_true] at hn
 simpa using hn.1.1
theorem R.gP (r:R B E w0 N σ a w G) (ke kh:List Nat):R B E w0 N (σ.gP ke kh) a w G:=by
 have L:nR (σ.ir ke kh) σ.h (σ.gP ke kh).h:=by
  refine⟨fun n hn=>.inl ?_,fun n hn=>?_⟩
  ·show pO _ _ _ n=_
   rw[Il,if_pos ⟨Pp hn,hn⟩]
  ·show pO _ _ _ n=_
   rw[Il,if_neg (by simp[hn])]
 have hu:∀n,σ.ir ke kh n=true->(σ.gP ke kh).used n=true:=by
  intro n hk
  show(Nat.ble aF n||t7 _ _ n)=true
  rw[YG]
  simp[hk,Pp hk]
 refine⟨r.defers,r.size,fun s=>?_,fun s n hn=>?_,?_,r.fr,fun n p b hp hb=>?_,fun n hn=>?_⟩
 ·show RA w G _ (tZ _ _ _ s) _
  rw[PN]
  split
  ·exact(r.env s).less L
  ·exact Or.inl rfl
 ·have bk:(tZ (σ.ir ke kh) σ.env ke s).ref n:=hn
  rw[PN] at bk
  split at bk
  ·exact hu n (ak.zo bk)
  ·exact absurd bk id
 ·exact(r.hr.less L).ala hu
 ·have h0:(σ.gP ke kh).h n≠none:=by rw[hb];simp
  obtain⟨hk,_⟩:=L.ne h0
  have vf:=fun b0 (h1:σ.h n=some b0)=>r.pK n p b0 hp h1
  have aR:pO (σ.ir ke kh) σ.h kh n=some b:=hb
  rw[Il,if_pos ⟨Pp hk,hk⟩] at aR
  cases h1:σ.h n with
  |none=>rw[h1] at aR;cases aR
  |some b0=>
   obtain⟨p1,p2,p3,p4,p6,p5⟩:=vf b0 h1
   refine⟨p1,p2,p3,p4,p6,fun gr sz xs CH=>?_⟩
   rw[h1,CH] at aR
   cases b0 with
   |box cs=>simp[aq.cH] at aR
   |row bh m' aG ar=>
    simp only[aq.cH,Option.map_some,Option.some.injEq,aq.row.injEq] at aR
    obtain⟨_,rfl,_,_⟩:=aR
    exact p5 bh aG ar rfl
 ·show(Nat.ble aF n||_)=true
  rw[Nat.ble_eq_true_of_le hn];rfl
end
end Go.Am
