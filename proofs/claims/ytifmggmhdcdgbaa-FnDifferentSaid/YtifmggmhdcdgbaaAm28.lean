/- Am28: functions that change lists of their arguments: what is said of them, and how it follows from their code. No condition. -/
import Derived.Test.YtifmggmhdcdgbaaAm27
set_option linter.unusedVariables false
namespace Go.Am
def gd:Nat->List (Option Mode)->List C->List ai
 |c,some _::fs,.list sz xs::cs=>.sl (aH+c) sz 0 xs.length::gd (c+1) fs cs
 |c,some _::fs,x::cs=>.bh::gd (c+1) fs cs
 |c,none::fs,x::cs=>.c x::gd c fs cs
 |c,[],cs=>cs.map .c
 |c,_::_,[]=>[]
def r9 (c:Nat) (s:List (Option Mode)):Dv->aj
 |(.one,xs)=>match gd c s xs with
  |[x]=>.one x
  |_=>.one .bh
 |(.agg,xs)=>.agg (gd c s xs)
 |(.ptr,xs)=>.one (.ca xs 0)
def lH:Nat->Nat->be->List Dv->(Nat->aj)
 |_,_,_,[]=>vZ
 |k,c,[],d::ds=>aw (lH (k+1) c [] ds) k (r9 c [] d)
 |k,c,s::sig,d::ds=>aw (lH (k+1) (c+(dO s d.2).length) sig ds) k (r9 c s d)
def mB:Mode×C->Option ar
 |(m,.list sz xs)=>some (.row false m sz xs)
 |_=>none
def Bi (sig:be) (ds:List Dv):St:=
 {env:=lH 0 0 sig ds
  h:=fun n=>if aH<=n then((eg sig (ds.map (·.2)))[n - aH]?).bind mB else none
  used:=fun n=>Nat.ble aH n}
def St.jw (σ:St):St:={σ with h:=fun n=>if aH<=n then none else σ.h n}
def B4 (σ:St) (q:Nat) (x:Mode×C):Option C:=
 match x.2,σ.h (aH+q) with
 |.list sz xs,some (.row _ m' aK av)=>if m'=x.1/\aK=sz/\av.length=xs.length/\sq x.1 av=true/\av.map (fun e=>e.map C.qc)=xs.map (fun e=>e.map C.qc) then some (.list sz av) else none
 |_,_=>none
def w9 (σ:St):Nat->List (Mode×C)->Option (List C)
 |_,[]=>some []
 |q,x::l=>match B4 σ q x,w9 σ (q+1) l with
  |some y,some ys=>some (y::ys)
  |_,_=>none
def St.Ce (σ:St) (ms:List bG) (fl:List (Mode×C)):Option (List Dv×List C):=
 match σ.jw.tF ms,w9 σ 0 fl with
 |some rs,some ew=>some (rs,ew)
 |_,_=>none
def KE (T:bj) (mc:kY) (aE:List bG) (sig:be) (ds:List Dv):Option (List Dv×List C):=
 match dI T mc (Bi sig ds) with
 |some (.fD σ)=>σ.Ce aE (eg sig (ds.map (·.2)))
 |some (.ret σ)=>σ.Ce aE (eg sig (ds.map (·.2)))
 |_=>none
section
variable {B:Nat} {E:Ex} {w0 w w':World} {G G':Gh} {N:Nat} {h h':Nat->Option ar} {used:Nat->Bool}
variable {P:Program} {T:bj} {a:Act} {σ σ':St} {Q:Exit->Act->World->Prop}
def o7:PC->PB
 |.list _ a cap []=>⟨true,0,0,cap,[],a⟩
 |.list _ (some a) cap (e::xs)=>⟨false,a.block,a.off,cap,e::xs,none⟩
 |_=>default
theorem E1 (sz:Nat) (a:Option Addr) (cap:Nat):o7 (.list sz a cap [])=⟨true,0,0,cap,[],a⟩:=by
 cases a<;>rfl
theorem ze {sz b o cap:Nat} {xs:List (List PC)} (h:xs≠[]):o7 (.list sz (some (ad b o)) cap xs)=⟨false,b,o,cap,xs,none⟩:=by
 cases xs with
 |nil=>exact absurd rfl h
 |cons e xs=>rfl
theorem Good.cases {w:World} {sz cap:Nat} {a:Option Addr} {xs:List (List PC)} (h:Good w (.list sz a cap xs)):xs=[]\/(xs≠[]/\xs.length<=cap/\∃b o,a=some (ad b o)):=by
 cases h with
 |nil _ _ _ h=>exact .inl rfl
 |cons _ b o _ _ h1 h2=>exact .inr ⟨h1,h2,b,o,rfl⟩
def ym (fl:List (Mode×PC)):Ex:=
 ⟨fun b=>∃x∈fl,aP b x.2,fun n=>if aH<=n then(fl[n - aH]?).map fun x=>o7 x.2 else none,fun n p h=>(by
  by_cases hn:aH<=n
  ·exact hn
  ·rw[if_neg hn] at h;cases h),fun _=>True⟩
def nK (w:World) (fl:List (Mode×PC)):Gh:=
 ⟨fun b=>b<w.heap.size/\¬∃x∈fl,aP b x.2,fun n=>match fl[n - aH]? with|some x=>o7 x.2|none=>default⟩
def mM (fl:List (Mode×PC)):Nat->Option ar:=fun n=>if aH<=n then((fl.map fun x=>(x.1,x.2.er))[n - aH]?).bind mB else none
theorem pL {fl:List (Mode×PC)} {n:Nat} {blk:ar} (hn:mM fl n=some blk):aH<=n/\∃m sz a cap xs,fl[n - aH]? =some (m,.list sz a cap xs)/\blk=.row false m sz (xs.map fun e=>e.map PC.er):=by
 unfold mM at hn
 split at hn
 ·rename_i hp
  refine⟨hp,?_⟩
  rw[List.getElem?_map] at hn
  cases hf:fl[n - aH]? with
  |none=>rw[hf] at hn;cases hn
  |some x=>
   rw[hf] at hn
   obtain⟨m,pc⟩:=x
   cases pc with
   |int k i=>simp[PC.er,mB] at hn
   |bool b=>simp[PC.er,mB] at hn
   |list sz a cap xs=>
    simp[PC.dz,mB] at hn
    exact⟨m,sz,a,cap,xs,rfl,hn.symm⟩
 ·cases hn
theorem jh.FG (b o sz cap:Nat) (xs:List (List PC)) (hc:cap≠0):jh b (.list sz (some (ad b o)) cap xs):=.inr ⟨_,_,_,_,rfl,hc⟩
theorem jh.row {b sz:Nat} {a:Option Addr} {cap:Nat} {xs:List (List PC)} (h:aS b xs):jh b (.list sz a cap xs):=by
 obtain⟨k,j,c,hk,hc⟩:=h
 exact .inl (.there _ _ _ _ k j c hk hc)
theorem Sep.row {sz:Nat} {a:Option Addr} {cap:Nat} {xs:List (List PC)} (h:Sep (.list sz a cap xs)):g7 xs:=by
 cases h with
 |list _ _ _ _ h1 h2 h3=>exact⟨h1,h3⟩
theorem Good.rowAt {sz b o cap:Nat} {xs:List (List PC)} (h:Good w (.list sz (some (ad b o)) cap xs)):oF w b o sz xs:=by
 generalize hq:PC.list sz (some (ad b o)) cap xs=q at h
 cases h with
 |int k n=>cases hq
 |bool b=>cases hq
 |nil aK a sd h0=>
  injection hq with h1 h2 h3 h4
  subst h4
  exact⟨by simp,by rintro k j c ⟨e,he,_⟩;simp at he,by rintro k j c ⟨e,he,_⟩;simp at he⟩
 |cons aK b' o' sd av h1 h2 h3 h4 h5 h6=>
  injection hq with e1 e2 e3 e4
  injection e2 with e2
  obtain⟨rfl,rfl⟩:=nz e2
  subst e1 e3 e4
  exact⟨h4,h5,h6⟩
theorem HR.Pq {fl:List (Mode×PC)} (hg:∀x∈fl,Good w x.2) (fF:∀x∈fl,xS w x.1 x.2) (oL:fl.Pairwise fun x y=>∀b,aP b x.2->¬aP b y.2):
  HR w.heap.size (ym fl) w (nK w fl) (mM fl) (fun n=>Nat.ble aH n) []:=by
 have mI:∀{i j:Nat} {x y:Mode×PC},fl[i]? =some x->fl[j]? =some y->i≠j->∀b,aP b x.2->¬aP b y.2:=by
  intro i j x y hi hj j3 b hb aT
  obtain⟨li,ei⟩:=List.getElem?_eq_some_iff.1 hi
  obtain⟨lj,ej⟩:=List.getElem?_eq_some_iff.1 hj
  rw[List.pairwise_iff_getElem] at oL
  subst ei
  subst ej
  rcases Nat.lt_or_gt_of_ne j3 with h|h
  ·exact oL i j li lj h b hb aT
  ·exact oL j i lj li h b aT hb
 have gg:∀{n:Nat} {x:Mode×PC},fl[n - aH]? =some x->(nK w fl).g n=o7 x.2:=by intro n x h;simp only[nK,h]
 have FG:∀{x:Mode×PC},x∈fl->(o7 x.2).nl=false->aP (o7 x.2).b x.2:=by
  intro x hx hl
  obtain⟨sz,a,cap,xs,e,_,_,_⟩:=(fF x hx).dD
  have yH:=hg x hx
  rw[e] at hl yH⊢
  rcases yH.cases with rfl|⟨ax,_,b,o,rfl⟩
  ·rw[E1] at hl;cases hl
  ·rw[ze ax];exact .here _ _ _ _ ax
 have R8:∀{x:Mode×PC},x∈fl->∀b,aS b (o7 x.2).px->aP b x.2:=by
  intro x hx b hb
  obtain⟨sz,a,cap,xs,e,_,_,_⟩:=(fF x hx).dD
  have yH:=hg x hx
  rw[e] at hb yH⊢
  rcases yH.cases with rfl|⟨ax,_,b,o,rfl⟩
  ·rw[E1] at hb
   obtain⟨k,j,c,⟨e,he,_⟩,_⟩:=hb
   simp at he
  ·rw[ze ax] at hb
   obtain⟨k,j,c,hk,hc⟩:=hb
   exact .there _ _ _ _ k j c hk hc
 have sub:∀{n n':Nat},aH<=n->aH<=n'->n≠n'->n - aH≠n' - aH:=by intro n n' h1 h2 h3;omega
 refine⟨fun n hn=>?_,fun m cs c n hm=>?_,fun n cs hn=>?_,fun n gr m sz xs hn=>?_,fun n hn hl=>?_,fun n n' hn bm ax hl dt=>?_,fun b hb=>hb.1,fun b _=>.inr (.inr trivial),fun n n' gr m sz xs bk m' aK av hn bm _ _ ax b hb=>?_,
  fun n gr sz xs hn b hb n' bm dt=>?_,(by intro i pc hi;simp at hi),(by intro i j pc c6 b _ hi;simp at hi),(by intro i pc n gr m sz xs b hi;simp at hi)⟩
 ·cases hh:mM fl n with
  |none=>exact absurd hh hn
  |some b=>exact Nat.ble_eq_true_of_le (pL hh).1
 ·obtain⟨_,m',sz,a,cap,xs,_,e⟩:=pL hm;cases e
 ·obtain⟨_,m',sz,a,cap,xs,_,e⟩:=pL hn;cases e
 ·obtain⟨hp,m',aK,a,cap,av,hf,e⟩:=pL hn
  injection e with e1 e2 e3 e4
  subst e1 e2 e3 e4
  have hx:(m,PC.list sz a cap av)∈fl:=List.mem_of_getElem? hf
  have ok:=fF _ hx
  have eD:=hg _ hx
  obtain⟨kc,a2,Ml,g0,e,eE,nM,wk⟩:=ok.dD
  injection e with e1 e2 e3 e4
  subst e1 e2 e3 e4
  rw[gg hf]
  have R9:∀b,aS b av->aP b (PC.list sz a cap av):=fun b ⟨k,j,c,hk,hc⟩=>.there _ _ _ _ k j c hk hc
  have gD:CS w.heap.size (ym fl) w (nK w fl) av m:=by
   have j4:=Sep.row ok.sep
   cases m with
   |aA=>cases wk
   |ab=>exact⟨fun b hb=>absurd hb (Ci wk b),j4⟩
   |live=>exact⟨fun b hb=>⟨fun hi=>hi.2 ⟨_,hx,R9 b hb⟩,ok.un b (R9 b hb),.inr ⟨_,hx,R9 b hb⟩⟩,j4⟩
  rcases eD.cases with rfl|⟨ax,jZ,b,o,rfl⟩
  ·rw[E1]
   exact⟨eE,rfl,fun _=>⟨rfl,fun h=>by cases h⟩,(fun h=>by cases h),(fun h=>by cases h),gD⟩
  ·rw[ze ax]
   exact⟨eE,rfl,(fun h=>by cases h),fun _=>⟨ok.un b (.here _ _ _ _ ax),Good.rowAt eD,jZ⟩,(fun _ h=>by cases h),gD⟩
 ·cases hh:mM fl n with
  |none=>exact absurd hh hn
  |some blk=>
   obtain⟨hp,m',aK,a,cap,av,hf,e⟩:=pL hh
   have hx:(m',PC.list aK a cap av)∈fl:=List.mem_of_getElem? hf
   rw[gg hf] at hl⊢
   have ht:=FG hx hl
   exact⟨fun hi=>hi.2 ⟨_,hx,ht⟩,.inr ⟨_,hx,ht⟩,((fF _ hx).un _ ht).lt⟩
 ·cases hh:mM fl n with
  |none=>exact absurd hh hn
  |some blk=>
   cases DP:mM fl n' with
   |none=>exact absurd DP bm
   |some adp=>
    obtain⟨hp,m1,xx,a1,Mk,vr,hf,_⟩:=pL hh
    obtain⟨bd,m2,kc,a2,Ml,g0,j0,_⟩:=pL DP
    rw[gg hf] at hl⊢
    rw[gg j0] at dt⊢
    intro he
    exact mI hf j0 (sub hp bd ax) _ (FG (List.mem_of_getElem? hf) hl) (he▸FG (List.mem_of_getElem? j0) dt)
 ·obtain⟨hp,m1,xx,a1,Mk,vr,hf,_⟩:=pL hn
  obtain⟨bd,m2,kc,a2,Ml,g0,j0,_⟩:=pL bm
  rw[gg hf] at hb
  rw[gg j0]
  exact fun aT=>mI hf j0 (sub hp bd ax) b (R8 (List.mem_of_getElem? hf) b hb) (R8 (List.mem_of_getElem? j0) b aT)
 ·obtain⟨hp,m1,xx,a1,Mk,vr,hf,_⟩:=pL hn
  rw[gg hf] at hb
  cases DP:mM fl n' with
  |none=>exact absurd DP bm
  |some adp=>
   obtain⟨bd,m2,kc,a2,Ml,g0,j0,_⟩:=pL DP
   rw[gg j0] at dt⊢
   rintro rfl
   by_cases ax:n=n'
   ·subst ax
    rw[hf] at j0
    injection j0 with j0
    injection j0 with _ j0
    injection j0 with q1 q2 q3 q4
    subst q1 q2 q3 q4
    have hm:=List.mem_of_getElem? hf
    obtain⟨sz,a,cap,xs,e,_,nM,_⟩:=(fF _ hm).dD
    have yH:=hg _ hm
    injection e with e1 e2 e3 e4
    subst e1 e2 e3 e4
    rcases yH.cases with rfl|⟨ax,_,b,o,rfl⟩
    ·rw[E1] at dt;cases dt
    ·rw[ze ax] at hb
     exact nM b o rfl hb
   ·exact mI hf j0 (sub hp bd ax) _ (R8 (List.mem_of_getElem? hf) _ hb) (FG (List.mem_of_getElem? j0) dt)
end
end Go.Am
