/- Am28: functions that change lists of their arguments: what is said of them, and how it follows from their code. No condition. -/
import Derived.Test.YtbgmbplglejidaaAm27
set_option linter.unusedVariables false
namespace Go.Am
def gh:Nat->List (Option Mode)->List C->List ah
 |c,some _::fs,.list sz xs::cs=>.sl (aM+c) sz 0 xs.length::gh (c+1) fs cs
 |c,some _::fs,x::cs=>.bn::gh (c+1) fs cs
 |c,none::fs,x::cs=>.c x::gh c fs cs
 |c,[],cs=>cs.map .c
 |c,_::_,[]=>[]
def su (c:Nat) (s:List (Option Mode)):Dv->aj
 |(.one,xs)=>match gh c s xs with
  |[x]=>.one x
  |_=>.one .bn
 |(.agg,xs)=>.agg (gh c s xs)
 |(.ptr,xs)=>.one (.cj xs 0)
def lO:Nat->Nat->aN->List Dv->(Nat->aj)
 |_,_,_,[]=>vO
 |k,c,[],d::ds=>ax (lO (k+1) c [] ds) k (su c [] d)
 |k,c,s::sig,d::ds=>ax (lO (k+1) (c+(eu s d.2).length) sig ds) k (su c s d)
def mT:Mode×C->Option aq
 |(m,.list sz xs)=>some (.row false m sz xs)
 |_=>none
def Bl (sig:aN) (ds:List Dv):St:=
 {env:=lO 0 0 sig ds
  h:=fun n=>if aM<=n then((eB sig (ds.map (·.2)))[n - aM]?).bind mT else none
  used:=fun n=>Nat.ble aM n}
def St.jE (σ:St):St:={σ with h:=fun n=>if aM<=n then none else σ.h n}
def BO (σ:St) (q:Nat) (x:Mode×C):Option C:=
 match x.2,σ.h (aM+q) with
 |.list sz xs,some (.row _ m' aL ar)=>if m'=x.1/\aL=sz/\ar.length=xs.length/\sJ x.1 ar=true/\ar.map (fun e=>e.map C.qt)=xs.map (fun e=>e.map C.qt) then some (.list sz ar) else none
 |_,_=>none
def wY (σ:St):Nat->List (Mode×C)->Option (List C)
 |_,[]=>some []
 |q,x::l=>match BO σ q x,wY σ (q+1) l with
  |some y,some ys=>some (y::ys)
  |_,_=>none
def St.B4 (σ:St) (ms:List bh) (fl:List (Mode×C)):Option (List Dv×List C):=
 match σ.jE.tq ms,wY σ 0 fl with
 |some rs,some eI=>some (rs,eI)
 |_,_=>none
def J4 (T:aS) (mc:lg) (aA:List bh) (sig:aN) (ds:List Dv):Option (List Dv×List C):=
 match dY T mc (Bl sig ds) with
 |some (.fy σ)=>σ.B4 aA (eB sig (ds.map (·.2)))
 |some (.ret σ)=>σ.B4 aA (eB sig (ds.map (·.2)))
 |_=>none
section
variable {B:Nat} {E:Ex} {w0 w w':World} {G G':Gh} {N:Nat} {h h':Nat->Option aq} {used:Nat->Bool}
variable {P:Program} {T:aS} {a:Act} {σ σ':St} {Q:Exit->Act->World->Prop}
def pt:PC->PB
 |.list _ a cap []=>⟨true,0,0,cap,[],a⟩
 |.list _ (some a) cap (e::xs)=>⟨false,a.block,a.off,cap,e::xs,none⟩
 |_=>default
theorem EL (sz:Nat) (a:Option Addr) (cap:Nat):pt (.list sz a cap [])=⟨true,0,0,cap,[],a⟩:=by
 cases a<;>rfl
theorem zb {sz b o cap:Nat} {xs:List (List PC)} (h:xs≠[]):pt (.list sz (some (ad b o)) cap xs)=⟨false,b,o,cap,xs,none⟩:=by
 cases xs with
 |nil=>exact absurd rfl h
 |cons e xs=>rfl
theorem Good.cases {w:World} {sz cap:Nat} {a:Option Addr} {xs:List (List PC)} (h:Good w (.list sz a cap xs)):xs=[]\/(xs≠[]/\xs.length<=cap/\∃b o,a=some (ad b o)):=by
 cases h with
 |nil _ _ _ h=>exact .inl rfl
 |cons _ b o _ _ h1 h2=>exact .inr ⟨h1,h2,b,o,rfl⟩
def ye (fl:List (Mode×PC)):Ex:=
 ⟨fun b=>∃x∈fl,aT b x.2,fun n=>if aM<=n then(fl[n - aM]?).map fun x=>pt x.2 else none,fun n p h=>(by
  by_cases hn:aM<=n
  ·exact hn
  ·rw[if_neg hn] at h;cases h),fun _=>True⟩
def nP (w:World) (fl:List (Mode×PC)):Gh:=
 ⟨fun b=>b<w.heap.size/\¬∃x∈fl,aT b x.2,fun n=>match fl[n - aM]? with|some x=>pt x.2|none=>default⟩
def m9 (fl:List (Mode×PC)):Nat->Option aq:=fun n=>if aM<=n then((fl.map fun x=>(x.1,x.2.er))[n - aM]?).bind mT else none
theorem qa {fl:List (Mode×PC)} {n:Nat} {blk:aq} (hn:m9 fl n=some blk):aM<=n/\∃m sz a cap xs,fl[n - aM]? =some (m,.list sz a cap xs)/\blk=.row false m sz (xs.map fun e=>e.map PC.er):=by
 unfold m9 at hn
 split at hn
 ·rename_i hp
  refine⟨hp,?_⟩
  rw[List.getElem?_map] at hn
  cases hf:fl[n - aM]? with
  |none=>rw[hf] at hn;cases hn
  |some x=>
   rw[hf] at hn
   obtain⟨m,pc⟩:=x
   cases pc with
   |int k i=>simp[PC.er,mT] at hn
   |bool b=>simp[PC.er,mT] at hn
   |list sz a cap xs=>
    simp[PC.dG,mT] at hn
    exact⟨m,sz,a,cap,xs,rfl,hn.symm⟩
 ·cases hn
theorem iR.FE (b o sz cap:Nat) (xs:List (List PC)) (hc:cap≠0):iR b (.list sz (some (ad b o)) cap xs):=.inr ⟨_,_,_,_,rfl,hc⟩
theorem iR.row {b sz:Nat} {a:Option Addr} {cap:Nat} {xs:List (List PC)} (h:aX b xs):iR b (.list sz a cap xs):=by
 obtain⟨k,j,c,hk,hc⟩:=h
 exact .inl (.there _ _ _ _ k j c hk hc)
theorem Sep.row {sz:Nat} {a:Option Addr} {cap:Nat} {xs:List (List PC)} (h:Sep (.list sz a cap xs)):ig xs:=by
 cases h with
 |list _ _ _ _ h1 h2 h3=>exact⟨h1,h3⟩
theorem Good.rowAt {sz b o cap:Nat} {xs:List (List PC)} (h:Good w (.list sz (some (ad b o)) cap xs)):oD w b o sz xs:=by
 generalize hq:PC.list sz (some (ad b o)) cap xs=q at h
 cases h with
 |int k n=>cases hq
 |bool b=>cases hq
 |nil aL a sA h0=>
  injection hq with h1 h2 h3 h4
  subst h4
  exact⟨by simp,by rintro k j c ⟨e,he,_⟩;simp at he,by rintro k j c ⟨e,he,_⟩;simp at he⟩
 |cons aL b' o' sA ar h1 h2 h3 h4 h5 h6=>
  injection hq with e1 e2 e3 e4
  injection e2 with e2
  obtain⟨rfl,rfl⟩:=mX e2
  subst e1 e3 e4
  exact⟨h4,h5,h6⟩
theorem HR.PY {fl:List (Mode×PC)} (hg:∀x∈fl,Good w x.2) (fI:∀x∈fl,xP w x.1 x.2) (oR:fl.Pairwise fun x y=>∀b,aT b x.2->¬aT b y.2):
  HR w.heap.size (ye fl) w (nP w fl) (m9 fl) (fun n=>Nat.ble aM n) []:=by
 have m4:∀{i j:Nat} {x y:Mode×PC},fl[i]? =some x->fl[j]? =some y->i≠j->∀b,aT b x.2->¬aT b y.2:=by
  intro i j x y hi hj jm b hb aW
  obtain⟨li,ei⟩:=List.getElem?_eq_some_iff.1 hi
  obtain⟨lj,ej⟩:=List.getElem?_eq_some_iff.1 hj
  rw[List.pairwise_iff_getElem] at oR
  subst ei
  subst ej
  rcases Nat.lt_or_gt_of_ne jm with h|h
  ·exact oR i j li lj h b hb aW
  ·exact oR j i lj li h b aW hb
 have gg:∀{n:Nat} {x:Mode×PC},fl[n - aM]? =some x->(nP w fl).g n=pt x.2:=by intro n x h;simp only[nP,h]
 have FE:∀{x:Mode×PC},x∈fl->(pt x.2).nl=false->aT (pt x.2).b x.2:=by
  intro x hx hl
  obtain⟨sz,a,cap,xs,e,_,_,_⟩:=(fI x hx).dT
  have yw:=hg x hx
  rw[e] at hl yw⊢
  rcases yw.cases with rfl|⟨aE,_,b,o,rfl⟩
  ·rw[EL] at hl;cases hl
  ·rw[zb aE];exact .here _ _ _ _ aE
 have SD:∀{x:Mode×PC},x∈fl->∀b,aX b (pt x.2).px->aT b x.2:=by
  intro x hx b hb
  obtain⟨sz,a,cap,xs,e,_,_,_⟩:=(fI x hx).dT
  have yw:=hg x hx
  rw[e] at hb yw⊢
  rcases yw.cases with rfl|⟨aE,_,b,o,rfl⟩
  ·rw[EL] at hb
   obtain⟨k,j,c,⟨e,he,_⟩,_⟩:=hb
   simp at he
  ·rw[zb aE] at hb
   obtain⟨k,j,c,hk,hc⟩:=hb
   exact .there _ _ _ _ k j c hk hc
 have sub:∀{n n':Nat},aM<=n->aM<=n'->n≠n'->n - aM≠n' - aM:=by intro n n' h1 h2 h3;omega
 refine⟨fun n hn=>?_,fun m cs c n hm=>?_,fun n cs hn=>?_,fun n gr m sz xs hn=>?_,fun n hn hl=>?_,fun n n' hn bk aE hl dR=>?_,fun b hb=>hb.1,fun b _=>.inr (.inr trivial),fun n n' gr m sz xs bj m' aL ar hn bk _ _ aE b hb=>?_,
  fun n gr sz xs hn b hb n' bk dR=>?_,(by intro i pc hi;simp at hi),(by intro i j pc di b _ hi;simp at hi),(by intro i pc n gr m sz xs b hi;simp at hi)⟩
 ·cases hh:m9 fl n with
  |none=>exact absurd hh hn
  |some b=>exact Nat.ble_eq_true_of_le (qa hh).1
 ·obtain⟨_,m',sz,a,cap,xs,_,e⟩:=qa hm;cases e
 ·obtain⟨_,m',sz,a,cap,xs,_,e⟩:=qa hn;cases e
 ·obtain⟨hp,m',aL,a,cap,ar,hf,e⟩:=qa hn
  injection e with e1 e2 e3 e4
  subst e1 e2 e3 e4
  have hx:(m,PC.list sz a cap ar)∈fl:=List.mem_of_getElem? hf
  have ok:=fI _ hx
  have dH:=hg _ hx
  obtain⟨jZ,a2,HM,ic,e,ed,nT,v7⟩:=ok.dT
  injection e with e1 e2 e3 e4
  subst e1 e2 e3 e4
  rw[gg hf]
  have SE:∀b,aX b ar->aT b (PC.list sz a cap ar):=fun b ⟨k,j,c,hk,hc⟩=>.there _ _ _ _ k j c hk hc
  have fS:CL w.heap.size (ye fl) w (nP w fl) ar m:=by
   have kf:=Sep.row ok.sep
   cases m with
   |aO=>cases v7
   |ab=>exact⟨fun b hb=>absurd hb (B8 v7 b),kf⟩
   |live=>exact⟨fun b hb=>⟨fun hi=>hi.2 ⟨_,hx,SE b hb⟩,ok.un b (SE b hb),.inr ⟨_,hx,SE b hb⟩⟩,kf⟩
  rcases dH.cases with rfl|⟨aE,jk,b,o,rfl⟩
  ·rw[EL]
   exact⟨ed,rfl,fun _=>⟨rfl,fun h=>by cases h⟩,(fun h=>by cases h),(fun h=>by cases h),fS⟩
  ·rw[zb aE]
   exact⟨ed,rfl,(fun h=>by cases h),fun _=>⟨ok.un b (.here _ _ _ _ aE),Good.rowAt dH,jk⟩,(fun _ h=>by cases h),fS⟩
 ·cases hh:m9 fl n with
  |none=>exact absurd hh hn
  |some blk=>
   obtain⟨hp,m',aL,a,cap,ar,hf,e⟩:=qa hh
   have hx:(m',PC.list aL a cap ar)∈fl:=List.mem_of_getElem? hf
   rw[gg hf] at hl⊢
   have ht:=FE hx hl
   exact⟨fun hi=>hi.2 ⟨_,hx,ht⟩,.inr ⟨_,hx,ht⟩,((fI _ hx).un _ ht).lt⟩
 ·cases hh:m9 fl n with
  |none=>exact absurd hh hn
  |some blk=>
   cases DQ:m9 fl n' with
   |none=>exact absurd DQ bk
   |some aeF=>
    obtain⟨hp,m1,r5,a1,Ar,qV,hf,_⟩:=qa hh
    obtain⟨be,m2,jZ,a2,HM,ic,fv,_⟩:=qa DQ
    rw[gg hf] at hl⊢
    rw[gg fv] at dR⊢
    intro he
    exact m4 hf fv (sub hp be aE) _ (FE (List.mem_of_getElem? hf) hl) (he▸FE (List.mem_of_getElem? fv) dR)
 ·obtain⟨hp,m1,r5,a1,Ar,qV,hf,_⟩:=qa hn
  obtain⟨be,m2,jZ,a2,HM,ic,fv,_⟩:=qa bk
  rw[gg hf] at hb
  rw[gg fv]
  exact fun aW=>m4 hf fv (sub hp be aE) b (SD (List.mem_of_getElem? hf) b hb) (SD (List.mem_of_getElem? fv) b aW)
 ·obtain⟨hp,m1,r5,a1,Ar,qV,hf,_⟩:=qa hn
  rw[gg hf] at hb
  cases DQ:m9 fl n' with
  |none=>exact absurd DQ bk
  |some aeF=>
   obtain⟨be,m2,jZ,a2,HM,ic,fv,_⟩:=qa DQ
   rw[gg fv] at dR⊢
   rintro rfl
   by_cases aE:n=n'
   ·subst aE
    rw[hf] at fv
    injection fv with fv
    injection fv with _ fv
    injection fv with q1 q2 q3 q4
    subst q1 q2 q3 q4
    have hm:=List.mem_of_getElem? hf
    obtain⟨sz,a,cap,xs,e,_,nT,_⟩:=(fI _ hm).dT
    have yw:=hg _ hm
    injection e with e1 e2 e3 e4
    subst e1 e2 e3 e4
    rcases yw.cases with rfl|⟨aE,_,b,o,rfl⟩
    ·rw[EL] at dR;cases dR
    ·rw[zb aE] at hb
     exact nT b o rfl hb
   ·exact m4 hf fv (sub hp be aE) _ (SD (List.mem_of_getElem? hf) _ hb) (FE (List.mem_of_getElem? fv) dR)
end
end Go.Am
