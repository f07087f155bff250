/- Am28: functions that change lists of their arguments: what is said of them, and how it follows from their code. No condition. -/
import Derived.Test.YtifmggmhdcdgbaaAm27
set_option linter.unusedVariables false
namespace Go.Am
def fR:Nat->List (Option Mode)->List C->List ah
 |c,some _::fs,.list sz xs::cs=>.sl (aJ+c) sz 0 xs.length::fR (c+1) fs cs
 |c,some _::fs,x::cs=>.bg::fR (c+1) fs cs
 |c,none::fs,x::cs=>.c x::fR c fs cs
 |c,[],cs=>cs.map .c
 |c,_::_,[]=>[]
def rG (c:Nat) (s:List (Option Mode)):Dv->ai
 |(.one,xs)=>match fR c s xs with
  |[x]=>.one x
  |_=>.one .bg
 |(.agg,xs)=>.agg (fR c s xs)
 |(.ptr,xs)=>.one (.bT xs 0)
def la:Nat->Nat->aY->List Dv->(Nat->ai)
 |_,_,_,[]=>vn
 |k,c,[],d::ds=>av (la (k+1) c [] ds) k (rG c [] d)
 |k,c,s::sig,d::ds=>av (la (k+1) (c+(dE s d.2).length) sig ds) k (rG c s d)
def lZ:Mode×C->Option ar
 |(m,.list sz xs)=>some (.row false m sz xs)
 |_=>none
def AJ (sig:aY) (ds:List Dv):St:=
 {env:=la 0 0 sig ds
  h:=fun n=>if aJ<=n then((dW sig (ds.map (·.2)))[n - aJ]?).bind lZ else none
  used:=fun n=>Nat.ble aJ n}
def St.iW (σ:St):St:={σ with h:=fun n=>if aJ<=n then none else σ.h n}
def Bp (σ:St) (q:Nat) (x:Mode×C):Option C:=
 match x.2,σ.h (aJ+q) with
 |.list sz xs,some (.row _ m' aK au)=>if m'=x.1/\aK=sz/\au.length=xs.length/\rQ x.1 au=true/\au.map (fun e=>e.map C.pJ)=xs.map (fun e=>e.map C.pJ) then some (.list sz au) else none
 |_,_=>none
def wD (σ:St):Nat->List (Mode×C)->Option (List C)
 |_,[]=>some []
 |q,x::l=>match Bp σ q x,wD σ (q+1) l with
  |some y,some ys=>some (y::ys)
  |_,_=>none
def St.BC (σ:St) (ms:List bx) (fl:List (Mode×C)):Option (List Dv×List C):=
 match σ.iW.sW ms,wD σ 0 fl with
 |some rs,some dZ=>some (rs,dZ)
 |_,_=>none
def J2 (T:be) (mc:kI) (aB:List bx) (sig:aY) (ds:List Dv):Option (List Dv×List C):=
 match dw T mc (AJ sig ds) with
 |some (.fe σ)=>σ.BC aB (dW sig (ds.map (·.2)))
 |some (.ret σ)=>σ.BC aB (dW sig (ds.map (·.2)))
 |_=>none
section
variable {B:Nat} {E:Ex} {w0 w w':World} {G G':Gh} {N:Nat} {h h':Nat->Option ar} {used:Nat->Bool}
variable {P:Program} {T:be} {a:Act} {σ σ':St} {Q:Exit->Act->World->Prop}
def oQ:PC->PB
 |.list _ a cap []=>⟨true,0,0,cap,[],a⟩
 |.list _ (some a) cap (e::xs)=>⟨false,a.block,a.off,cap,e::xs,none⟩
 |_=>default
theorem Et (sz:Nat) (a:Option Addr) (cap:Nat):oQ (.list sz a cap [])=⟨true,0,0,cap,[],a⟩:=by
 cases a<;>rfl
theorem yN {sz b o cap:Nat} {xs:List (List PC)} (h:xs≠[]):oQ (.list sz (some (ad b o)) cap xs)=⟨false,b,o,cap,xs,none⟩:=by
 cases xs with
 |nil=>exact absurd rfl h
 |cons e xs=>rfl
theorem Good.cases {w:World} {sz cap:Nat} {a:Option Addr} {xs:List (List PC)} (h:Good w (.list sz a cap xs)):xs=[]\/(xs≠[]/\xs.length<=cap/\∃b o,a=some (ad b o)):=by
 cases h with
 |nil _ _ _ h=>exact .inl rfl
 |cons _ b o _ _ h1 h2=>exact .inr ⟨h1,h2,b,o,rfl⟩
def xK (fl:List (Mode×PC)):Ex:=
 ⟨fun b=>∃x∈fl,aN b x.2,fun n=>if aJ<=n then(fl[n - aJ]?).map fun x=>oQ x.2 else none,fun n p h=>(by
  by_cases hn:aJ<=n
  ·exact hn
  ·rw[if_neg hn] at h;cases h),fun _=>True⟩
def nq (w:World) (fl:List (Mode×PC)):Gh:=
 ⟨fun b=>b<w.heap.size/\¬∃x∈fl,aN b x.2,fun n=>match fl[n - aJ]? with|some x=>oQ x.2|none=>default⟩
def mE (fl:List (Mode×PC)):Nat->Option ar:=fun n=>if aJ<=n then((fl.map fun x=>(x.1,x.2.er))[n - aJ]?).bind lZ else none
theorem pz {fl:List (Mode×PC)} {n:Nat} {blk:ar} (hn:mE fl n=some blk):aJ<=n/\∃m sz a cap xs,fl[n - aJ]? =some (m,.list sz a cap xs)/\blk=.row false m sz (xs.map fun e=>e.map PC.er):=by
 unfold mE at hn
 split at hn
 ·rename_i hp
  refine⟨hp,?_⟩
  rw[List.getElem?_map] at hn
  cases hf:fl[n - aJ]? with
  |none=>rw[hf] at hn;cases hn
  |some x=>
   rw[hf] at hn
   obtain⟨m,pc⟩:=x
   cases pc with
   |int k i=>simp[PC.er,lZ] at hn
   |bool b=>simp[PC.er,lZ] at hn
   |list sz a cap xs=>
    simp[PC.df,lZ] at hn
    exact⟨m,sz,a,cap,xs,rfl,hn.symm⟩
 ·cases hn
theorem iF.Fa (b o sz cap:Nat) (xs:List (List PC)) (hc:cap≠0):iF b (.list sz (some (ad b o)) cap xs):=.inr ⟨_,_,_,_,rfl,hc⟩
theorem iF.row {b sz:Nat} {a:Option Addr} {cap:Nat} {xs:List (List PC)} (h:aR b xs):iF b (.list sz a cap xs):=by
 obtain⟨k,j,c,hk,hc⟩:=h
 exact .inl (.there _ _ _ _ k j c hk hc)
theorem Sep.row {sz:Nat} {a:Option Addr} {cap:Nat} {xs:List (List PC)} (h:Sep (.list sz a cap xs)):gI xs:=by
 cases h with
 |list _ _ _ _ h1 h2 h3=>exact⟨h1,h3⟩
theorem Good.rowAt {sz b o cap:Nat} {xs:List (List PC)} (h:Good w (.list sz (some (ad b o)) cap xs)):n5 w b o sz xs:=by
 generalize hq:PC.list sz (some (ad b o)) cap xs=q at h
 cases h with
 |int k n=>cases hq
 |bool b=>cases hq
 |nil aK a rJ h0=>
  injection hq with h1 h2 h3 h4
  subst h4
  exact⟨by simp,by rintro k j c ⟨e,he,_⟩;simp at he,by rintro k j c ⟨e,he,_⟩;simp at he⟩
 |cons aK b' o' rJ au h1 h2 h3 h4 h5 h6=>
  injection hq with e1 e2 e3 e4
  injection e2 with e2
  obtain⟨rfl,rfl⟩:=nc e2
  subst e1 e3 e4
  exact⟨h4,h5,h6⟩
theorem HR.OL {fl:List (Mode×PC)} (hg:∀x∈fl,Good w x.2) (fg:∀x∈fl,xn w x.1 x.2) (oq:fl.Pairwise fun x y=>∀b,aN b x.2->¬aN b y.2):
  HR w.heap.size (xK fl) w (nq w fl) (mE fl) (fun n=>Nat.ble aJ n) []:=by
 have mz:∀{i j:Nat} {x y:Mode×PC},fl[i]? =some x->fl[j]? =some y->i≠j->∀b,aN b x.2->¬aN b y.2:=by
  intro i j x y hi hj jC b hb aU
  obtain⟨li,ei⟩:=List.getElem?_eq_some_iff.1 hi
  obtain⟨lj,ej⟩:=List.getElem?_eq_some_iff.1 hj
  rw[List.pairwise_iff_getElem] at oq
  subst ei
  subst ej
  rcases Nat.lt_or_gt_of_ne jC with h|h
  ·exact oq i j li lj h b hb aU
  ·exact oq j i lj li h b aU hb
 have gg:∀{n:Nat} {x:Mode×PC},fl[n - aJ]? =some x->(nq w fl).g n=oQ x.2:=by intro n x h;simp only[nq,h]
 have Fa:∀{x:Mode×PC},x∈fl->(oQ x.2).nl=false->aN (oQ x.2).b x.2:=by
  intro x hx hl
  obtain⟨sz,a,cap,xs,e,_,_,_⟩:=(fg x hx).dq
  have x9:=hg x hx
  rw[e] at hl x9⊢
  rcases x9.cases with rfl|⟨aA,_,b,o,rfl⟩
  ·rw[Et] at hl;cases hl
  ·rw[yN aA];exact .here _ _ _ _ aA
 have Rn:∀{x:Mode×PC},x∈fl->∀b,aR b (oQ x.2).px->aN b x.2:=by
  intro x hx b hb
  obtain⟨sz,a,cap,xs,e,_,_,_⟩:=(fg x hx).dq
  have x9:=hg x hx
  rw[e] at hb x9⊢
  rcases x9.cases with rfl|⟨aA,_,b,o,rfl⟩
  ·rw[Et] at hb
   obtain⟨k,j,c,⟨e,he,_⟩,_⟩:=hb
   simp at he
  ·rw[yN aA] at hb
   obtain⟨k,j,c,hk,hc⟩:=hb
   exact .there _ _ _ _ k j c hk hc
 have sub:∀{n n':Nat},aJ<=n->aJ<=n'->n≠n'->n - aJ≠n' - aJ:=by intro n n' h1 h2 h3;omega
 refine⟨fun n hn=>?_,fun m cs c n hm=>?_,fun n cs hn=>?_,fun n gr m sz xs hn=>?_,fun n hn hl=>?_,fun n n' hn bh aA hl dm=>?_,fun b hb=>hb.1,fun b _=>.inr (.inr trivial),fun n n' gr m sz xs bf m' aK au hn bh _ _ aA b hb=>?_,
  fun n gr sz xs hn b hb n' bh dm=>?_,(by intro i pc hi;simp at hi),(by intro i j pc cR b _ hi;simp at hi),(by intro i pc n gr m sz xs b hi;simp at hi)⟩
 ·cases hh:mE fl n with
  |none=>exact absurd hh hn
  |some b=>exact Nat.ble_eq_true_of_le (pz hh).1
 ·obtain⟨_,m',sz,a,cap,xs,_,e⟩:=pz hm;cases e
 ·obtain⟨_,m',sz,a,cap,xs,_,e⟩:=pz hn;cases e
 ·obtain⟨hp,m',aK,a,cap,au,hf,e⟩:=pz hn
  injection e with e1 e2 e3 e4
  subst e1 e2 e3 e4
  have hx:(m,PC.list sz a cap au)∈fl:=List.mem_of_getElem? hf
  have ok:=fg _ hx
  have dF:=hg _ hx
  obtain⟨jS,a2,LN,gH,e,d9,nt,vA⟩:=ok.dq
  injection e with e1 e2 e3 e4
  subst e1 e2 e3 e4
  rw[gg hf]
  have Ro:∀b,aR b au->aN b (PC.list sz a cap au):=fun b ⟨k,j,c,hk,hc⟩=>.there _ _ _ _ k j c hk hc
  have gf:Ch w.heap.size (xK fl) w (nq w fl) au m:=by
   have jE:=Sep.row ok.sep
   cases m with
   |aE=>cases vA
   |aa=>exact⟨fun b hb=>absurd hb (BJ vA b),jE⟩
   |live=>exact⟨fun b hb=>⟨fun hi=>hi.2 ⟨_,hx,Ro b hb⟩,ok.un b (Ro b hb),.inr ⟨_,hx,Ro b hb⟩⟩,jE⟩
  rcases dF.cases with rfl|⟨aA,jA,b,o,rfl⟩
  ·rw[Et]
   exact⟨d9,rfl,fun _=>⟨rfl,fun h=>by cases h⟩,(fun h=>by cases h),(fun h=>by cases h),gf⟩
  ·rw[yN aA]
   exact⟨d9,rfl,(fun h=>by cases h),fun _=>⟨ok.un b (.here _ _ _ _ aA),Good.rowAt dF,jA⟩,(fun _ h=>by cases h),gf⟩
 ·cases hh:mE fl n with
  |none=>exact absurd hh hn
  |some blk=>
   obtain⟨hp,m',aK,a,cap,au,hf,e⟩:=pz hh
   have hx:(m',PC.list aK a cap au)∈fl:=List.mem_of_getElem? hf
   rw[gg hf] at hl⊢
   have ht:=Fa hx hl
   exact⟨fun hi=>hi.2 ⟨_,hx,ht⟩,.inr ⟨_,hx,ht⟩,((fg _ hx).un _ ht).lt⟩
 ·cases hh:mE fl n with
  |none=>exact absurd hh hn
  |some blk=>
   cases De:mE fl n' with
   |none=>exact absurd De bh
   |some acB=>
    obtain⟨hp,m1,wW,a1,LM,uN,hf,_⟩:=pz hh
    obtain⟨bc,m2,jS,a2,LN,gH,jB,_⟩:=pz De
    rw[gg hf] at hl⊢
    rw[gg jB] at dm⊢
    intro he
    exact mz hf jB (sub hp bc aA) _ (Fa (List.mem_of_getElem? hf) hl) (he▸Fa (List.mem_of_getElem? jB) dm)
 ·obtain⟨hp,m1,wW,a1,LM,uN,hf,_⟩:=pz hn
  obtain⟨bc,m2,jS,a2,LN,gH,jB,_⟩:=pz bh
  rw[gg hf] at hb
  rw[gg jB]
  exact fun aU=>mz hf jB (sub hp bc aA) b (Rn (List.mem_of_getElem? hf) b hb) (Rn (List.mem_of_getElem? jB) b aU)
 ·obtain⟨hp,m1,wW,a1,LM,uN,hf,_⟩:=pz hn
  rw[gg hf] at hb
  cases De:mE fl n' with
  |none=>exact absurd De bh
  |some acB=>
   obtain⟨bc,m2,jS,a2,LN,gH,jB,_⟩:=pz De
   rw[gg jB] at dm⊢
   rintro rfl
   by_cases aA:n=n'
   ·subst aA
    rw[hf] at jB
    injection jB with jB
    injection jB with _ jB
    injection jB with q1 q2 q3 q4
    subst q1 q2 q3 q4
    have hm:=List.mem_of_getElem? hf
    obtain⟨sz,a,cap,xs,e,_,nt,_⟩:=(fg _ hm).dq
    have x9:=hg _ hm
    injection e with e1 e2 e3 e4
    subst e1 e2 e3 e4
    rcases x9.cases with rfl|⟨aA,_,b,o,rfl⟩
    ·rw[Et] at dm;cases dm
    ·rw[yN aA] at hb
     exact nt b o rfl hb
   ·exact mz hf jB (sub hp bc aA) _ (Rn (List.mem_of_getElem? hf) _ hb) (Fa (List.mem_of_getElem? jB) dm)
end
end Go.Am
