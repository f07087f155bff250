/- Am28: functions that change lists of their arguments: what is said of them, and how it follows from their code. No condition. -/
import Derived.Test.YtbgmbplglejidaaAm27
set_option linter.unusedVariables false
namespace Go.Am
def gF:Nat->List (Option Mode)->List C->List ah
 |c,some _::fs,.list sz xs::cs=>.sl (aK+c) sz 0 xs.length::gF (c+1) fs cs
 |c,some _::fs,x::cs=>.bn::gF (c+1) fs cs
 |c,none::fs,x::cs=>.c x::gF c fs cs
 |c,[],cs=>cs.map .c
 |c,_::_,[]=>[]
def sQ (c:Nat) (s:List (Option Mode)):Dv->aj
 |(.one,xs)=>match gF c s xs with
  |[x]=>.one x
  |_=>.one .bn
 |(.agg,xs)=>.agg (gF c s xs)
 |(.ptr,xs)=>.one (.cB xs 0)
def mD:Nat->Nat->aP->List Dv->(Nat->aj)
 |_,_,_,[]=>vZ
 |k,c,[],d::ds=>av (mD (k+1) c [] ds) k (sQ c [] d)
 |k,c,s::sig,d::ds=>av (mD (k+1) (c+(ez s d.2).length) sig ds) k (sQ c s d)
def nv:Mode×C->Option ao
 |(m,.list sz xs)=>some (.row false m sz xs)
 |_=>none
def BT (sig:aP) (ds:List Dv):St:=
 {env:=mD 0 0 sig ds
  h:=fun n=>if aK<=n then((eI sig (ds.map (·.2)))[n - aK]?).bind nv else none
  used:=fun n=>Nat.ble aK n}
def St.jO (σ:St):St:={σ with h:=fun n=>if aK<=n then none else σ.h n}
def Cp (σ:St) (q:Nat) (x:Mode×C):Option C:=
 match x.2,σ.h (aK+q) with
 |.list sz xs,some (.row _ m' aJ aq)=>if m'=x.1/\aJ=sz/\aq.length=xs.length/\s8 x.1 aq=true/\aq.map (fun e=>e.map C.qW)=xs.map (fun e=>e.map C.qW) then some (.list sz aq) else none
 |_,_=>none
def w4 (σ:St):Nat->List (Mode×C)->Option (List C)
 |_,[]=>some []
 |q,x::l=>match Cp σ q x,w4 σ (q+1) l with
  |some y,some ys=>some (y::ys)
  |_,_=>none
def St.CA (σ:St) (ms:List bC) (fl:List (Mode×C)):Option (List Dv×List C):=
 match σ.jO.tF ms,w4 σ 0 fl with
 |some rs,some eZ=>some (rs,eZ)
 |_,_=>none
def KJ (T:aO) (mc:lT) (aD:List bC) (sig:aP) (ds:List Dv):Option (List Dv×List C):=
 match d8 T mc (BT sig ds) with
 |some (.fG σ)=>σ.CA aD (eI sig (ds.map (·.2)))
 |some (.ret σ)=>σ.CA aD (eI sig (ds.map (·.2)))
 |_=>none
section
variable {B:Nat} {E:Ex} {w0 w w':World} {G G':Gh} {N:Nat} {h h':Nat->Option ao} {used:Nat->Bool}
variable {P:Program} {T:aO} {a:Act} {σ σ':St} {Q:Exit->Act->World->Prop}
def pY:PC->PB
 |.list _ a cap []=>⟨true,0,0,cap,[],a⟩
 |.list _ (some a) cap (e::xs)=>⟨false,a.block,a.off,cap,e::xs,none⟩
 |_=>default
theorem Fk (sz:Nat) (a:Option Addr) (cap:Nat):pY (.list sz a cap [])=⟨true,0,0,cap,[],a⟩:=by
 cases a<;>rfl
theorem zu {sz b o cap:Nat} {xs:List (List PC)} (h:xs≠[]):pY (.list sz (some (ad b o)) cap xs)=⟨false,b,o,cap,xs,none⟩:=by
 cases xs with
 |nil=>exact absurd rfl h
 |cons e xs=>rfl
theorem Good.cases {w:World} {sz cap:Nat} {a:Option Addr} {xs:List (List PC)} (h:Good w (.list sz a cap xs)):xs=[]\/(xs≠[]/\xs.length<=cap/\∃b o,a=some (ad b o)):=by
 cases h with
 |nil _ _ _ h=>exact .inl rfl
 |cons _ b o _ _ h1 h2=>exact .inr ⟨h1,h2,b,o,rfl⟩
def yj (fl:List (Mode×PC)):Ex:=
 ⟨fun b=>∃x∈fl,aT b x.2,fun n=>if aK<=n then(fl[n - aK]?).map fun x=>pY x.2 else none,fun n p h=>(by
  by_cases hn:aK<=n
  ·exact hn
  ·rw[if_neg hn] at h;cases h),fun _=>True⟩
def oA (w:World) (fl:List (Mode×PC)):Gh:=
 ⟨fun b=>b<w.heap.size/\¬∃x∈fl,aT b x.2,fun n=>match fl[n - aK]? with|some x=>pY x.2|none=>default⟩
def nK (fl:List (Mode×PC)):Nat->Option ao:=fun n=>if aK<=n then((fl.map fun x=>(x.1,x.2.er))[n - aK]?).bind nv else none
theorem qM {fl:List (Mode×PC)} {n:Nat} {blk:ao} (hn:nK fl n=some blk):aK<=n/\∃m sz a cap xs,fl[n - aK]? =some (m,.list sz a cap xs)/\blk=.row false m sz (xs.map fun e=>e.map PC.er):=by
 unfold nK at hn
 split at hn
 ·rename_i hp
  refine⟨hp,?_⟩
  rw[List.getElem?_map] at hn
  cases hf:fl[n - aK]? with
  |none=>rw[hf] at hn;cases hn
  |some x=>
   rw[hf] at hn
   obtain⟨m,pc⟩:=x
   cases pc with
   |int k i=>simp[PC.er,nv] at hn
   |bool b=>simp[PC.er,nv] at hn
   |list sz a cap xs=>
    simp[PC.dO,nv] at hn
    exact⟨m,sz,a,cap,xs,rfl,hn.symm⟩
 ·cases hn
theorem jb.Ga (b o sz cap:Nat) (xs:List (List PC)) (hc:cap≠0):jb b (.list sz (some (ad b o)) cap xs):=.inr ⟨_,_,_,_,rfl,hc⟩
theorem jb.row {b sz:Nat} {a:Option Addr} {cap:Nat} {xs:List (List PC)} (h:aX b xs):jb b (.list sz a cap xs):=by
 obtain⟨k,j,c,hk,hc⟩:=h
 exact .inl (.there _ _ _ _ k j c hk hc)
theorem Sep.row {sz:Nat} {a:Option Addr} {cap:Nat} {xs:List (List PC)} (h:Sep (.list sz a cap xs)):iy xs:=by
 cases h with
 |list _ _ _ _ h1 h2 h3=>exact⟨h1,h3⟩
theorem Good.rowAt {sz b o cap:Nat} {xs:List (List PC)} (h:Good w (.list sz (some (ad b o)) cap xs)):pg w b o sz xs:=by
 generalize hq:PC.list sz (some (ad b o)) cap xs=q at h
 cases h with
 |int k n=>cases hq
 |bool b=>cases hq
 |nil aJ a sU h0=>
  injection hq with h1 h2 h3 h4
  subst h4
  exact⟨by simp,by rintro k j c ⟨e,he,_⟩;simp at he,by rintro k j c ⟨e,he,_⟩;simp at he⟩
 |cons aJ b' o' sU aq h1 h2 h3 h4 h5 h6=>
  injection hq with e1 e2 e3 e4
  injection e2 with e2
  obtain⟨rfl,rfl⟩:=nD e2
  subst e1 e3 e4
  exact⟨h4,h5,h6⟩
theorem HR.P8 {fl:List (Mode×PC)} (hg:∀x∈fl,Good w x.2) (fU:∀x∈fl,xO w x.1 x.2) (pE:fl.Pairwise fun x y=>∀b,aT b x.2->¬aT b y.2):
  HR w.heap.size (yj fl) w (oA w fl) (nK fl) (fun n=>Nat.ble aK n) []:=by
 have nF:∀{i j:Nat} {x y:Mode×PC},fl[i]? =some x->fl[j]? =some y->i≠j->∀b,aT b x.2->¬aT b y.2:=by
  intro i j x y hi hj jG b hb aY
  obtain⟨li,ei⟩:=List.getElem?_eq_some_iff.1 hi
  obtain⟨lj,ej⟩:=List.getElem?_eq_some_iff.1 hj
  rw[List.pairwise_iff_getElem] at pE
  subst ei
  subst ej
  rcases Nat.lt_or_gt_of_ne jG with h|h
  ·exact pE i j li lj h b hb aY
  ·exact pE j i lj li h b aY hb
 have gg:∀{n:Nat} {x:Mode×PC},fl[n - aK]? =some x->(oA w fl).g n=pY x.2:=by intro n x h;simp only[oA,h]
 have Ga:∀{x:Mode×PC},x∈fl->(pY x.2).nl=false->aT (pY x.2).b x.2:=by
  intro x hx hl
  obtain⟨sz,a,cap,xs,e,_,_,_⟩:=(fU x hx).dV
  have yF:=hg x hx
  rw[e] at hl yF⊢
  rcases yF.cases with rfl|⟨aC,_,b,o,rfl⟩
  ·rw[Fk] at hl;cases hl
  ·rw[zu aC];exact .here _ _ _ _ aC
 have SG:∀{x:Mode×PC},x∈fl->∀b,aX b (pY x.2).px->aT b x.2:=by
  intro x hx b hb
  obtain⟨sz,a,cap,xs,e,_,_,_⟩:=(fU x hx).dV
  have yF:=hg x hx
  rw[e] at hb yF⊢
  rcases yF.cases with rfl|⟨aC,_,b,o,rfl⟩
  ·rw[Fk] at hb
   obtain⟨k,j,c,⟨e,he,_⟩,_⟩:=hb
   simp at he
  ·rw[zu aC] at hb
   obtain⟨k,j,c,hk,hc⟩:=hb
   exact .there _ _ _ _ k j c hk hc
 have sub:∀{n n':Nat},aK<=n->aK<=n'->n≠n'->n - aK≠n' - aK:=by intro n n' h1 h2 h3;omega
 refine⟨fun n hn=>?_,fun m cs c n hm=>?_,fun n cs hn=>?_,fun n gr m sz xs hn=>?_,fun n hn hl=>?_,fun n n' hn bk aC hl dE=>?_,fun b hb=>hb.1,fun b _=>.inr (.inr trivial),fun n n' gr m sz xs bm m' aJ aq hn bk _ _ aC b hb=>?_,
  fun n gr sz xs hn b hb n' bk dE=>?_,(by intro i pc hi;simp at hi),(by intro i j pc dn b _ hi;simp at hi),(by intro i pc n gr m sz xs b hi;simp at hi)⟩
 ·cases hh:nK fl n with
  |none=>exact absurd hh hn
  |some b=>exact Nat.ble_eq_true_of_le (qM hh).1
 ·obtain⟨_,m',sz,a,cap,xs,_,e⟩:=qM hm;cases e
 ·obtain⟨_,m',sz,a,cap,xs,_,e⟩:=qM hn;cases e
 ·obtain⟨hp,m',aJ,a,cap,aq,hf,e⟩:=qM hn
  injection e with e1 e2 e3 e4
  subst e1 e2 e3 e4
  have hx:(m,PC.list sz a cap aq)∈fl:=List.mem_of_getElem? hf
  have ok:=fU _ hx
  have eA:=hg _ hx
  obtain⟨ko,a2,Ik,iw,e,dR,oD,wl⟩:=ok.dV
  injection e with e1 e2 e3 e4
  subst e1 e2 e3 e4
  rw[gg hf]
  have SH:∀b,aX b aq->aT b (PC.list sz a cap aq):=fun b ⟨k,j,c,hk,hc⟩=>.there _ _ _ _ k j c hk hc
  have gf:Dg w.heap.size (yj fl) w (oA w fl) aq m:=by
   have ky:=Sep.row ok.sep
   cases m with
   |aF=>cases wl
   |ab=>exact⟨fun b hb=>absurd hb (CE wl b),ky⟩
   |live=>exact⟨fun b hb=>⟨fun hi=>hi.2 ⟨_,hx,SH b hb⟩,ok.un b (SH b hb),.inr ⟨_,hx,SH b hb⟩⟩,ky⟩
  rcases eA.cases with rfl|⟨aC,jE,b,o,rfl⟩
  ·rw[Fk]
   exact⟨dR,rfl,fun _=>⟨rfl,fun h=>by cases h⟩,(fun h=>by cases h),(fun h=>by cases h),gf⟩
  ·rw[zu aC]
   exact⟨dR,rfl,(fun h=>by cases h),fun _=>⟨ok.un b (.here _ _ _ _ aC),Good.rowAt eA,jE⟩,(fun _ h=>by cases h),gf⟩
 ·cases hh:nK fl n with
  |none=>exact absurd hh hn
  |some blk=>
   obtain⟨hp,m',aJ,a,cap,aq,hf,e⟩:=qM hh
   have hx:(m',PC.list aJ a cap aq)∈fl:=List.mem_of_getElem? hf
   rw[gg hf] at hl⊢
   have ht:=Ga hx hl
   exact⟨fun hi=>hi.2 ⟨_,hx,ht⟩,.inr ⟨_,hx,ht⟩,((fU _ hx).un _ ht).lt⟩
 ·cases hh:nK fl n with
  |none=>exact absurd hh hn
  |some blk=>
   cases Eu:nK fl n' with
   |none=>exact absurd Eu bk
   |some aeE=>
    obtain⟨hp,m1,sG,a1,AQ,rG,hf,_⟩:=qM hh
    obtain⟨bj,m2,ko,a2,Ik,iw,g9,_⟩:=qM Eu
    rw[gg hf] at hl⊢
    rw[gg g9] at dE⊢
    intro he
    exact nF hf g9 (sub hp bj aC) _ (Ga (List.mem_of_getElem? hf) hl) (he▸Ga (List.mem_of_getElem? g9) dE)
 ·obtain⟨hp,m1,sG,a1,AQ,rG,hf,_⟩:=qM hn
  obtain⟨bj,m2,ko,a2,Ik,iw,g9,_⟩:=qM bk
  rw[gg hf] at hb
  rw[gg g9]
  exact fun aY=>nF hf g9 (sub hp bj aC) b (SG (List.mem_of_getElem? hf) b hb) (SG (List.mem_of_getElem? g9) b aY)
 ·obtain⟨hp,m1,sG,a1,AQ,rG,hf,_⟩:=qM hn
  rw[gg hf] at hb
  cases Eu:nK fl n' with
  |none=>exact absurd Eu bk
  |some aeE=>
   obtain⟨bj,m2,ko,a2,Ik,iw,g9,_⟩:=qM Eu
   rw[gg g9] at dE⊢
   rintro rfl
   by_cases aC:n=n'
   ·subst aC
    rw[hf] at g9
    injection g9 with g9
    injection g9 with _ g9
    injection g9 with q1 q2 q3 q4
    subst q1 q2 q3 q4
    have hm:=List.mem_of_getElem? hf
    obtain⟨sz,a,cap,xs,e,_,oD,_⟩:=(fU _ hm).dV
    have yF:=hg _ hm
    injection e with e1 e2 e3 e4
    subst e1 e2 e3 e4
    rcases yF.cases with rfl|⟨aC,_,b,o,rfl⟩
    ·rw[Fk] at dE;cases dE
    ·rw[zu aC] at hb
     exact oD b o rfl hb
   ·exact nF hf g9 (sub hp bj aC) _ (SG (List.mem_of_getElem? hf) _ hb) (Ga (List.mem_of_getElem? g9) dE)
end
end Go.Am
