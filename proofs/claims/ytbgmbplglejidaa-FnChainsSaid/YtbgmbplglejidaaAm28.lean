/- Am28: functions that change lists of their arguments: what is said of them, and how it follows from their code. No condition. -/
import Derived.Test.YtbgmbplglejidaaAm27
set_option linter.unusedVariables false
namespace Go.Am
def gv:Nat->List (Option Mode)->List C->List ah
 |c,some _::fs,.list sz xs::cs=>.sl (aK+c) sz 0 xs.length::gv (c+1) fs cs
 |c,some _::fs,x::cs=>.bm::gv (c+1) fs cs
 |c,none::fs,x::cs=>.c x::gv c fs cs
 |c,[],cs=>cs.map .c
 |c,_::_,[]=>[]
def sf (c:Nat) (s:List (Option Mode)):Dv->aj
 |(.one,xs)=>match gv c s xs with
  |[x]=>.one x
  |_=>.one .bm
 |(.agg,xs)=>.agg (gv c s xs)
 |(.ptr,xs)=>.one (.cu xs 0)
def lK:Nat->Nat->aN->List Dv->(Nat->aj)
 |_,_,_,[]=>vJ
 |k,c,[],d::ds=>au (lK (k+1) c [] ds) k (sf c [] d)
 |k,c,s::sig,d::ds=>au (lK (k+1) (c+(eo s d.2).length) sig ds) k (sf c s d)
def mU:Mode×C->Option ao
 |(m,.list sz xs)=>some (.row false m sz xs)
 |_=>none
def Bt (sig:aN) (ds:List Dv):St:=
 {env:=lK 0 0 sig ds
  h:=fun n=>if aK<=n then((eC sig (ds.map (·.2)))[n - aK]?).bind mU else none
  used:=fun n=>Nat.ble aK n}
def St.jG (σ:St):St:={σ with h:=fun n=>if aK<=n then none else σ.h n}
def BT (σ:St) (q:Nat) (x:Mode×C):Option C:=
 match x.2,σ.h (aK+q) with
 |.list sz xs,some (.row _ m' aJ aq)=>if m'=x.1/\aJ=sz/\aq.length=xs.length/\sB x.1 aq=true/\aq.map (fun e=>e.map C.qq)=xs.map (fun e=>e.map C.qq) then some (.list sz aq) else none
 |_,_=>none
def wN (σ:St):Nat->List (Mode×C)->Option (List C)
 |_,[]=>some []
 |q,x::l=>match BT σ q x,wN σ (q+1) l with
  |some y,some ys=>some (y::ys)
  |_,_=>none
def St.B2 (σ:St) (ms:List bA) (fl:List (Mode×C)):Option (List Dv×List C):=
 match σ.jG.td ms,wN σ 0 fl with
 |some rs,some eV=>some (rs,eV)
 |_,_=>none
def JT (T:aO) (mc:lg) (aA:List bA) (sig:aN) (ds:List Dv):Option (List Dv×List C):=
 match dX T mc (Bt sig ds) with
 |some (.fG σ)=>σ.B2 aA (eC sig (ds.map (·.2)))
 |some (.ret σ)=>σ.B2 aA (eC sig (ds.map (·.2)))
 |_=>none
section
variable {B:Nat} {E:Ex} {w0 w w':World} {G G':Gh} {N:Nat} {h h':Nat->Option ao} {used:Nat->Bool}
variable {P:Program} {T:aO} {a:Act} {σ σ':St} {Q:Exit->Act->World->Prop}
def pz:PC->PB
 |.list _ a cap []=>⟨true,0,0,cap,[],a⟩
 |.list _ (some a) cap (e::xs)=>⟨false,a.block,a.off,cap,e::xs,none⟩
 |_=>default
theorem EE (sz:Nat) (a:Option Addr) (cap:Nat):pz (.list sz a cap [])=⟨true,0,0,cap,[],a⟩:=by
 cases a<;>rfl
theorem yZ {sz b o cap:Nat} {xs:List (List PC)} (h:xs≠[]):pz (.list sz (some (ad b o)) cap xs)=⟨false,b,o,cap,xs,none⟩:=by
 cases xs with
 |nil=>exact absurd rfl h
 |cons e xs=>rfl
theorem Good.cases {w:World} {sz cap:Nat} {a:Option Addr} {xs:List (List PC)} (h:Good w (.list sz a cap xs)):xs=[]\/(xs≠[]/\xs.length<=cap/\∃b o,a=some (ad b o)):=by
 cases h with
 |nil _ _ _ h=>exact .inl rfl
 |cons _ b o _ _ h1 h2=>exact .inr ⟨h1,h2,b,o,rfl⟩
def xZ (fl:List (Mode×PC)):Ex:=
 ⟨fun b=>∃x∈fl,aS b x.2,fun n=>if aK<=n then(fl[n - aK]?).map fun x=>pz x.2 else none,fun n p h=>(by
  by_cases hn:aK<=n
  ·exact hn
  ·rw[if_neg hn] at h;cases h),fun _=>True⟩
def nT (w:World) (fl:List (Mode×PC)):Gh:=
 ⟨fun b=>b<w.heap.size/\¬∃x∈fl,aS b x.2,fun n=>match fl[n - aK]? with|some x=>pz x.2|none=>default⟩
def ng (fl:List (Mode×PC)):Nat->Option ao:=fun n=>if aK<=n then((fl.map fun x=>(x.1,x.2.er))[n - aK]?).bind mU else none
theorem qc {fl:List (Mode×PC)} {n:Nat} {blk:ao} (hn:ng fl n=some blk):aK<=n/\∃m sz a cap xs,fl[n - aK]? =some (m,.list sz a cap xs)/\blk=.row false m sz (xs.map fun e=>e.map PC.er):=by
 unfold ng at hn
 split at hn
 ·rename_i hp
  refine⟨hp,?_⟩
  rw[List.getElem?_map] at hn
  cases hf:fl[n - aK]? with
  |none=>rw[hf] at hn;cases hn
  |some x=>
   rw[hf] at hn
   obtain⟨m,pc⟩:=x
   cases pc with
   |int k i=>simp[PC.er,mU] at hn
   |bool b=>simp[PC.er,mU] at hn
   |list sz a cap xs=>
    simp[PC.dJ,mU] at hn
    exact⟨m,sz,a,cap,xs,rfl,hn.symm⟩
 ·cases hn
theorem iT.Fq (b o sz cap:Nat) (xs:List (List PC)) (hc:cap≠0):iT b (.list sz (some (ad b o)) cap xs):=.inr ⟨_,_,_,_,rfl,hc⟩
theorem iT.row {b sz:Nat} {a:Option Addr} {cap:Nat} {xs:List (List PC)} (h:aV b xs):iT b (.list sz a cap xs):=by
 obtain⟨k,j,c,hk,hc⟩:=h
 exact .inl (.there _ _ _ _ k j c hk hc)
theorem Sep.row {sz:Nat} {a:Option Addr} {cap:Nat} {xs:List (List PC)} (h:Sep (.list sz a cap xs)):ij xs:=by
 cases h with
 |list _ _ _ _ h1 h2 h3=>exact⟨h1,h3⟩
theorem Good.rowAt {sz b o cap:Nat} {xs:List (List PC)} (h:Good w (.list sz (some (ad b o)) cap xs)):oD w b o sz xs:=by
 generalize hq:PC.list sz (some (ad b o)) cap xs=q at h
 cases h with
 |int k n=>cases hq
 |bool b=>cases hq
 |nil aJ a sn h0=>
  injection hq with h1 h2 h3 h4
  subst h4
  exact⟨by simp,by rintro k j c ⟨e,he,_⟩;simp at he,by rintro k j c ⟨e,he,_⟩;simp at he⟩
 |cons aJ b' o' sn aq h1 h2 h3 h4 h5 h6=>
  injection hq with e1 e2 e3 e4
  injection e2 with e2
  obtain⟨rfl,rfl⟩:=m4 e2
  subst e1 e3 e4
  exact⟨h4,h5,h6⟩
theorem HR.O9 {fl:List (Mode×PC)} (hg:∀x∈fl,Good w x.2) (fU:∀x∈fl,xA w x.1 x.2) (oQ:fl.Pairwise fun x y=>∀b,aS b x.2->¬aS b y.2):
  HR w.heap.size (xZ fl) w (nT w fl) (ng fl) (fun n=>Nat.ble aK n) []:=by
 have m7:∀{i j:Nat} {x y:Mode×PC},fl[i]? =some x->fl[j]? =some y->i≠j->∀b,aS b x.2->¬aS b y.2:=by
  intro i j x y hi hj jw b hb aY
  obtain⟨li,ei⟩:=List.getElem?_eq_some_iff.1 hi
  obtain⟨lj,ej⟩:=List.getElem?_eq_some_iff.1 hj
  rw[List.pairwise_iff_getElem] at oQ
  subst ei
  subst ej
  rcases Nat.lt_or_gt_of_ne jw with h|h
  ·exact oQ i j li lj h b hb aY
  ·exact oQ j i lj li h b aY hb
 have gg:∀{n:Nat} {x:Mode×PC},fl[n - aK]? =some x->(nT w fl).g n=pz x.2:=by intro n x h;simp only[nT,h]
 have Fq:∀{x:Mode×PC},x∈fl->(pz x.2).nl=false->aS (pz x.2).b x.2:=by
  intro x hx hl
  obtain⟨sz,a,cap,xs,e,_,_,_⟩:=(fU x hx).dR
  have yk:=hg x hx
  rw[e] at hl yk⊢
  rcases yk.cases with rfl|⟨aB,_,b,o,rfl⟩
  ·rw[EE] at hl;cases hl
  ·rw[yZ aB];exact .here _ _ _ _ aB
 have RL:∀{x:Mode×PC},x∈fl->∀b,aV b (pz x.2).px->aS b x.2:=by
  intro x hx b hb
  obtain⟨sz,a,cap,xs,e,_,_,_⟩:=(fU x hx).dR
  have yk:=hg x hx
  rw[e] at hb yk⊢
  rcases yk.cases with rfl|⟨aB,_,b,o,rfl⟩
  ·rw[EE] at hb
   obtain⟨k,j,c,⟨e,he,_⟩,_⟩:=hb
   simp at he
  ·rw[yZ aB] at hb
   obtain⟨k,j,c,hk,hc⟩:=hb
   exact .there _ _ _ _ k j c hk hc
 have sub:∀{n n':Nat},aK<=n->aK<=n'->n≠n'->n - aK≠n' - aK:=by intro n n' h1 h2 h3;omega
 refine⟨fun n hn=>?_,fun m cs c n hm=>?_,fun n cs hn=>?_,fun n gr m sz xs hn=>?_,fun n hn hl=>?_,fun n n' hn bj aB hl dw=>?_,fun b hb=>hb.1,fun b _=>.inr (.inr trivial),fun n n' gr m sz xs bk m' aJ aq hn bj _ _ aB b hb=>?_,
  fun n gr sz xs hn b hb n' bj dw=>?_,(by intro i pc hi;simp at hi),(by intro i j pc dg b _ hi;simp at hi),(by intro i pc n gr m sz xs b hi;simp at hi)⟩
 ·cases hh:ng fl n with
  |none=>exact absurd hh hn
  |some b=>exact Nat.ble_eq_true_of_le (qc hh).1
 ·obtain⟨_,m',sz,a,cap,xs,_,e⟩:=qc hm;cases e
 ·obtain⟨_,m',sz,a,cap,xs,_,e⟩:=qc hn;cases e
 ·obtain⟨hp,m',aJ,a,cap,aq,hf,e⟩:=qc hn
  injection e with e1 e2 e3 e4
  subst e1 e2 e3 e4
  have hx:(m,PC.list sz a cap aq)∈fl:=List.mem_of_getElem? hf
  have ok:=fU _ hx
  have eu:=hg _ hx
  obtain⟨jZ,a2,Hy,ii,e,dL,nX,vV⟩:=ok.dR
  injection e with e1 e2 e3 e4
  subst e1 e2 e3 e4
  rw[gg hf]
  have RN:∀b,aV b aq->aS b (PC.list sz a cap aq):=fun b ⟨k,j,c,hk,hc⟩=>.there _ _ _ _ k j c hk hc
  have f0:CJ w.heap.size (xZ fl) w (nT w fl) aq m:=by
   have kc:=Sep.row ok.sep
   cases m with
   |aD=>cases vV
   |ae=>exact⟨fun b hb=>absurd hb (B6 vV b),kc⟩
   |live=>exact⟨fun b hb=>⟨fun hi=>hi.2 ⟨_,hx,RN b hb⟩,ok.un b (RN b hb),.inr ⟨_,hx,RN b hb⟩⟩,kc⟩
  rcases eu.cases with rfl|⟨aB,ju,b,o,rfl⟩
  ·rw[EE]
   exact⟨dL,rfl,fun _=>⟨rfl,fun h=>by cases h⟩,(fun h=>by cases h),(fun h=>by cases h),f0⟩
  ·rw[yZ aB]
   exact⟨dL,rfl,(fun h=>by cases h),fun _=>⟨ok.un b (.here _ _ _ _ aB),Good.rowAt eu,ju⟩,(fun _ h=>by cases h),f0⟩
 ·cases hh:ng fl n with
  |none=>exact absurd hh hn
  |some blk=>
   obtain⟨hp,m',aJ,a,cap,aq,hf,e⟩:=qc hh
   have hx:(m',PC.list aJ a cap aq)∈fl:=List.mem_of_getElem? hf
   rw[gg hf] at hl⊢
   have ht:=Fq hx hl
   exact⟨fun hi=>hi.2 ⟨_,hx,ht⟩,.inr ⟨_,hx,ht⟩,((fU _ hx).un _ ht).lt⟩
 ·cases hh:ng fl n with
  |none=>exact absurd hh hn
  |some blk=>
   cases DP:ng fl n' with
   |none=>exact absurd DP bj
   |some adP=>
    obtain⟨hp,m1,r5,a1,An,qT,hf,_⟩:=qc hh
    obtain⟨bi,m2,jZ,a2,Hy,ii,gN,_⟩:=qc DP
    rw[gg hf] at hl⊢
    rw[gg gN] at dw⊢
    intro he
    exact m7 hf gN (sub hp bi aB) _ (Fq (List.mem_of_getElem? hf) hl) (he▸Fq (List.mem_of_getElem? gN) dw)
 ·obtain⟨hp,m1,r5,a1,An,qT,hf,_⟩:=qc hn
  obtain⟨bi,m2,jZ,a2,Hy,ii,gN,_⟩:=qc bj
  rw[gg hf] at hb
  rw[gg gN]
  exact fun aY=>m7 hf gN (sub hp bi aB) b (RL (List.mem_of_getElem? hf) b hb) (RL (List.mem_of_getElem? gN) b aY)
 ·obtain⟨hp,m1,r5,a1,An,qT,hf,_⟩:=qc hn
  rw[gg hf] at hb
  cases DP:ng fl n' with
  |none=>exact absurd DP bj
  |some adP=>
   obtain⟨bi,m2,jZ,a2,Hy,ii,gN,_⟩:=qc DP
   rw[gg gN] at dw⊢
   rintro rfl
   by_cases aB:n=n'
   ·subst aB
    rw[hf] at gN
    injection gN with gN
    injection gN with _ gN
    injection gN with q1 q2 q3 q4
    subst q1 q2 q3 q4
    have hm:=List.mem_of_getElem? hf
    obtain⟨sz,a,cap,xs,e,_,nX,_⟩:=(fU _ hm).dR
    have yk:=hg _ hm
    injection e with e1 e2 e3 e4
    subst e1 e2 e3 e4
    rcases yk.cases with rfl|⟨aB,_,b,o,rfl⟩
    ·rw[EE] at dw;cases dw
    ·rw[yZ aB] at hb
     exact nX b o rfl hb
   ·exact m7 hf gN (sub hp bi aB) _ (RL (List.mem_of_getElem? hf) _ hb) (Fq (List.mem_of_getElem? gN) dw)
end
end Go.Am
