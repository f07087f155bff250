/- Am28: functions that change lists of their arguments: what is said of them, and how it follows from their code. No condition. -/
import Derived.Test.YtbgmbplglejidaaAm27
set_option linter.unusedVariables false
namespace Go.Am
def gO:Nat->List (Option Mode)->List C->List aj
 |c,some _::fs,.list sz xs::cs=>.sl (aK+c) sz 0 xs.length::gO (c+1) fs cs
 |c,some _::fs,x::cs=>.bq::gO (c+1) fs cs
 |c,none::fs,x::cs=>.c x::gO c fs cs
 |c,[],cs=>cs.map .c
 |c,_::_,[]=>[]
def sZ (c:Nat) (s:List (Option Mode)):Dv->ak
 |(.one,xs)=>match gO c s xs with
  |[x]=>.one x
  |_=>.one .bq
 |(.agg,xs)=>.agg (gO c s xs)
 |(.ptr,xs)=>.one (.cH xs 0)
def mM:Nat->Nat->aQ->List Dv->(Nat->ak)
 |_,_,_,[]=>wG
 |k,c,[],d::ds=>aA (mM (k+1) c [] ds) k (sZ c [] d)
 |k,c,s::sig,d::ds=>aA (mM (k+1) (c+(eC s d.2).length) sig ds) k (sZ c s d)
def nA:Mode×C->Option ar
 |(m,.list sz xs)=>some (.row false m sz xs)
 |_=>none
def CC (sig:aQ) (ds:List Dv):St:=
 {env:=mM 0 0 sig ds
  h:=fun n=>if aK<=n then((eJ sig (ds.map (·.2)))[n - aK]?).bind nA else none
  used:=fun n=>Nat.ble aK n}
def St.j5 (σ:St):St:={σ with h:=fun n=>if aK<=n then none else σ.h n}
def C4 (σ:St) (q:Nat) (x:Mode×C):Option C:=
 match x.2,σ.h (aK+q) with
 |.list sz xs,some (.row _ m' aJ au)=>if m'=x.1/\aJ=sz/\au.length=xs.length/\tj x.1 au=true/\au.map (fun e=>e.map C.rb)=xs.map (fun e=>e.map C.rb) then some (.list sz au) else none
 |_,_=>none
def xD (σ:St):Nat->List (Mode×C)->Option (List C)
 |_,[]=>some []
 |q,x::l=>match C4 σ q x,xD σ (q+1) l with
  |some y,some ys=>some (y::ys)
  |_,_=>none
def St.De (σ:St) (ms:List bD) (fl:List (Mode×C)):Option (List Dv×List C):=
 match σ.j5.tY ms,xD σ 0 fl with
 |some rs,some fb=>some (rs,fb)
 |_,_=>none
def Li (T:aT) (mc:mh) (aF:List bD) (sig:aQ) (ds:List Dv):Option (List Dv×List C):=
 match d8 T mc (CC sig ds) with
 |some (.fR σ)=>σ.De aF (eJ sig (ds.map (·.2)))
 |some (.ret σ)=>σ.De aF (eJ sig (ds.map (·.2)))
 |_=>none
section
variable {B:Nat} {E:Ex} {w0 w w':World} {G G':Gh} {N:Nat} {h h':Nat->Option ar} {used:Nat->Bool}
variable {P:Program} {T:aT} {a:Act} {σ σ':St} {Q:Exit->Act->World->Prop}
def qh:PC->PB
 |.list _ a cap []=>⟨true,0,0,cap,[],a⟩
 |.list _ (some a) cap (e::xs)=>⟨false,a.block,a.off,cap,e::xs,none⟩
 |_=>default
theorem FZ (sz:Nat) (a:Option Addr) (cap:Nat):qh (.list sz a cap [])=⟨true,0,0,cap,[],a⟩:=by
 cases a<;>rfl
theorem Aa {sz b o cap:Nat} {xs:List (List PC)} (h:xs≠[]):qh (.list sz (some (ad b o)) cap xs)=⟨false,b,o,cap,xs,none⟩:=by
 cases xs with
 |nil=>exact absurd rfl h
 |cons e xs=>rfl
theorem Good.cases {w:World} {sz cap:Nat} {a:Option Addr} {xs:List (List PC)} (h:Good w (.list sz a cap xs)):xs=[]\/(xs≠[]/\xs.length<=cap/\∃b o,a=some (ad b o)):=by
 cases h with
 |nil _ _ _ h=>exact .inl rfl
 |cons _ b o _ _ h1 h2=>exact .inr ⟨h1,h2,b,o,rfl⟩
def yQ (fl:List (Mode×PC)):Ex:=
 ⟨fun b=>∃x∈fl,aX b x.2,fun n=>if aK<=n then(fl[n - aK]?).map fun x=>qh x.2 else none,fun n p h=>(by
  by_cases hn:aK<=n
  ·exact hn
  ·rw[if_neg hn] at h;cases h),fun _=>True⟩
def oM (w:World) (fl:List (Mode×PC)):Gh:=
 ⟨fun b=>b<w.heap.size/\¬∃x∈fl,aX b x.2,fun n=>match fl[n - aK]? with|some x=>qh x.2|none=>default⟩
def nT (fl:List (Mode×PC)):Nat->Option ar:=fun n=>if aK<=n then((fl.map fun x=>(x.1,x.2.er))[n - aK]?).bind nA else none
theorem qS {fl:List (Mode×PC)} {n:Nat} {blk:ar} (hn:nT fl n=some blk):aK<=n/\∃m sz a cap xs,fl[n - aK]? =some (m,.list sz a cap xs)/\blk=.row false m sz (xs.map fun e=>e.map PC.er):=by
 unfold nT at hn
 split at hn
 ·rename_i hp
  refine⟨hp,?_⟩
  rw[List.getElem?_map] at hn
  cases hf:fl[n - aK]? with
  |none=>rw[hf] at hn;cases hn
  |some x=>
   rw[hf] at hn
   obtain⟨m,pc⟩:=x
   cases pc with
   |int k i=>simp[PC.er,nA] at hn
   |bool b=>simp[PC.er,nA] at hn
   |list sz a cap xs=>
    simp[PC.dR,nA] at hn
    exact⟨m,sz,a,cap,xs,rfl,hn.symm⟩
 ·cases hn
theorem ju.GP (b o sz cap:Nat) (xs:List (List PC)) (hc:cap≠0):ju b (.list sz (some (ad b o)) cap xs):=.inr ⟨_,_,_,_,rfl,hc⟩
theorem ju.row {b sz:Nat} {a:Option Addr} {cap:Nat} {xs:List (List PC)} (h:aZ b xs):ju b (.list sz a cap xs):=by
 obtain⟨k,j,c,hk,hc⟩:=h
 exact .inl (.there _ _ _ _ k j c hk hc)
theorem Sep.row {sz:Nat} {a:Option Addr} {cap:Nat} {xs:List (List PC)} (h:Sep (.list sz a cap xs)):iI xs:=by
 cases h with
 |list _ _ _ _ h1 h2 h3=>exact⟨h1,h3⟩
theorem Good.rowAt {sz b o cap:Nat} {xs:List (List PC)} (h:Good w (.list sz (some (ad b o)) cap xs)):pB w b o sz xs:=by
 generalize hq:PC.list sz (some (ad b o)) cap xs=q at h
 cases h with
 |int k n=>cases hq
 |bool b=>cases hq
 |nil aJ a ta h0=>
  injection hq with h1 h2 h3 h4
  subst h4
  exact⟨by simp,by rintro k j c ⟨e,he,_⟩;simp at he,by rintro k j c ⟨e,he,_⟩;simp at he⟩
 |cons aJ b' o' ta au h1 h2 h3 h4 h5 h6=>
  injection hq with e1 e2 e3 e4
  injection e2 with e2
  obtain⟨rfl,rfl⟩:=nG e2
  subst e1 e3 e4
  exact⟨h4,h5,h6⟩
theorem HR.QG {fl:List (Mode×PC)} (hg:∀x∈fl,Good w x.2) (fH:∀x∈fl,yn w x.1 x.2) (pO:fl.Pairwise fun x y=>∀b,aX b x.2->¬aX b y.2):
  HR w.heap.size (yQ fl) w (oM w fl) (nT fl) (fun n=>Nat.ble aK n) []:=by
 have nM:∀{i j:Nat} {x y:Mode×PC},fl[i]? =some x->fl[j]? =some y->i≠j->∀b,aX b x.2->¬aX b y.2:=by
  intro i j x y hi hj jS b hb be
  obtain⟨li,ei⟩:=List.getElem?_eq_some_iff.1 hi
  obtain⟨lj,ej⟩:=List.getElem?_eq_some_iff.1 hj
  rw[List.pairwise_iff_getElem] at pO
  subst ei
  subst ej
  rcases Nat.lt_or_gt_of_ne jS with h|h
  ·exact pO i j li lj h b hb be
  ·exact pO j i lj li h b be hb
 have gg:∀{n:Nat} {x:Mode×PC},fl[n - aK]? =some x->(oM w fl).g n=qh x.2:=by intro n x h;simp only[oM,h]
 have GP:∀{x:Mode×PC},x∈fl->(qh x.2).nl=false->aX (qh x.2).b x.2:=by
  intro x hx hl
  obtain⟨sz,a,cap,xs,e,_,_,_⟩:=(fH x hx).dW
  have zg:=hg x hx
  rw[e] at hl zg⊢
  rcases zg.cases with rfl|⟨aD,_,b,o,rfl⟩
  ·rw[FZ] at hl;cases hl
  ·rw[Aa aD];exact .here _ _ _ _ aD
 have TH:∀{x:Mode×PC},x∈fl->∀b,aZ b (qh x.2).px->aX b x.2:=by
  intro x hx b hb
  obtain⟨sz,a,cap,xs,e,_,_,_⟩:=(fH x hx).dW
  have zg:=hg x hx
  rw[e] at hb zg⊢
  rcases zg.cases with rfl|⟨aD,_,b,o,rfl⟩
  ·rw[FZ] at hb
   obtain⟨k,j,c,⟨e,he,_⟩,_⟩:=hb
   simp at he
  ·rw[Aa aD] at hb
   obtain⟨k,j,c,hk,hc⟩:=hb
   exact .there _ _ _ _ k j c hk hc
 have sub:∀{n n':Nat},aK<=n->aK<=n'->n≠n'->n - aK≠n' - aK:=by intro n n' h1 h2 h3;omega
 refine⟨fun n hn=>?_,fun m cs c n hm=>?_,fun n cs hn=>?_,fun n gr m sz xs hn=>?_,fun n hn hl=>?_,fun n n' hn bm aD hl dQ=>?_,fun b hb=>hb.1,fun b _=>.inr (.inr trivial),fun n n' gr m sz xs bo m' aJ au hn bm _ _ aD b hb=>?_,
  fun n gr sz xs hn b hb n' bm dQ=>?_,(by intro i pc hi;simp at hi),(by intro i j pc dq b _ hi;simp at hi),(by intro i pc n gr m sz xs b hi;simp at hi)⟩
 ·cases hh:nT fl n with
  |none=>exact absurd hh hn
  |some b=>exact Nat.ble_eq_true_of_le (qS hh).1
 ·obtain⟨_,m',sz,a,cap,xs,_,e⟩:=qS hm;cases e
 ·obtain⟨_,m',sz,a,cap,xs,_,e⟩:=qS hn;cases e
 ·obtain⟨hp,m',aJ,a,cap,au,hf,e⟩:=qS hn
  injection e with e1 e2 e3 e4
  subst e1 e2 e3 e4
  have hx:(m,PC.list sz a cap au)∈fl:=List.mem_of_getElem? hf
  have ok:=fH _ hx
  have eD:=hg _ hx
  obtain⟨kL,a2,I5,iH,e,dU,oP,wS⟩:=ok.dW
  injection e with e1 e2 e3 e4
  subst e1 e2 e3 e4
  rw[gg hf]
  have TI:∀b,aZ b au->aX b (PC.list sz a cap au):=fun b ⟨k,j,c,hk,hc⟩=>.there _ _ _ _ k j c hk hc
  have gx:D5 w.heap.size (yQ fl) w (oM w fl) au m:=by
   have kS:=Sep.row ok.sep
   cases m with
   |aG=>cases wS
   |ae=>exact⟨fun b hb=>absurd hb (Di wS b),kS⟩
   |live=>exact⟨fun b hb=>⟨fun hi=>hi.2 ⟨_,hx,TI b hb⟩,ok.un b (TI b hb),.inr ⟨_,hx,TI b hb⟩⟩,kS⟩
  rcases eD.cases with rfl|⟨aD,jQ,b,o,rfl⟩
  ·rw[FZ]
   exact⟨dU,rfl,fun _=>⟨rfl,fun h=>by cases h⟩,(fun h=>by cases h),(fun h=>by cases h),gx⟩
  ·rw[Aa aD]
   exact⟨dU,rfl,(fun h=>by cases h),fun _=>⟨ok.un b (.here _ _ _ _ aD),Good.rowAt eD,jQ⟩,(fun _ h=>by cases h),gx⟩
 ·cases hh:nT fl n with
  |none=>exact absurd hh hn
  |some blk=>
   obtain⟨hp,m',aJ,a,cap,au,hf,e⟩:=qS hh
   have hx:(m',PC.list aJ a cap au)∈fl:=List.mem_of_getElem? hf
   rw[gg hf] at hl⊢
   have ht:=GP hx hl
   exact⟨fun hi=>hi.2 ⟨_,hx,ht⟩,.inr ⟨_,hx,ht⟩,((fH _ hx).un _ ht).lt⟩
 ·cases hh:nT fl n with
  |none=>exact absurd hh hn
  |some blk=>
   cases Fa:nT fl n' with
   |none=>exact absurd Fa bm
   |some afC=>
    obtain⟨hp,m1,sM,a1,BB,rK,hf,_⟩:=qS hh
    obtain⟨bg,m2,kL,a2,I5,iH,kR,_⟩:=qS Fa
    rw[gg hf] at hl⊢
    rw[gg kR] at dQ⊢
    intro he
    exact nM hf kR (sub hp bg aD) _ (GP (List.mem_of_getElem? hf) hl) (he▸GP (List.mem_of_getElem? kR) dQ)
 ·obtain⟨hp,m1,sM,a1,BB,rK,hf,_⟩:=qS hn
  obtain⟨bg,m2,kL,a2,I5,iH,kR,_⟩:=qS bm
  rw[gg hf] at hb
  rw[gg kR]
  exact fun be=>nM hf kR (sub hp bg aD) b (TH (List.mem_of_getElem? hf) b hb) (TH (List.mem_of_getElem? kR) b be)
 ·obtain⟨hp,m1,sM,a1,BB,rK,hf,_⟩:=qS hn
  rw[gg hf] at hb
  cases Fa:nT fl n' with
  |none=>exact absurd Fa bm
  |some afC=>
   obtain⟨bg,m2,kL,a2,I5,iH,kR,_⟩:=qS Fa
   rw[gg kR] at dQ⊢
   rintro rfl
   by_cases aD:n=n'
   ·subst aD
    rw[hf] at kR
    injection kR with kR
    injection kR with _ kR
    injection kR with q1 q2 q3 q4
    subst q1 q2 q3 q4
    have hm:=List.mem_of_getElem? hf
    obtain⟨sz,a,cap,xs,e,_,oP,_⟩:=(fH _ hm).dW
    have zg:=hg _ hm
    injection e with e1 e2 e3 e4
    subst e1 e2 e3 e4
    rcases zg.cases with rfl|⟨aD,_,b,o,rfl⟩
    ·rw[FZ] at dQ;cases dQ
    ·rw[Aa aD] at hb
     exact oP b o rfl hb
   ·exact nM hf kR (sub hp bg aD) _ (TH (List.mem_of_getElem? hf) _ hb) (GP (List.mem_of_getElem? kR) dQ)
end
end Go.Am
