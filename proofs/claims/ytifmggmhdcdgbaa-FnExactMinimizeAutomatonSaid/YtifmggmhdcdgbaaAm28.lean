/- Am28: functions that change lists of their arguments: what is said of them, and how it follows from their code. No condition. -/
import Derived.Test.YtifmggmhdcdgbaaAm27
set_option linter.unusedVariables false
namespace Go.Am
def gv:Nat->List (Option Mode)->List C->List ah
 |c,some _::fs,.list sz xs::cs=>.sl (aI+c) sz 0 xs.length::gv (c+1) fs cs
 |c,some _::fs,x::cs=>.bj::gv (c+1) fs cs
 |c,none::fs,x::cs=>.c x::gv c fs cs
 |c,[],cs=>cs.map .c
 |c,_::_,[]=>[]
def rU (c:Nat) (s:List (Option Mode)):Dv->aj
 |(.one,xs)=>match gv c s xs with
  |[x]=>.one x
  |_=>.one .bj
 |(.agg,xs)=>.agg (gv c s xs)
 |(.ptr,xs)=>.one (.cf xs 0)
def lV:Nat->Nat->aW->List Dv->(Nat->aj)
 |_,_,_,[]=>vm
 |k,c,[],d::ds=>av (lV (k+1) c [] ds) k (rU c [] d)
 |k,c,s::sig,d::ds=>av (lV (k+1) (c+(dU s d.2).length) sig ds) k (rU c s d)
def mT:Mode×C->Option aq
 |(m,.list sz xs)=>some (.row false m sz xs)
 |_=>none
def Al (sig:aW) (ds:List Dv):St:=
 {env:=lV 0 0 sig ds
  h:=fun n=>if aI<=n then((eF sig (ds.map (·.2)))[n - aI]?).bind mT else none
  used:=fun n=>Nat.ble aI n}
def St.jM (σ:St):St:={σ with h:=fun n=>if aI<=n then none else σ.h n}
def AX (σ:St) (q:Nat) (x:Mode×C):Option C:=
 match x.2,σ.h (aI+q) with
 |.list sz xs,some (.row _ m' aK ar)=>if m'=x.1/\aK=sz/\ar.length=xs.length/\sd x.1 ar=true/\ar.map (fun e=>e.map C.qh)=xs.map (fun e=>e.map C.qh) then some (.list sz ar) else none
 |_,_=>none
def wl (σ:St):Nat->List (Mode×C)->Option (List C)
 |_,[]=>some []
 |q,x::l=>match AX σ q x,wl σ (q+1) l with
  |some y,some ys=>some (y::ys)
  |_,_=>none
def St.Ba (σ:St) (ms:List bA) (fl:List (Mode×C)):Option (List Dv×List C):=
 match σ.jM.sT ms,wl σ 0 fl with
 |some rs,some eJ=>some (rs,eJ)
 |_,_=>none
def II (T:bh) (mc:lz) (aB:List bA) (sig:aW) (ds:List Dv):Option (List Dv×List C):=
 match dK T mc (Al sig ds) with
 |some (.fC σ)=>σ.Ba aB (eF sig (ds.map (·.2)))
 |some (.ret σ)=>σ.Ba aB (eF sig (ds.map (·.2)))
 |_=>none
section
variable {B:Nat} {E:Ex} {w0 w w':World} {G G':Gh} {N:Nat} {h h':Nat->Option aq} {used:Nat->Bool}
variable {P:Program} {T:bh} {a:Act} {σ σ':St} {Q:Exit->Act->World->Prop}
def pz:PC->PB
 |.list _ a cap []=>⟨true,0,0,cap,[],a⟩
 |.list _ (some a) cap (e::xs)=>⟨false,a.block,a.off,cap,e::xs,none⟩
 |_=>default
theorem DH (sz:Nat) (a:Option Addr) (cap:Nat):pz (.list sz a cap [])=⟨true,0,0,cap,[],a⟩:=by
 cases a<;>rfl
theorem yw {sz b o cap:Nat} {xs:List (List PC)} (h:xs≠[]):pz (.list sz (some (ad b o)) cap xs)=⟨false,b,o,cap,xs,none⟩:=by
 cases xs with
 |nil=>exact absurd rfl h
 |cons e xs=>rfl
theorem Good.cases {w:World} {sz cap:Nat} {a:Option Addr} {xs:List (List PC)} (h:Good w (.list sz a cap xs)):xs=[]\/(xs≠[]/\xs.length<=cap/\∃b o,a=some (ad b o)):=by
 cases h with
 |nil _ _ _ h=>exact .inl rfl
 |cons _ b o _ _ h1 h2=>exact .inr ⟨h1,h2,b,o,rfl⟩
def xv (fl:List (Mode×PC)):Ex:=
 ⟨fun b=>∃x∈fl,aR b x.2,fun n=>if aI<=n then(fl[n - aI]?).map fun x=>pz x.2 else none,fun n p h=>(by
  by_cases hn:aI<=n
  ·exact hn
  ·rw[if_neg hn] at h;cases h),fun _=>True⟩
def nZ (w:World) (fl:List (Mode×PC)):Gh:=
 ⟨fun b=>b<w.heap.size/\¬∃x∈fl,aR b x.2,fun n=>match fl[n - aI]? with|some x=>pz x.2|none=>default⟩
def nj (fl:List (Mode×PC)):Nat->Option aq:=fun n=>if aI<=n then((fl.map fun x=>(x.1,x.2.er))[n - aI]?).bind mT else none
theorem pW {fl:List (Mode×PC)} {n:Nat} {blk:aq} (hn:nj fl n=some blk):aI<=n/\∃m sz a cap xs,fl[n - aI]? =some (m,.list sz a cap xs)/\blk=.row false m sz (xs.map fun e=>e.map PC.er):=by
 unfold nj at hn
 split at hn
 ·rename_i hp
  refine⟨hp,?_⟩
  rw[List.getElem?_map] at hn
  cases hf:fl[n - aI]? with
  |none=>rw[hf] at hn;cases hn
  |some x=>
   rw[hf] at hn
   obtain⟨m,pc⟩:=x
   cases pc with
   |int k i=>simp[PC.er,mT] at hn
   |bool b=>simp[PC.er,mT] at hn
   |list sz a cap xs=>
    simp[PC.dw,mT] at hn
    exact⟨m,sz,a,cap,xs,rfl,hn.symm⟩
 ·cases hn
theorem jr.Ep (b o sz cap:Nat) (xs:List (List PC)) (hc:cap≠0):jr b (.list sz (some (ad b o)) cap xs):=.inr ⟨_,_,_,_,rfl,hc⟩
theorem jr.row {b sz:Nat} {a:Option Addr} {cap:Nat} {xs:List (List PC)} (h:aV b xs):jr b (.list sz a cap xs):=by
 obtain⟨k,j,c,hk,hc⟩:=h
 exact .inl (.there _ _ _ _ k j c hk hc)
theorem Sep.row {sz:Nat} {a:Option Addr} {cap:Nat} {xs:List (List PC)} (h:Sep (.list sz a cap xs)):io xs:=by
 cases h with
 |list _ _ _ _ h1 h2 h3=>exact⟨h1,h3⟩
theorem Good.rowAt {sz b o cap:Nat} {xs:List (List PC)} (h:Good w (.list sz (some (ad b o)) cap xs)):oL w b o sz xs:=by
 generalize hq:PC.list sz (some (ad b o)) cap xs=q at h
 cases h with
 |int k n=>cases hq
 |bool b=>cases hq
 |nil aK a rZ h0=>
  injection hq with h1 h2 h3 h4
  subst h4
  exact⟨by simp,by rintro k j c ⟨e,he,_⟩;simp at he,by rintro k j c ⟨e,he,_⟩;simp at he⟩
 |cons aK b' o' rZ ar h1 h2 h3 h4 h5 h6=>
  injection hq with e1 e2 e3 e4
  injection e2 with e2
  obtain⟨rfl,rfl⟩:=nQ e2
  subst e1 e3 e4
  exact⟨h4,h5,h6⟩
theorem HR.NC {fl:List (Mode×PC)} (hg:∀x∈fl,Good w x.2) (fH:∀x∈fl,w7 w x.1 x.2) (oV:fl.Pairwise fun x y=>∀b,aR b x.2->¬aR b y.2):
  HR w.heap.size (xv fl) w (nZ w fl) (nj fl) (fun n=>Nat.ble aI n) []:=by
 have nb:∀{i j:Nat} {x y:Mode×PC},fl[i]? =some x->fl[j]? =some y->i≠j->∀b,aR b x.2->¬aR b y.2:=by
  intro i j x y hi hj ko b hb aX
  obtain⟨li,ei⟩:=List.getElem?_eq_some_iff.1 hi
  obtain⟨lj,ej⟩:=List.getElem?_eq_some_iff.1 hj
  rw[List.pairwise_iff_getElem] at oV
  subst ei
  subst ej
  rcases Nat.lt_or_gt_of_ne ko with h|h
  ·exact oV i j li lj h b hb aX
  ·exact oV j i lj li h b aX hb
 have gg:∀{n:Nat} {x:Mode×PC},fl[n - aI]? =some x->(nZ w fl).g n=pz x.2:=by intro n x h;simp only[nZ,h]
 have Ep:∀{x:Mode×PC},x∈fl->(pz x.2).nl=false->aR (pz x.2).b x.2:=by
  intro x hx hl
  obtain⟨sz,a,cap,xs,e,_,_,_⟩:=(fH x hx).dE
  have xO:=hg x hx
  rw[e] at hl xO⊢
  rcases xO.cases with rfl|⟨aC,_,b,o,rfl⟩
  ·rw[DH] at hl;cases hl
  ·rw[yw aC];exact .here _ _ _ _ aC
 have P3:∀{x:Mode×PC},x∈fl->∀b,aV b (pz x.2).px->aR b x.2:=by
  intro x hx b hb
  obtain⟨sz,a,cap,xs,e,_,_,_⟩:=(fH x hx).dE
  have xO:=hg x hx
  rw[e] at hb xO⊢
  rcases xO.cases with rfl|⟨aC,_,b,o,rfl⟩
  ·rw[DH] at hb
   obtain⟨k,j,c,⟨e,he,_⟩,_⟩:=hb
   simp at he
  ·rw[yw aC] at hb
   obtain⟨k,j,c,hk,hc⟩:=hb
   exact .there _ _ _ _ k j c hk hc
 have sub:∀{n n':Nat},aI<=n->aI<=n'->n≠n'->n - aI≠n' - aI:=by intro n n' h1 h2 h3;omega
 refine⟨fun n hn=>?_,fun m cs c n hm=>?_,fun n cs hn=>?_,fun n gr m sz xs hn=>?_,fun n hn hl=>?_,fun n n' hn bn aC hl dC=>?_,fun b hb=>hb.1,fun b _=>.inr (.inr trivial),fun n n' gr m sz xs bi m' aK ar hn bn _ _ aC b hb=>?_,
  fun n gr sz xs hn b hb n' bn dC=>?_,(by intro i pc hi;simp at hi),(by intro i j pc df b _ hi;simp at hi),(by intro i pc n gr m sz xs b hi;simp at hi)⟩
 ·cases hh:nj fl n with
  |none=>exact absurd hh hn
  |some b=>exact Nat.ble_eq_true_of_le (pW hh).1
 ·obtain⟨_,m',sz,a,cap,xs,_,e⟩:=pW hm;cases e
 ·obtain⟨_,m',sz,a,cap,xs,_,e⟩:=pW hn;cases e
 ·obtain⟨hp,m',aK,a,cap,ar,hf,e⟩:=pW hn
  injection e with e1 e2 e3 e4
  subst e1 e2 e3 e4
  have hx:(m,PC.list sz a cap ar)∈fl:=List.mem_of_getElem? hf
  have ok:=fH _ hx
  have dV:=hg _ hx
  obtain⟨kG,a2,KF,il,e,eO,n5,vw⟩:=ok.dE
  injection e with e1 e2 e3 e4
  subst e1 e2 e3 e4
  rw[gg hf]
  have P4:∀b,aV b ar->aR b (PC.list sz a cap ar):=fun b ⟨k,j,c,hk,hc⟩=>.there _ _ _ _ k j c hk hc
  have gK:BQ w.heap.size (xv fl) w (nZ w fl) ar m:=by
   have kt:=Sep.row ok.sep
   cases m with
   |aF=>cases vw
   |aa=>exact⟨fun b hb=>absurd hb (Bg vw b),kt⟩
   |live=>exact⟨fun b hb=>⟨fun hi=>hi.2 ⟨_,hx,P4 b hb⟩,ok.un b (P4 b hb),.inr ⟨_,hx,P4 b hb⟩⟩,kt⟩
  rcases dV.cases with rfl|⟨aC,kl,b,o,rfl⟩
  ·rw[DH]
   exact⟨eO,rfl,fun _=>⟨rfl,fun h=>by cases h⟩,(fun h=>by cases h),(fun h=>by cases h),gK⟩
  ·rw[yw aC]
   exact⟨eO,rfl,(fun h=>by cases h),fun _=>⟨ok.un b (.here _ _ _ _ aC),Good.rowAt dV,kl⟩,(fun _ h=>by cases h),gK⟩
 ·cases hh:nj fl n with
  |none=>exact absurd hh hn
  |some blk=>
   obtain⟨hp,m',aK,a,cap,ar,hf,e⟩:=pW hh
   have hx:(m',PC.list aK a cap ar)∈fl:=List.mem_of_getElem? hf
   rw[gg hf] at hl⊢
   have ht:=Ep hx hl
   exact⟨fun hi=>hi.2 ⟨_,hx,ht⟩,.inr ⟨_,hx,ht⟩,((fH _ hx).un _ ht).lt⟩
 ·cases hh:nj fl n with
  |none=>exact absurd hh hn
  |some blk=>
   cases CM:nj fl n' with
   |none=>exact absurd CM bn
   |some aaQ=>
    obtain⟨hp,m1,wL,a1,KE,uS,hf,_⟩:=pW hh
    obtain⟨be,m2,kG,a2,KF,il,km,_⟩:=pW CM
    rw[gg hf] at hl⊢
    rw[gg km] at dC⊢
    intro he
    exact nb hf km (sub hp be aC) _ (Ep (List.mem_of_getElem? hf) hl) (he▸Ep (List.mem_of_getElem? km) dC)
 ·obtain⟨hp,m1,wL,a1,KE,uS,hf,_⟩:=pW hn
  obtain⟨be,m2,kG,a2,KF,il,km,_⟩:=pW bn
  rw[gg hf] at hb
  rw[gg km]
  exact fun aX=>nb hf km (sub hp be aC) b (P3 (List.mem_of_getElem? hf) b hb) (P3 (List.mem_of_getElem? km) b aX)
 ·obtain⟨hp,m1,wL,a1,KE,uS,hf,_⟩:=pW hn
  rw[gg hf] at hb
  cases CM:nj fl n' with
  |none=>exact absurd CM bn
  |some aaQ=>
   obtain⟨be,m2,kG,a2,KF,il,km,_⟩:=pW CM
   rw[gg km] at dC⊢
   rintro rfl
   by_cases aC:n=n'
   ·subst aC
    rw[hf] at km
    injection km with km
    injection km with _ km
    injection km with q1 q2 q3 q4
    subst q1 q2 q3 q4
    have hm:=List.mem_of_getElem? hf
    obtain⟨sz,a,cap,xs,e,_,n5,_⟩:=(fH _ hm).dE
    have xO:=hg _ hm
    injection e with e1 e2 e3 e4
    subst e1 e2 e3 e4
    rcases xO.cases with rfl|⟨aC,_,b,o,rfl⟩
    ·rw[DH] at dC;cases dC
    ·rw[yw aC] at hb
     exact n5 b o rfl hb
   ·exact nb hf km (sub hp be aC) _ (P3 (List.mem_of_getElem? hf) _ hb) (Ep (List.mem_of_getElem? km) dC)
end
end Go.Am
