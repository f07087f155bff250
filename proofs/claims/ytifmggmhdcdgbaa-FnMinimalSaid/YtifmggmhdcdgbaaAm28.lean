/- Am28: functions that change lists of their arguments: what is said of them, and how it follows from their code. No condition. -/
import Derived.Test.YtifmggmhdcdgbaaAm27
set_option linter.unusedVariables false
namespace Go.Am
def fS:Nat->List (Option Mode)->List C->List ai
 |c,some _::fs,.list sz xs::cs=>.sl (aF+c) sz 0 xs.length::fS (c+1) fs cs
 |c,some _::fs,x::cs=>.bf::fS (c+1) fs cs
 |c,none::fs,x::cs=>.c x::fS c fs cs
 |c,[],cs=>cs.map .c
 |c,_::_,[]=>[]
def rv (c:Nat) (s:List (Option Mode)):Dv->ak
 |(.one,xs)=>match fS c s xs with
  |[x]=>.one x
  |_=>.one .bf
 |(.agg,xs)=>.agg (fS c s xs)
 |(.ptr,xs)=>.one (.cd xs 0)
def lk:Nat->Nat->bo->List Dv->(Nat->ak)
 |_,_,_,[]=>uP
 |k,c,[],d::ds=>au (lk (k+1) c [] ds) k (rv c [] d)
 |k,c,s::sig,d::ds=>au (lk (k+1) (c+(dJ s d.2).length) sig ds) k (rv c s d)
def mg:Mode×C->Option aq
 |(m,.list sz xs)=>some (.row false m sz xs)
 |_=>none
def Ah (sig:bo) (ds:List Dv):St:=
 {env:=lk 0 0 sig ds
  h:=fun n=>if aF<=n then((dW sig (ds.map (·.2)))[n - aF]?).bind mg else none
  used:=fun n=>Nat.ble aF n}
def St.ja (σ:St):St:={σ with h:=fun n=>if aF<=n then none else σ.h n}
def AY (σ:St) (q:Nat) (x:Mode×C):Option C:=
 match x.2,σ.h (aF+q) with
 |.list sz xs,some (.row _ m' aG ar)=>if m'=x.1/\aG=sz/\ar.length=xs.length/\rJ x.1 ar=true/\ar.map (fun e=>e.map C.pB)=xs.map (fun e=>e.map C.pB) then some (.list sz ar) else none
 |_,_=>none
def vQ (σ:St):Nat->List (Mode×C)->Option (List C)
 |_,[]=>some []
 |q,x::l=>match AY σ q x,vQ σ (q+1) l with
  |some y,some ys=>some (y::ys)
  |_,_=>none
def St.Ba (σ:St) (ms:List bV) (fl:List (Mode×C)):Option (List Dv×List C):=
 match σ.ja.sC ms,vQ σ 0 fl with
 |some rs,some d7=>some (rs,d7)
 |_,_=>none
def Is (T:bg) (mc:kN) (aH:List bV) (sig:bo) (ds:List Dv):Option (List Dv×List C):=
 match dF T mc (Ah sig ds) with
 |some (.ft σ)=>σ.Ba aH (dW sig (ds.map (·.2)))
 |some (.ret σ)=>σ.Ba aH (dW sig (ds.map (·.2)))
 |_=>none
section
variable {B:Nat} {E:Ex} {w0 w w':World} {G G':Gh} {N:Nat} {h h':Nat->Option aq} {used:Nat->Bool}
variable {P:Program} {T:bg} {a:Act} {σ σ':St} {Q:Exit->Act->World->Prop}
def oD:PC->PB
 |.list _ a cap []=>⟨true,0,0,cap,[],a⟩
 |.list _ (some a) cap (e::xs)=>⟨false,a.block,a.off,cap,e::xs,none⟩
 |_=>default
theorem DH (sz:Nat) (a:Option Addr) (cap:Nat):oD (.list sz a cap [])=⟨true,0,0,cap,[],a⟩:=by
 cases a<;>rfl
theorem yq {sz b o cap:Nat} {xs:List (List PC)} (h:xs≠[]):oD (.list sz (some (ad b o)) cap xs)=⟨false,b,o,cap,xs,none⟩:=by
 cases xs with
 |nil=>exact absurd rfl h
 |cons e xs=>rfl
theorem Good.cases {w:World} {sz cap:Nat} {a:Option Addr} {xs:List (List PC)} (h:Good w (.list sz a cap xs)):xs=[]\/(xs≠[]/\xs.length<=cap/\∃b o,a=some (ad b o)):=by
 cases h with
 |nil _ _ _ h=>exact .inl rfl
 |cons _ b o _ _ h1 h2=>exact .inr ⟨h1,h2,b,o,rfl⟩
def xg (fl:List (Mode×PC)):Ex:=
 ⟨fun b=>∃x∈fl,aM b x.2,fun n=>if aF<=n then(fl[n - aF]?).map fun x=>oD x.2 else none,fun n p h=>(by
  by_cases hn:aF<=n
  ·exact hn
  ·rw[if_neg hn] at h;cases h),fun _=>True⟩
def nk (w:World) (fl:List (Mode×PC)):Gh:=
 ⟨fun b=>b<w.heap.size/\¬∃x∈fl,aM b x.2,fun n=>match fl[n - aF]? with|some x=>oD x.2|none=>default⟩
def mF (fl:List (Mode×PC)):Nat->Option aq:=fun n=>if aF<=n then((fl.map fun x=>(x.1,x.2.er))[n - aF]?).bind mg else none
theorem pk {fl:List (Mode×PC)} {n:Nat} {blk:aq} (hn:mF fl n=some blk):aF<=n/\∃m sz a cap xs,fl[n - aF]? =some (m,.list sz a cap xs)/\blk=.row false m sz (xs.map fun e=>e.map PC.er):=by
 unfold mF at hn
 split at hn
 ·rename_i hp
  refine⟨hp,?_⟩
  rw[List.getElem?_map] at hn
  cases hf:fl[n - aF]? with
  |none=>rw[hf] at hn;cases hn
  |some x=>
   rw[hf] at hn
   obtain⟨m,pc⟩:=x
   cases pc with
   |int k i=>simp[PC.er,mg] at hn
   |bool b=>simp[PC.er,mg] at hn
   |list sz a cap xs=>
    simp[PC.dr,mg] at hn
    exact⟨m,sz,a,cap,xs,rfl,hn.symm⟩
 ·cases hn
theorem iL.Em (b o sz cap:Nat) (xs:List (List PC)) (hc:cap≠0):iL b (.list sz (some (ad b o)) cap xs):=.inr ⟨_,_,_,_,rfl,hc⟩
theorem iL.row {b sz:Nat} {a:Option Addr} {cap:Nat} {xs:List (List PC)} (h:aP b xs):iL b (.list sz a cap xs):=by
 obtain⟨k,j,c,hk,hc⟩:=h
 exact .inl (.there _ _ _ _ k j c hk hc)
theorem Sep.row {sz:Nat} {a:Option Addr} {cap:Nat} {xs:List (List PC)} (h:Sep (.list sz a cap xs)):gS xs:=by
 cases h with
 |list _ _ _ _ h1 h2 h3=>exact⟨h1,h3⟩
theorem Good.rowAt {sz b o cap:Nat} {xs:List (List PC)} (h:Good w (.list sz (some (ad b o)) cap xs)):nT w b o sz xs:=by
 generalize hq:PC.list sz (some (ad b o)) cap xs=q at h
 cases h with
 |int k n=>cases hq
 |bool b=>cases hq
 |nil aG a rB h0=>
  injection hq with h1 h2 h3 h4
  subst h4
  exact⟨by simp,by rintro k j c ⟨e,he,_⟩;simp at he,by rintro k j c ⟨e,he,_⟩;simp at he⟩
 |cons aG b' o' rB ar h1 h2 h3 h4 h5 h6=>
  injection hq with e1 e2 e3 e4
  injection e2 with e2
  obtain⟨rfl,rfl⟩:=nb e2
  subst e1 e3 e4
  exact⟨h4,h5,h6⟩
theorem HR.Nc {fl:List (Mode×PC)} (hg:∀x∈fl,Good w x.2) (eF:∀x∈fl,wM w x.1 x.2) (n5:fl.Pairwise fun x y=>∀b,aM b x.2->¬aM b y.2):
  HR w.heap.size (xg fl) w (nk w fl) (mF fl) (fun n=>Nat.ble aF n) []:=by
 have mz:∀{i j:Nat} {x y:Mode×PC},fl[i]? =some x->fl[j]? =some y->i≠j->∀b,aM b x.2->¬aM b y.2:=by
  intro i j x y hi hj jN b hb aR
  obtain⟨li,ei⟩:=List.getElem?_eq_some_iff.1 hi
  obtain⟨lj,ej⟩:=List.getElem?_eq_some_iff.1 hj
  rw[List.pairwise_iff_getElem] at n5
  subst ei
  subst ej
  rcases Nat.lt_or_gt_of_ne jN with h|h
  ·exact n5 i j li lj h b hb aR
  ·exact n5 j i lj li h b aR hb
 have gg:∀{n:Nat} {x:Mode×PC},fl[n - aF]? =some x->(nk w fl).g n=oD x.2:=by intro n x h;simp only[nk,h]
 have Em:∀{x:Mode×PC},x∈fl->(oD x.2).nl=false->aM (oD x.2).b x.2:=by
  intro x hx hl
  obtain⟨sz,a,cap,xs,e,_,_,_⟩:=(eF x hx).dB
  have xD:=hg x hx
  rw[e] at hl xD⊢
  rcases xD.cases with rfl|⟨aw,_,b,o,rfl⟩
  ·rw[DH] at hl;cases hl
  ·rw[yq aw];exact .here _ _ _ _ aw
 have PQ:∀{x:Mode×PC},x∈fl->∀b,aP b (oD x.2).px->aM b x.2:=by
  intro x hx b hb
  obtain⟨sz,a,cap,xs,e,_,_,_⟩:=(eF x hx).dB
  have xD:=hg x hx
  rw[e] at hb xD⊢
  rcases xD.cases with rfl|⟨aw,_,b,o,rfl⟩
  ·rw[DH] at hb
   obtain⟨k,j,c,⟨e,he,_⟩,_⟩:=hb
   simp at he
  ·rw[yq aw] at hb
   obtain⟨k,j,c,hk,hc⟩:=hb
   exact .there _ _ _ _ k j c hk hc
 have sub:∀{n n':Nat},aF<=n->aF<=n'->n≠n'->n - aF≠n' - aF:=by intro n n' h1 h2 h3;omega
 refine⟨fun n hn=>?_,fun m cs c n hm=>?_,fun n cs hn=>?_,fun n gr m sz xs hn=>?_,fun n hn hl=>?_,fun n n' hn bk aw hl dq=>?_,fun b hb=>hb.1,fun b _=>.inr (.inr trivial),fun n n' gr m sz xs bh m' aG ar hn bk _ _ aw b hb=>?_,
  fun n gr sz xs hn b hb n' bk dq=>?_,(by intro i pc hi;simp at hi),(by intro i j pc c8 b _ hi;simp at hi),(by intro i pc n gr m sz xs b hi;simp at hi)⟩
 ·cases hh:mF fl n with
  |none=>exact absurd hh hn
  |some b=>exact Nat.ble_eq_true_of_le (pk hh).1
 ·obtain⟨_,m',sz,a,cap,xs,_,e⟩:=pk hm;cases e
 ·obtain⟨_,m',sz,a,cap,xs,_,e⟩:=pk hn;cases e
 ·obtain⟨hp,m',aG,a,cap,ar,hf,e⟩:=pk hn
  injection e with e1 e2 e3 e4
  subst e1 e2 e3 e4
  have hx:(m,PC.list sz a cap ar)∈fl:=List.mem_of_getElem? hf
  have ok:=eF _ hx
  have ek:=hg _ hx
  obtain⟨j5,a2,J8,gR,e,eu,nq,u5⟩:=ok.dB
  injection e with e1 e2 e3 e4
  subst e1 e2 e3 e4
  rw[gg hf]
  have PR:∀b,aP b ar->aM b (PC.list sz a cap ar):=fun b ⟨k,j,c,hk,hc⟩=>.there _ _ _ _ k j c hk hc
  have gu:BP w.heap.size (xg fl) w (nk w fl) ar m:=by
   have jO:=Sep.row ok.sep
   cases m with
   |aA=>cases u5
   |ae=>exact⟨fun b hb=>absurd hb (Bf u5 b),jO⟩
   |live=>exact⟨fun b hb=>⟨fun hi=>hi.2 ⟨_,hx,PR b hb⟩,ok.un b (PR b hb),.inr ⟨_,hx,PR b hb⟩⟩,jO⟩
  rcases ek.cases with rfl|⟨aw,jL,b,o,rfl⟩
  ·rw[DH]
   exact⟨eu,rfl,fun _=>⟨rfl,fun h=>by cases h⟩,(fun h=>by cases h),(fun h=>by cases h),gu⟩
  ·rw[yq aw]
   exact⟨eu,rfl,(fun h=>by cases h),fun _=>⟨ok.un b (.here _ _ _ _ aw),Good.rowAt ek,jL⟩,(fun _ h=>by cases h),gu⟩
 ·cases hh:mF fl n with
  |none=>exact absurd hh hn
  |some blk=>
   obtain⟨hp,m',aG,a,cap,ar,hf,e⟩:=pk hh
   have hx:(m',PC.list aG a cap ar)∈fl:=List.mem_of_getElem? hf
   rw[gg hf] at hl⊢
   have ht:=Em hx hl
   exact⟨fun hi=>hi.2 ⟨_,hx,ht⟩,.inr ⟨_,hx,ht⟩,((eF _ hx).un _ ht).lt⟩
 ·cases hh:mF fl n with
  |none=>exact absurd hh hn
  |some blk=>
   cases CM:mF fl n' with
   |none=>exact absurd CM bk
   |some aaE=>
    obtain⟨hp,m1,wq,a1,J7,uk,hf,_⟩:=pk hh
    obtain⟨aX,m2,j5,a2,J8,gR,jM,_⟩:=pk CM
    rw[gg hf] at hl⊢
    rw[gg jM] at dq⊢
    intro he
    exact mz hf jM (sub hp aX aw) _ (Em (List.mem_of_getElem? hf) hl) (he▸Em (List.mem_of_getElem? jM) dq)
 ·obtain⟨hp,m1,wq,a1,J7,uk,hf,_⟩:=pk hn
  obtain⟨aX,m2,j5,a2,J8,gR,jM,_⟩:=pk bk
  rw[gg hf] at hb
  rw[gg jM]
  exact fun aR=>mz hf jM (sub hp aX aw) b (PQ (List.mem_of_getElem? hf) b hb) (PQ (List.mem_of_getElem? jM) b aR)
 ·obtain⟨hp,m1,wq,a1,J7,uk,hf,_⟩:=pk hn
  rw[gg hf] at hb
  cases CM:mF fl n' with
  |none=>exact absurd CM bk
  |some aaE=>
   obtain⟨aX,m2,j5,a2,J8,gR,jM,_⟩:=pk CM
   rw[gg jM] at dq⊢
   rintro rfl
   by_cases aw:n=n'
   ·subst aw
    rw[hf] at jM
    injection jM with jM
    injection jM with _ jM
    injection jM with q1 q2 q3 q4
    subst q1 q2 q3 q4
    have hm:=List.mem_of_getElem? hf
    obtain⟨sz,a,cap,xs,e,_,nq,_⟩:=(eF _ hm).dB
    have xD:=hg _ hm
    injection e with e1 e2 e3 e4
    subst e1 e2 e3 e4
    rcases xD.cases with rfl|⟨aw,_,b,o,rfl⟩
    ·rw[DH] at dq;cases dq
    ·rw[yq aw] at hb
     exact nq b o rfl hb
   ·exact mz hf jM (sub hp aX aw) _ (PQ (List.mem_of_getElem? hf) _ hb) (Em (List.mem_of_getElem? jM) dq)
end
end Go.Am
