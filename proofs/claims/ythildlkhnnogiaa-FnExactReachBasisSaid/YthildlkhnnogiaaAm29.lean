/- Am28, Am29: parts of the proof. No condition. -/
import Derived.Test.YthildlkhnnogiaaAm27
set_option linter.unusedVariables false
section
namespace Go.Am
def gn:Nat->List (Option Mode)->List C->List ab
 |c,some _::fs,.list sz xs::cs=>.sl (aJ+c) sz 0 xs.length::gn (c+1) fs cs
 |c,some _::fs,x::cs=>.aX::gn (c+1) fs cs
 |c,none::fs,x::cs=>.c x::gn c fs cs
 |c,[],cs=>cs.map .c
 |c,_::_,[]=>[]
def DC (c:Nat) (s:List (Option Mode)) (xs:List C):ab:=
 match s with
 |[]=>.cd xs 0
 |_::_=>match xs.getLast? with
  |some (.list sz l)=>.bK xs 0 (xs.length - 1) (aJ+c) sz l.length
  |_=>.aX
def oV (c:Nat) (s:List (Option Mode)):Dv->ah
 |(.one,xs)=>match gn c s xs with
  |[x]=>.one x
  |_=>.one .aX
 |(.agg,xs)=>.agg (gn c s xs)
 |(.ptr,xs)=>.one (DC c s xs)
def lH:Nat->Nat->aN->List Dv->(Nat->ah)
 |_,_,_,[]=>wU
 |k,c,[],d::ds=>ao (lH (k+1) c [] ds) k (oV c [] d)
 |k,c,s::sig,d::ds=>ao (lH (k+1) (c+(dT s d.2).length) sig ds) k (oV c s d)
def mP:Mode×C->Option aj
 |(m,.list sz xs)=>some (.row false m sz xs)
 |_=>none
def Cg (sig:aN) (ds:List Dv):St:=
 {env:=lH 0 0 sig ds
  h:=fun n=>if aJ<=n then((dE sig (ds.map (·.2)))[n - aJ]?).bind mP else none
  used:=fun n=>Nat.ble aJ n}
def St.jA (σ:St):St:={σ with h:=fun n=>if aJ<=n then none else σ.h n}
def CC (σ:St) (q:Nat) (x:Mode×C):Option C:=
 match x.2,σ.h (aJ+q) with
 |.list sz xs,some (.row _ m' ax ak)=>if m'=x.1/\ax=sz/\ak.length=xs.length/\th x.1 ak=true/\ak.map (fun e=>e.map C.qS)=xs.map (fun e=>e.map C.qS) then some (.list sz ak) else none
 |_,_=>none
def xQ (σ:St):Nat->List (Mode×C)->Option (List C)
 |_,[]=>some []
 |q,x::l=>match CC σ q x,xQ σ (q+1) l with
  |some y,some ys=>some (y::ys)
  |_,_=>none
def St.CN (σ:St) (ms:List bN) (fl:List (Mode×C)):Option (List Dv×List C):=
 match σ.jA.ub ms,xQ σ 0 fl with
 |some rs,some cM=>some (rs,cM)
 |_,_=>none
def Kg (T:aF) (mc:kR) (aB:List bN) (sig:aN) (ds:List Dv):Option (List Dv×List C):=
 match dv T mc (Cg sig ds) with
 |some (.eF σ)=>σ.CN aB (dE sig (ds.map (·.2)))
 |some (.ret σ)=>σ.CN aB (dE sig (ds.map (·.2)))
 |_=>none
section
variable {B:Nat} {E:Ex} {w0 w w':World} {G G':Gh} {N:Nat} {h h':Nat->Option aj} {used:Nat->Bool}
variable {P:Program} {T:aF} {a:Act} {σ σ':St} {Q:Exit->Act->World->Prop}
def oI:PC->PB
 |.list _ a cap []=>⟨true,0,0,cap,[],a⟩
 |.list _ (some a) cap (e::xs)=>⟨false,a.block,a.off,cap,e::xs,none⟩
 |_=>default
theorem CG (sz:Nat) (a:Option Addr) (cap:Nat):oI (.list sz a cap [])=⟨true,0,0,cap,[],a⟩:=by
 cases a<;>rfl
theorem xT {sz b o cap:Nat} {xs:List (List PC)} (h:xs≠[]):oI (.list sz (some (ad b o)) cap xs)=⟨false,b,o,cap,xs,none⟩:=by
 cases xs with
 |nil=>exact absurd rfl h
 |cons e xs=>rfl
theorem Good.cases {w:World} {sz cap:Nat} {a:Option Addr} {xs:List (List PC)} (h:Good w (.list sz a cap xs)):xs=[]\/(xs≠[]/\xs.length<=cap/\∃b o,a=some (ad b o)):=by
 cases h with
 |nil _ _ _ h=>exact .inl rfl
 |cons _ b o _ _ h1 h2=>exact .inr ⟨h1,h2,b,o,rfl⟩
def y8 (fl:List (Mode×PC)):Ex:=
 ⟨fun b=>∃x∈fl,aK b x.2,fun n=>if aJ<=n then(fl[n - aJ]?).map fun x=>oI x.2 else none,fun n p h=>(by
  by_cases hn:aJ<=n
  ·exact hn
  ·rw[if_neg hn] at h;cases h),fun _=>True⟩
def mf (w:World) (fl:List (Mode×PC)):Gh:=
 ⟨fun b=>b<w.heap.size/\¬∃x∈fl,aK b x.2,fun n=>match fl[n - aJ]? with|some x=>oI x.2|none=>default⟩
def ng (fl:List (Mode×PC)):Nat->Option aj:=fun n=>if aJ<=n then((fl.map fun x=>(x.1,x.2.er))[n - aJ]?).bind mP else none
theorem qE {fl:List (Mode×PC)} {n:Nat} {blk:aj} (hn:ng fl n=some blk):aJ<=n/\∃m sz a cap xs,fl[n - aJ]? =some (m,.list sz a cap xs)/\blk=.row false m sz (xs.map fun e=>e.map PC.er):=by
 unfold ng at hn
 split at hn
 ·rename_i hp
  refine⟨hp,?_⟩
  rw[List.getElem?_map] at hn
  cases hf:fl[n - aJ]? with
  |none=>rw[hf] at hn;cases hn
  |some x=>
   rw[hf] at hn
   obtain⟨m,pc⟩:=x
   cases pc with
   |int k i=>simp[PC.er,mP] at hn
   |bool b=>simp[PC.er,mP] at hn
   |list sz a cap xs=>
    simp[PC.cN,mP] at hn
    exact⟨m,sz,a,cap,xs,rfl,hn.symm⟩
 ·cases hn
theorem iy.Gm (b o sz cap:Nat) (xs:List (List PC)) (hc:cap≠0):iy b (.list sz (some (ad b o)) cap xs):=.inr ⟨_,_,_,_,rfl,hc⟩
theorem iy.row {b sz:Nat} {a:Option Addr} {cap:Nat} {xs:List (List PC)} (h:aP b xs):iy b (.list sz a cap xs):=by
 obtain⟨k,j,c,hk,hc⟩:=h
 exact .inl (.there _ _ _ _ k j c hk hc)
theorem Sep.row {sz:Nat} {a:Option Addr} {cap:Nat} {xs:List (List PC)} (h:Sep (.list sz a cap xs)):gF xs:=by
 cases h with
 |list _ _ _ _ h1 h2 h3=>exact⟨h1,h3⟩
theorem Good.rowAt {sz b o cap:Nat} {xs:List (List PC)} (h:Good w (.list sz (some (ad b o)) cap xs)):lR w b o sz xs:=by
 generalize hq:PC.list sz (some (ad b o)) cap xs=q at h
 cases h with
 |int k n=>cases hq
 |bool b=>cases hq
 |nil ax a nY h0=>
  injection hq with h1 h2 h3 h4
  subst h4
  exact⟨by simp,by rintro k j c ⟨e,he,_⟩;simp at he,by rintro k j c ⟨e,he,_⟩;simp at he⟩
 |cons ax b' o' nY ak h1 h2 h3 h4 h5 h6=>
  injection hq with e1 e2 e3 e4
  injection e2 with e2
  obtain⟨rfl,rfl⟩:=jF e2
  subst e1 e3 e4
  exact⟨h4,h5,h6⟩
theorem HR.Pm {fl:List (Mode×PC)} (hg:∀x∈fl,Good w x.2) (eG:∀x∈fl,yI w x.1 x.2) (mh:fl.Pairwise fun x y=>∀b,aK b x.2->¬aK b y.2):
  HR w.heap.size (y8 fl) w (mf w fl) (ng fl) (fun n=>Nat.ble aJ n) []:=by
 have m8:∀{i j:Nat} {x y:Mode×PC},fl[i]? =some x->fl[j]? =some y->i≠j->∀b,aK b x.2->¬aK b y.2:=by
  intro i j x y hi hj gL b hb aE
  obtain⟨li,ei⟩:=List.getElem?_eq_some_iff.1 hi
  obtain⟨lj,ej⟩:=List.getElem?_eq_some_iff.1 hj
  rw[List.pairwise_iff_getElem] at mh
  subst ei
  subst ej
  rcases Nat.lt_or_gt_of_ne gL with h|h
  ·exact mh i j li lj h b hb aE
  ·exact mh j i lj li h b aE hb
 have gg:∀{n:Nat} {x:Mode×PC},fl[n - aJ]? =some x->(mf w fl).g n=oI x.2:=by intro n x h;simp only[mf,h]
 have Gm:∀{x:Mode×PC},x∈fl->(oI x.2).nl=false->aK (oI x.2).b x.2:=by
  intro x hx hl
  obtain⟨sz,a,cap,xs,e,_,_,_⟩:=(eG x hx).cZ
  have zu:=hg x hx
  rw[e] at hl zu⊢
  rcases zu.cases with rfl|⟨av,_,b,o,rfl⟩
  ·rw[CG] at hl;cases hl
  ·rw[xT av];exact .here _ _ _ _ av
 have RB:∀{x:Mode×PC},x∈fl->∀b,aP b (oI x.2).px->aK b x.2:=by
  intro x hx b hb
  obtain⟨sz,a,cap,xs,e,_,_,_⟩:=(eG x hx).cZ
  have zu:=hg x hx
  rw[e] at hb zu⊢
  rcases zu.cases with rfl|⟨av,_,b,o,rfl⟩
  ·rw[CG] at hb
   obtain⟨k,j,c,⟨e,he,_⟩,_⟩:=hb
   simp at he
  ·rw[xT av] at hb
   obtain⟨k,j,c,hk,hc⟩:=hb
   exact .there _ _ _ _ k j c hk hc
 have sub:∀{n n':Nat},aJ<=n->aJ<=n'->n≠n'->n - aJ≠n' - aJ:=by intro n n' h1 h2 h3;omega
 refine⟨fun n hn=>?_,fun m cs c n hm=>?_,fun n cs hn=>?_,fun n gr m sz xs hn=>?_,fun n hn hl=>?_,fun n n' hn bh av hl dg=>?_,fun b hb=>hb.1,fun b _=>.inr (.inr trivial),fun n n' gr m sz xs aW m' ax ak hn bh _ _ av b hb=>?_,
  fun n gr sz xs hn b hb n' bh dg=>?_,(by intro i pc hi;simp at hi),(by intro i j pc cm b _ hi;simp at hi),(by intro i pc n gr m sz xs b hi;simp at hi)⟩
 ·cases hh:ng fl n with
  |none=>exact absurd hh hn
  |some b=>exact Nat.ble_eq_true_of_le (qE hh).1
 ·obtain⟨_,m',sz,a,cap,xs,_,e⟩:=qE hm;cases e
 ·obtain⟨_,m',sz,a,cap,xs,_,e⟩:=qE hn;cases e
 ·obtain⟨hp,m',ax,a,cap,ak,hf,e⟩:=qE hn
  injection e with e1 e2 e3 e4
  subst e1 e2 e3 e4
  have hx:(m,PC.list sz a cap ak)∈fl:=List.mem_of_getElem? hf
  have ok:=eG _ hx
  have dk:=hg _ hx
  obtain⟨gm,a2,s8,eT,e,dQ,ly,vb⟩:=ok.cZ
  injection e with e1 e2 e3 e4
  subst e1 e2 e3 e4
  rw[gg hf]
  have RD:∀b,aP b ak->aK b (PC.list sz a cap ak):=fun b ⟨k,j,c,hk,hc⟩=>.there _ _ _ _ k j c hk hc
  have eY:yJ w.heap.size (y8 fl) w (mf w fl) ak m:=by
   have iG:=Sep.row ok.sep
   cases m with
   |aG=>cases vb
   |af=>exact⟨fun b hb=>absurd hb (uf vb b),iG⟩
   |live=>exact⟨fun b hb=>⟨fun hi=>hi.2 ⟨_,hx,RD b hb⟩,ok.un b (RD b hb),.inr ⟨_,hx,RD b hb⟩⟩,iG⟩
  rcases dk.cases with rfl|⟨av,gh,b,o,rfl⟩
  ·rw[CG]
   exact⟨dQ,rfl,fun _=>⟨rfl,fun h=>by cases h⟩,(fun h=>by cases h),(fun h=>by cases h),eY,fun h=>by cases h⟩
  ·rw[xT av]
   exact⟨dQ,rfl,(fun h=>by cases h),fun _=>⟨ok.un b (.here _ _ _ _ av),Good.rowAt dk,gh⟩,(fun _ h=>by cases h),eY,fun h=>by cases h⟩
 ·cases hh:ng fl n with
  |none=>exact absurd hh hn
  |some blk=>
   obtain⟨hp,m',ax,a,cap,ak,hf,e⟩:=qE hh
   have hx:(m',PC.list ax a cap ak)∈fl:=List.mem_of_getElem? hf
   rw[gg hf] at hl⊢
   have ht:=Gm hx hl
   exact⟨fun hi=>hi.2 ⟨_,hx,ht⟩,.inr ⟨_,hx,ht⟩,((eG _ hx).un _ ht).lt⟩
 ·cases hh:ng fl n with
  |none=>exact absurd hh hn
  |some blk=>
   cases Et:ng fl n' with
   |none=>exact absurd Et bh
   |some acn=>
    obtain⟨hp,m1,sE,a1,Bf,ry,hf,_⟩:=qE hh
    obtain⟨be,m2,gm,a2,s8,eT,j0,_⟩:=qE Et
    rw[gg hf] at hl⊢
    rw[gg j0] at dg⊢
    intro he
    exact m8 hf j0 (sub hp be av) _ (Gm (List.mem_of_getElem? hf) hl) (he▸Gm (List.mem_of_getElem? j0) dg)
 ·obtain⟨hp,m1,sE,a1,Bf,ry,hf,_⟩:=qE hn
  obtain⟨be,m2,gm,a2,s8,eT,j0,_⟩:=qE bh
  rw[gg hf] at hb
  rw[gg j0]
  exact fun aE=>m8 hf j0 (sub hp be av) b (RB (List.mem_of_getElem? hf) b hb) (RB (List.mem_of_getElem? j0) b aE)
 ·obtain⟨hp,m1,sE,a1,Bf,ry,hf,_⟩:=qE hn
  rw[gg hf] at hb
  cases Et:ng fl n' with
  |none=>exact absurd Et bh
  |some acn=>
   obtain⟨be,m2,gm,a2,s8,eT,j0,_⟩:=qE Et
   rw[gg j0] at dg⊢
   rintro rfl
   by_cases av:n=n'
   ·subst av
    rw[hf] at j0
    injection j0 with j0
    injection j0 with _ j0
    injection j0 with q1 q2 q3 q4
    subst q1 q2 q3 q4
    have hm:=List.mem_of_getElem? hf
    obtain⟨sz,a,cap,xs,e,_,ly,_⟩:=(eG _ hm).cZ
    have zu:=hg _ hm
    injection e with e1 e2 e3 e4
    subst e1 e2 e3 e4
    rcases zu.cases with rfl|⟨av,_,b,o,rfl⟩
    ·rw[CG] at dg;cases dg
    ·rw[xT av] at hb
     exact ly b o rfl hb
   ·exact m8 hf j0 (sub hp be av) _ (RB (List.mem_of_getElem? hf) _ hb) (Gm (List.mem_of_getElem? j0) dg)
end
end Go.Am
end
section
namespace Go.Am
section
variable {B:Nat} {E:Ex} {w0 w w':World} {G G':Gh} {N:Nat} {h h':Nat->Option aj} {used:Nat->Bool}
variable {P:Program} {T:aF} {a:Act} {σ σ':St} {Q:Exit->Act->World->Prop}
theorem M4 {α:Type}:∀{s:List (Option Mode)} {xs:List α} {x:Mode×α},x∈dT s xs->x.2∈xs
 |some m::fs,y::xs,x,h=>by
  simp only[dT,List.mem_cons] at h
  rcases h with rfl|h
  ·simp
  ·exact List.mem_cons_of_mem _ (M4 h)
 |none::fs,y::xs,x,h=>by
  simp only[dT] at h
  exact List.mem_cons_of_mem _ (M4 h)
 |[],_,x,h=>by simp[dT] at h
 |some m::fs,[],x,h=>by simp[dT] at h
 |none::fs,[],x,h=>by simp[dT] at h
theorem M1 {α:Type}:∀{sig:aN} {sJ:List (List α)} {x:Mode×α},x∈dE sig sJ->∃xs∈sJ,x.2∈xs
 |s::sig,xs::sJ,x,h=>by
  simp only[dE,List.mem_append] at h
  rcases h with h|h
  ·exact⟨xs,by simp,M4 h⟩
  ·obtain⟨ys,h1,h2⟩:=M1 h
   exact⟨ys,by simp[h1],h2⟩
 |[],_,x,h=>by simp[dE] at h
 |s::sig,[],x,h=>by simp[dE] at h
theorem HX {fl:List (Mode×PC)} (eG:∀x∈fl,yI w x.1 x.2) (hg:∀x∈fl,Good w x.2):∀(c:Nat) (fs:List (Option Mode)) (ps:List PC),(∀(q:Nat) (x:Mode×PC),(dT fs ps)[q]? =some x->fl[c+q]? =some x)->(∀pc∈ps,Good w pc)->
  (∀pc∈mS fs ps,∀x∈fl,∀b,aK b pc->¬aK b x.2)->cb w (mf w fl) (ng fl) (gn c fs (ps.map PC.er)) (ps.map PC.val)
 |c,[],ps,hq,fc,hu=>by
  simp only[gn]
  refine⟨by simp,fun j x u hj mA=>?_⟩
  simp only[List.getElem?_map,List.map_map] at hj mA
  cases hp:ps[j]? with
  |none=>rw[hp] at hj;cases hj
  |some pc=>
   rw[hp] at hj mA
   simp at hj mA
   subst hj;subst mA
   have hm:=List.mem_of_getElem? hp
   exact⟨PC.hY pc,pc,rfl,rfl,fc pc hm,fun b hb=>⟨(fc pc hm).lt hb,fun⟨x,hx,dh⟩=>hu pc (by simpa[mS] using hm) x hx b hb dh⟩⟩
 |c,f::fs,[],hq,fc,hu=>by
  cases f<;>exact⟨rfl,by intro j c u hj;simp[gn] at hj⟩
 |c,none::fs,p::ps,hq,fc,hu=>by
  have ih:=HX eG hg c fs ps (fun q x h=>hq q x (by simpa[dT] using h)) (fun pc h=>fc pc (by simp[h])) (fun pc h=>hu pc (by simp[mS,h]))
  simp only[List.map_cons,gn]
  refine⟨by simp[ih.1],fun j x u hj mA=>?_⟩
  cases j with
  |zero=>
   simp at hj mA
   subst hj;subst mA
   exact⟨PC.hY p,p,rfl,rfl,fc p (by simp),fun b hb=>⟨(fc p (by simp)).lt hb,fun⟨x,hx,dh⟩=>hu p (by simp[mS]) x hx b hb dh⟩⟩
  |succ j=>exact ih.2 j x u (by simpa using hj) (by simpa using mA)
 |c,some m::fs,p::ps,hq,fc,hu=>by
  have h0:=hq 0 (m,p) (by simp[dT])
  simp only[Nat.add_zero] at h0
  have qJ:=List.mem_of_getElem? h0
  obtain⟨sz,a,cap,xs,e,dQ,ly,vb⟩:=(eG _ qJ).cZ
  simp only at e
  subst e
  have ih:=HX eG hg (c+1) fs ps (fun q x h=>by have:=hq (q+1) x (by simpa[dT] using h);rwa[show c+(q+1)=c+1+q by omega] at this) (fun pc h=>fc pc (by simp[h])) (fun pc h=>hu pc (by simpa[mS] using h))
  simp only[List.map_cons,PC.cN,gn]
  refine⟨by simp[ih.1],fun j x u hj mA=>?_⟩
  cases j with
  |zero=>
   simp at hj mA
   subst hj;subst mA
   refine⟨PC.hY _,fun _=>?_⟩
   have Er:(mf w fl).g (aJ+c)=oI (.list sz a cap xs):=by simp only[mf,Nat.add_sub_cancel_left,h0]
   rw[Er]
   rcases(hg _ qJ).cases with rfl|⟨av,gh,b,o,rfl⟩
   ·rw[CG]
    exact .inl ⟨rfl,rfl,rfl,rfl⟩
   ·rw[xT av]
    exact .inr ⟨rfl,some (ad b o),by simp[PC.val],by simpa using gh,fun _=>by simp⟩
  |succ j=>exact ih.2 j x u (by simpa using hj) (by simpa using mA)
theorem Vm {fl:List (Mode×PC)} (eG:∀x∈fl,yI w x.1 x.2) (hg:∀x∈fl,Good w x.2) {c:Nat} {s:List (Option Mode)} {d:Dv} {v:Value} {p:PA} (hA:uk w d v p)
  (hq:∀(q:Nat) (x:Mode×PC),(dT s p.ps)[q]? =some x->fl[c+q]? =some x) (hu:∀pc∈mS s p.ps,∀x∈fl,∀b,aK b pc->¬aK b x.2) (hp:p.k=.ptr->xW s p.ps.length/\∀x∈fl,¬aK p.b x.2):
  RA w (mf w fl) (ng fl) (oV c s d) v:=by
 obtain⟨k,ps,b,o⟩:=p
 obtain⟨rfl,fc,hv⟩:=hA
 cases k with
 |one=>
  have hv:ps.map PC.val=[v]:=hv
  have hl:=HX eG hg c s ps hq fc hu
  rw[hv] at hl
  simp only[oV]
  obtain⟨x,hx⟩:∃x,gn c s (ps.map PC.er)=[x]:=by
   have:=hl.1
   match hh:gn c s (ps.map PC.er),this with
   |[x],_=>exact⟨x,rfl⟩
  rw[hx] at hl⊢
  exact .inr hl
 |agg=>
  have hv:v=.agg (ps.map PC.val).toArray:=hv
  exact⟨_,hv,HX eG hg c s ps hq fc hu⟩
 |ptr=>
  obtain⟨h1,h2,h3⟩:v=.pointer (some (ad b o))/\b<w.heap.size/\∀j c,ps[j]? =some c->w.cell? (ad b (o+j))=some c.val:=hv
  obtain⟨hs,vn⟩:=hp rfl
  subst h1
  rcases hs with rfl|⟨j,hj,rfl⟩
  rotate_left
  ·obtain⟨qs,q,rfl⟩:∃qs q,ps=qs++[q]:=⟨ps.dropLast,ps.getLast (by intro e;rw[e] at hj;simp at hj),(List.dropLast_concat_getLast _).symm⟩
   have rU:qs.length=j:=by
    have:(qs++[q]).length=j+1:=hj
    rw[List.length_append] at this
    simpa using this
   subst rU
   rw[WH] at hq
   rw[abG] at hu
   have h0:=hq 0 (.af,q) rfl
   rw[Nat.add_zero] at h0
   have qJ:=List.mem_of_getElem? h0
   obtain⟨sz,a,cap,xs,e,dQ,ly,vb⟩:=(eG _ qJ).cZ
   simp only at e
   subst e
   have e1:oV c (List.replicate qs.length none++[some .af]) (K.ptr,(qs++[PC.list sz a cap xs]).map PC.er)=.one (.bK ((qs++[PC.list sz a cap xs]).map PC.er) 0 qs.length (aJ+c) sz xs.length):=by
    have av:List.replicate qs.length (none:Option Mode)++[some .af]≠[]:=by simp
    simp only[oV,DC]
    split
    ·rename_i hh;exact absurd hh av
    ·simp[PC.cN]
   rw[e1]
   have qH:=h3 qs.length (PC.list sz a cap xs) (by simp)
   refine RA.dS rfl ⟨b,o,qs++[PC.list sz a cap xs],by simp,rfl,⟨h2,fun⟨x,hx,dh⟩=>vn x hx dh⟩,fun i c' gL hi=>?_,_,qH,PC.hY _,fun _=>?_⟩
   ·have hi':qs[i]? =some c':=by
     by_cases bS:i<qs.length
     ·rwa[List.getElem?_append_left bS] at hi
     ·have:=(List.getElem?_eq_some_iff.1 hi).1
      rw[List.length_append] at this
      simp at this
      omega
    have hm:=List.mem_of_getElem? hi'
    have bm:c'∈qs++[PC.list sz a cap xs]:=List.mem_append_left _ hm
    exact⟨h3 i c' hi,fc c' bm,fun b' aE=>⟨(fc c' bm).lt aE,fun⟨x,hx,dh⟩=>hu c' hm x hx b' aE dh⟩⟩
   ·have Er:(mf w fl).g (aJ+c)=oI (.list sz a cap xs):=by simp only[mf,Nat.add_sub_cancel_left,h0]
    rw[Er]
    rcases(hg _ qJ).cases with rfl|⟨av,gh,b,o,rfl⟩
    ·rw[CG]
     exact .inl ⟨rfl,rfl,rfl,rfl⟩
    ·rw[xT av]
     exact .inr ⟨rfl,some (ad b o),by simp[PC.val],by simpa using gh,fun _=>by simp⟩
  refine RA.dS rfl ⟨b,o,ps,by simp,rfl,⟨h2,fun⟨x,hx,dh⟩=>vn x hx dh⟩,fun j c hj=>?_⟩
  have hm:=List.mem_of_getElem? hj
  exact⟨h3 j c hj,fc c hm,fun b' aE=>⟨(fc c hm).lt aE,fun⟨x,hx,dh⟩=>hu c (by simpa[mS] using hm) x hx b' aE dh⟩⟩
theorem Ph {fl:List (Mode×PC)} (eG:∀x∈fl,yI w x.1 x.2) (hg:∀x∈fl,Good w x.2):∀(ds:List Dv) (k c:Nat) (sig:aN) (vals:List Value) (pas:List PA),vals.length=ds.length->pas.length=ds.length->
  (∀(i:Nat) (d:Dv) (v:Value) (p:PA),ds[i]? =some d->vals[i]? =some v->pas[i]? =some p->uk w d v p)->(∀(q:Nat) (x:Mode×PC),(dE sig (pas.map (·.ps)))[q]? =some x->fl[c+q]? =some x)->
  (∀pc∈kj sig (pas.map (·.ps)),∀x∈fl,∀b,aK b pc->¬aK b x.2)->(∀p∈pas,p.k=.ptr->∀x∈fl,¬aK p.b x.2)->(∀(i:Nat) (p:PA) (s:List (Option Mode)),pas[i]? =some p->sig[i]? =some s->p.k=.ptr->xW s p.ps.length)->
  ∀s,RA w (mf w fl) (ng fl) (lH k c sig ds s) (if k<=s then vals.getD (s - k) undef else undef)
 |[],k,c,sig,vals,pas,l1,l2,hA,hq,hu,hp,hs,s=>by simp only[lH];exact Or.inl rfl
 |d::ds,k,c,sig,v::vals,p::pas,l1,l2,hA,hq,hu,hp,hs,s=>by
  have YL:vals.length=ds.length:=by simpa using l1
  have YP:pas.length=ds.length:=by simpa using l2
  have A0:=hA 0 d v p rfl rfl rfl
  have A1:=fun i d' v' p' (h1:ds[i]? =some d') (h2:vals[i]? =some v') (h3:pas[i]? =some p')=>hA (i+1) d' v' p' (by simpa using h1) (by simpa using h2) (by simpa using h3)
  have fc:=A0.2.1
  have hd2:d.2=p.ps.map PC.er:=by rw[A0.1]
  have shift:∀x:ah,(s≠k->RA w (mf w fl) (ng fl) x (if k+1<=s then vals.getD (s - (k+1)) undef else undef))->s≠k->RA w (mf w fl) (ng fl) x (if k<=s then(v::vals).getD (s - k) undef else undef):=by
   intro x hx vp
   have:=hx vp
   by_cases hk:k+1<=s
   ·rw[if_pos hk] at this
    rw[if_pos (by omega),show s - k=(s - (k+1))+1 by omega]
    simpa using this
   ·rw[if_neg hk] at this
    rw[if_neg (by omega)]
    exact this
  cases sig with
  |nil=>
   simp only[lH]
   by_cases vp:s=k
   ·subst vp
    rw[bo,if_pos (Nat.le_refl _)]
    simp only[Nat.sub_self,List.getD_cons_zero]
    refine Vm eG hg A0 (fun q x h=>by simp[dT] at h) (fun pc aT=>hu pc ?_) (fun e=>⟨.inl rfl,hp p (by simp) e⟩)
    simp only[mS] at aT
    simp[kj,aT]
   ·rw[bP _ _ _ _ vp]
    refine shift _ (fun _=>Ph eG hg ds (k+1) c [] vals pas YL YP A1 (fun q x h=>by simp[dE] at h) (fun pc aT=>hu pc ?_) (fun p be=>hp p (by simp[be])) (fun i p s _ h=>by simp at h) s) vp
    simp only[kj] at aT
    simp only[List.map_cons,kj,List.flatten_cons,List.mem_append]
    exact .inr aT
  |cons sg sig=>
   simp only[lH]
   have hlen:(dT sg d.2).length=(dT sg p.ps).length:=by rw[hd2,IG,List.length_map]
   by_cases vp:s=k
   ·subst vp
    rw[bo,if_pos (Nat.le_refl _)]
    simp only[Nat.sub_self,List.getD_cons_zero]
    refine Vm eG hg A0 (fun q x h=>hq q x ?_) (fun pc aT=>hu pc ?_) (fun e=>⟨hs 0 p sg rfl rfl e,hp p (by simp) e⟩)
    ·simp only[List.map_cons,dE]
     rw[List.getElem?_append_left (List.getElem?_eq_some_iff.1 h).1]
     exact h
    ·simp only[List.map_cons,kj,List.mem_append]
     exact .inl aT
   ·rw[bP _ _ _ _ vp]
    refine shift _ (fun _=>Ph eG hg ds (k+1) (c+(dT sg d.2).length) sig vals pas YL YP A1 (fun q x h=>?_) (fun pc aT=>hu pc ?_) (fun p be=>hp p (by simp[be])) (fun i p s h1 h2=>hs (i+1) p s (by simpa using h1) (by simpa using h2)) s) vp
    ·have:=hq ((dT sg p.ps).length+q) x (by
      simp only[List.map_cons,dE]
      rw[List.getElem?_append_right (Nat.le_add_right _ _),Nat.add_sub_cancel_left]
      exact h)
     rw[hlen,Nat.add_assoc]
     exact this
    ·simp only[List.map_cons,kj,List.mem_append]
     exact .inr aT
 |_::_,k,c,sig,[],pas,l1,l2,hA,hq,hu,hp,hs,s=>by simp at l1
 |_::_,k,c,sig,_::_,[],l1,l2,hA,hq,hu,hp,hs,s=>by simp at l2
theorem Vn {c:Nat} {s:List (Option Mode)} {d:Dv} {m:Nat} (h:(oV c s d).ref m):aJ<=m:=by
 have bW:∀(cs:List C) (c:Nat) (s:List (Option Mode)),∀x∈gn c s cs,x.ref m->aJ<=m:=by
  intro cs
  induction cs with
  |nil=>
   intro c s x hx
   cases s with
   |nil=>simp[gn] at hx
   |cons f fs=>cases f<;>simp[gn] at hx
  |cons y cs ih=>
   intro c s x hx hr
   cases s with
   |nil=>
    simp only[gn,List.mem_map] at hx
    obtain⟨z,_,rfl⟩:=hx
    exact absurd hr id
   |cons f fs=>
    cases f with
    |none=>
     simp only[gn,List.mem_cons] at hx
     rcases hx with rfl|hx
     ·exact absurd hr id
     ·exact ih _ _ _ hx hr
    |some md=>
     cases y with
     |list sz xs=>
      simp only[gn,List.mem_cons] at hx
      rcases hx with rfl|hx
      ·have hr:m=aJ+c:=hr
       omega
      ·exact ih _ _ _ hx hr
     |int k n=>
      simp only[gn,List.mem_cons] at hx
      rcases hx with rfl|hx
      ·exact absurd hr id
      ·exact ih _ _ _ hx hr
     |bool b=>
      simp only[gn,List.mem_cons] at hx
      rcases hx with rfl|hx
      ·exact absurd hr id
      ·exact ih _ _ _ hx hr
 obtain⟨k,xs⟩:=d
 cases k with
 |one=>
  simp only[oV] at h
  match hh:gn c s xs,h with
  |[],h=>exact absurd h id
  |[x],h=>exact bW xs c s x (by rw[hh];simp) h
  |_::_::_,h=>exact absurd h id
 |agg=>
  obtain⟨x,hx,hr⟩:=h
  exact bW xs c s x hx hr
 |ptr=>
  simp only[oV,DC] at h
  split at h
  ·exact absurd h id
  ·split at h
   ·have h':m=aJ+c:=h
    omega
   ·exact absurd h id
theorem Pj:∀{ds:List Dv} {k c:Nat} {sig:aN} {s m:Nat},(lH k c sig ds s).ref m->aJ<=m
 |[],k,c,sig,s,m,h=>by simp only[lH] at h;exact absurd h id
 |d::ds,k,c,[],s,m,h=>by
  simp only[lH,iU] at h
  split at h
  ·exact Vn h
  ·exact Pj h
 |d::ds,k,c,sg::sig,s,m,h=>by
  simp only[lH,iU] at h
  split at h
  ·exact Vn h
  ·exact Pj h
theorem R.Pm {sig:aN} {ds:List Dv} {vals:List Value} {pas:List PA} (M:wG w sig ds vals pas) (hN:ds.length<=N):
  R w.heap.size (y8 (dE sig (pas.map (·.ps)))) w N (Cg sig ds) {tmps:=vals.toArray++Array.replicate (N - vals.toArray.size) undef,defers:=[]} w (mf w (dE sig (pas.map (·.ps)))):=by
 have iC:ds.map (·.2)=(pas.map (·.ps)).map fun l=>l.map PC.er:=by
  apply List.ext_getElem?
  intro i
  simp only[List.getElem?_map]
  cases hd:ds[i]? with
  |none=>
   have:ds.length<=i:=List.getElem?_eq_none_iff.1 hd
   rw[List.getElem?_eq_none (by rw[M.l2];exact this)]
   rfl
  |some d=>
   have hi:=(List.getElem?_eq_some_iff.1 hd).1
   have hv:vals[i]? =some (vals[i]'(by rw[M.l1];exact hi)):=List.getElem?_eq_getElem _
   have hp:pas[i]? =some (pas[i]'(by rw[M.l2];exact hi)):=List.getElem?_eq_getElem _
   have:=(M.at_ i d _ _ hd hv hp).1
   rw[hp]
   simp only[Option.map_some]
   rw[this]
 have fc:∀p∈pas,∀pc∈p.ps,Good w pc:=by
  intro p hp pc aT
  obtain⟨i,hi,rfl⟩:=List.getElem_of_mem hp
  have hd:ds[i]? =some (ds[i]'(by rw[<-M.l2];exact hi)):=List.getElem?_eq_getElem _
  have hv:vals[i]? =some (vals[i]'(by rw[M.l1,<-M.l2];exact hi)):=List.getElem?_eq_getElem _
  exact(M.at_ i _ _ _ hd hv (List.getElem?_eq_getElem hi)).2.1 pc aT
 have hg:∀x∈dE sig (pas.map (·.ps)),Good w x.2:=by
  intro x hx
  obtain⟨l,hl,nq⟩:=M1 hx
  obtain⟨p,hp,rfl⟩:=List.mem_map.1 hl
  exact fc p hp _ nq
 have BV:(Cg sig ds).h=ng (dE sig (pas.map (·.ps))):=by
  funext n
  simp only[Cg,ng,iC,IF]
 refine⟨rfl,by simp[M.l1];omega,fun s=>?_,fun s n hn=>Nat.ble_eq_true_of_le (Pj hn),?_,Fr.refl _ _ _ (Nat.le_refl _),fun n p b hp hb=>?_,fun n hn=>Nat.ble_eq_true_of_le hn⟩
 ·rw[BV]
  have:=Ph M.ok hg ds 0 0 sig vals pas M.l1 M.l2 M.at_ (fun q x h=>by rw[Nat.zero_add];exact h) M.free M.ptr M.ajU s
  simp only[Nat.zero_le,if_true,Nat.sub_zero] at this
  have e:(vals.toArray++Array.replicate (N - vals.toArray.size) undef).getD s undef=vals.getD s undef:=by
   simp only[Array.getD_eq_getD_getElem?,List.getD_eq_getElem?_getD]
   by_cases bS:s<vals.length
   ·simp[Array.getElem?_append,bS]
   ·rw[List.getElem?_eq_none (by omega)]
    simp only[Array.getElem?_append,List.size_toArray,bS,if_false,Array.getElem?_replicate]
    split<;>rfl
  rw[e]
  exact this
 ·rw[BV]
  exact HR.Pm hg M.ok M.m8
 ·rw[BV] at hb
  obtain⟨vm,m,sz,a,cap,xs,hf,e⟩:=qE hb
  have be:(if aJ<=n then((dE sig (pas.map (·.ps)))[n - aJ]?).map (fun x=>oI x.2) else none)=some p:=hp
  rw[if_pos vm,hf] at be
  simp at be
  subst be
  have Er:(mf w (dE sig (pas.map (·.ps)))).g n=oI (.list sz a cap xs):=by simp only[mf,hf]
  rw[Er]
  exact⟨rfl,rfl,rfl,rfl,rfl,fun gr ax ak _ k j pc hk hL=>⟨pc,hk,rfl,hL⟩⟩
theorem Q8:∀{fl:List (Mode×C)} {q:Nat} {cM:List C},xQ σ q fl=some cM->cM.length=fl.length/\∀i x,fl[i]? =some x->∃o,cM[i]? =some o/\CC σ (q+i) x=some o
 |[],q,cM,h=>by simp only[xQ] at h;injection h with h;subst h;exact⟨rfl,by simp⟩
 |y::l,q,cM,h=>by
  simp only[xQ] at h
  split at h
  ·rename_i o os h1 h2
   injection h with h
   subst h
   obtain⟨i1,i2⟩:=Q8 h2
   refine⟨by simp[i1],fun i x hx=>?_⟩
   cases i with
   |zero=>simp at hx;subst hx;exact⟨o,rfl,h1⟩
   |succ i=>
    obtain⟨o',e1,e2⟩:=i2 i x (by simpa using hx)
    exact⟨o',by simpa using e1,by rw[show q+(i+1)=q+1+i by omega];exact e2⟩
  ·cases h
theorem aj2 {q:Nat} {x:Mode×C} {o:C} (h:CC σ q x=some o):∃sz xs gr ak,x.2=.list sz xs/\σ.h (aJ+q)=some (.row gr x.1 sz ak)/\ak.length=xs.length/\th x.1 ak=true/\ak.map (fun e=>e.map C.qS)=xs.map (fun e=>e.map C.qS)/\o=.list sz ak:=by
 unfold CC at h
 split at h
 ·rename_i sz xs gr m' ax ak h1 h2
  split at h
  ·rename_i hc
   obtain⟨rfl,rfl,h3,h4,h5⟩:=hc
   injection h with h
   exact⟨_,xs,gr,ak,h1,h2,h3,h4,h5,h.symm⟩
  ·cases h
 ·cases h
theorem acZ {px:List (List PC)} (hd:(px.map fun e=>e.map PC.er).all (fun e=>e.all C.td)=true) {k j:Nat} {c:PC} (hk:At px k j c):∀sz a cap ys,c=.list sz a cap ys->∀b,¬aP b ys:=by
 rintro sz a cap ys rfl b
 obtain⟨e,he,hj⟩:=hk
 simp only[List.all_eq_true,List.mem_map] at hd
 have h1:=hd (e.map PC.er) ⟨e,List.mem_of_getElem? he,rfl⟩ (PC.er (.list sz a cap ys)) (List.mem_map.2 ⟨_,List.mem_of_getElem? hj,rfl⟩)
 rw[PC.cN] at h1
 exact uf h1 b
theorem PC.agL (c:PC):c.er.qS=c.f6:=by
 cases c with
 |int k n=>rfl
 |bool b=>rfl
 |list sz a cap xs=>rw[PC.cN];rfl
theorem alS {px px':List (List PC)} (hs:(px'.map fun e=>e.map PC.er).map (fun e=>e.map C.qS)=(px.map fun e=>e.map PC.er).map (fun e=>e.map C.qS)) {k j:Nat} {c:PC} (hk:At px' k j c):
  ∃c0,At px k j c0/\c0.f6=c.f6:=by
 obtain⟨e,he,hj⟩:=hk
 have h1:=congrArg (fun l=>l[k]?) hs
 simp only[List.getElem?_map,he,Option.map_some] at h1
 cases h0:px[k]? with
 |none=>rw[h0] at h1;cases h1
 |some e0=>
  rw[h0] at h1
  simp only[Option.map_some,Option.some.injEq] at h1
  have h2:=congrArg (fun l=>l[j]?) h1
  simp only[List.getElem?_map,hj,Option.map_some] at h2
  cases h3:e0[j]? with
  |none=>rw[h3] at h2;cases h2
  |some c0=>
   rw[h3] at h2
   simp only[Option.map_some,Option.some.injEq,PC.agL] at h2
   exact⟨c0,⟨e0,h0,h3⟩,h2.symm⟩
theorem At.inj {α:Type} {px:List (List α)} {k j:Nat} {c c':α} (h:At px k j c) (h':At px k j c'):c=c':=by
 obtain⟨e,h1,h2⟩:=h
 obtain⟨e',h3,h4⟩:=h'
 rw[h1] at h3
 injection h3 with h3
 subst h3
 rw[h2] at h4
 injection h4
theorem Y0 {px px':List (List PC)} (hd:(px.map fun e=>e.map PC.er).all (fun e=>e.all C.td)=true)
  (hl:∀k j pc,At px k j pc->pc.f6=true->∃cm,At px' k j cm/\cm.val=pc.val/\cm.f6=true) {b:Nat} (hb:aP b px):aP b px':=by
 obtain⟨k,j,c,hk,hc⟩:=hb
 cases c with
 |int k n=>exact absurd hc aK.ajX
 |bool x=>exact absurd hc aK.ajW
 |list sz a cap ys=>
  have vb:=acZ hd hk sz a cap ys rfl
  rw[aK.jw] at hc
  rcases hc with⟨av,o,rfl⟩|⟨k',j',c',bx,bZ⟩
  ·obtain⟨c',h1,h2,h3⟩:=hl k j _ hk rfl
   cases c' with
   |int k n=>cases h3
   |bool x=>cases h3
   |list ax a' nY ys'=>
    simp only[PC.val] at h2
    injection h2 with e1 e2 e3
    subst e1
    refine⟨k,j,_,h1,?_⟩
    rw[aK.jw]
    refine .inl ⟨fun OD=>?_,o,rfl⟩
    subst OD
    exact av (List.eq_nil_of_length_eq_zero e2.symm)
  ·exact absurd ⟨k',j',c',bx,bZ⟩ (vb b)
end
end Go.Am
end
