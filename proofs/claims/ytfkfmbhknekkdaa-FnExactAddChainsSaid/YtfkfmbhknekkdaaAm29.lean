/- Am28, Am29: parts of the proof. No condition. -/
import Derived.Test.YtfkfmbhknekkdaaAm27
set_option linter.unusedVariables false
section
namespace Go.Am
def fN:Nat->List (Option Mode)->List C->List ae
 |c,some _::fs,.list sz xs::cs=>.sl (aZ+c) sz 0 xs.length::fN (c+1) fs cs
 |c,some _::fs,x::cs=>.bg::fN (c+1) fs cs
 |c,none::fs,x::cs=>.c x::fN c fs cs
 |c,[],cs=>cs.map .c
 |c,_::_,[]=>[]
def AO (c:Nat) (s:List (Option Mode)) (xs:List C):ae:=
 match s with
 |[]=>.bV xs 0
 |_::_=>match xs.getLast? with
  |some (.list sz l)=>.bD xs 0 (xs.length - 1) (aZ+c) sz l.length
  |_=>.bg
def mT (c:Nat) (s:List (Option Mode)):Dv->ai
 |(.one,xs)=>match fN c s xs with
  |[x]=>.one x
  |_=>.one .bg
 |(.agg,xs)=>.agg (fN c s xs)
 |(.ptr,xs)=>.one (AO c s xs)
def j7:Nat->Nat->aJ->List Dv->(Nat->ai)
 |_,_,_,[]=>yn
 |k,c,[],d::ds=>aq (j7 (k+1) c [] ds) k (mT c [] d)
 |k,c,s::sig,d::ds=>aq (j7 (k+1) (c+(dC s d.2).length) sig ds) k (mT c s d)
def kY:Mode×C->Option ak
 |(m,.list sz xs)=>some (.row false m sz xs)
 |_=>none
def y8 (sig:aJ) (ds:List Dv):St:=
 {env:=j7 0 0 sig ds
  h:=fun n=>if aZ<=n then((dr sig (ds.map (·.2)))[n - aZ]?).bind kY else none
  used:=fun n=>Nat.ble aZ n}
def St.iC (σ:St):St:={σ with h:=fun n=>if aZ<=n then none else σ.h n}
def zI (σ:St) (q:Nat) (x:Mode×C):Option C:=
 match x.2,σ.h (aZ+q) with
 |.list sz xs,some (.row _ m' aC ao)=>if m'=x.1/\aC=sz/\ao.length=xs.length/\qG x.1 ao=true/\ao.map (fun e=>e.map C.ou)=xs.map (fun e=>e.map C.ou) then some (.list sz ao) else none
 |_,_=>none
def uH (σ:St):Nat->List (Mode×C)->Option (List C)
 |_,[]=>some []
 |q,x::l=>match zI σ q x,uH σ (q+1) l with
  |some y,some ys=>some (y::ys)
  |_,_=>none
def St.zP (σ:St) (ms:List cD) (fl:List (Mode×C)):Option (List Dv×List C):=
 match σ.iC.rz ms,uH σ 0 fl with
 |some rs,some cP=>some (rs,cP)
 |_,_=>none
def GM (T:aA) (mc:ld) (aG:List cD) (sig:aJ) (ds:List Dv):Option (List Dv×List C):=
 match dH T mc (y8 sig ds) with
 |some (.fx σ)=>σ.zP aG (dr sig (ds.map (·.2)))
 |some (.ret σ)=>σ.zP aG (dr sig (ds.map (·.2)))
 |_=>none
section
variable {B:Nat} {E:Ex} {w0 w w':World} {G G':Gh} {N:Nat} {h h':Nat->Option ak} {used:Nat->Bool}
variable {P:Program} {T:aA} {a:Act} {σ σ':St} {Q:Exit->Act->World->Prop}
def mH:PC->PB
 |.list _ a cap []=>⟨true,0,0,cap,[],a⟩
 |.list _ (some a) cap (e::xs)=>⟨false,a.block,a.off,cap,e::xs,none⟩
 |_=>default
theorem zK (sz:Nat) (a:Option Addr) (cap:Nat):mH (.list sz a cap [])=⟨true,0,0,cap,[],a⟩:=by
 cases a<;>rfl
theorem uL {sz b o cap:Nat} {xs:List (List PC)} (h:xs≠[]):mH (.list sz (some (ad b o)) cap xs)=⟨false,b,o,cap,xs,none⟩:=by
 cases xs with
 |nil=>exact absurd rfl h
 |cons e xs=>rfl
theorem Good.cases {w:World} {sz cap:Nat} {a:Option Addr} {xs:List (List PC)} (h:Good w (.list sz a cap xs)):xs=[]\/(xs≠[]/\xs.length<=cap/\∃b o,a=some (ad b o)):=by
 cases h with
 |nil _ _ _ h=>exact .inl rfl
 |cons _ b o _ _ h1 h2=>exact .inr ⟨h1,h2,b,o,rfl⟩
def vV (fl:List (Mode×PC)):Ex:=
 ⟨fun b=>∃x∈fl,aM b x.2,fun n=>if aZ<=n then(fl[n - aZ]?).map fun x=>mH x.2 else none,fun n p h=>(by
  by_cases hn:aZ<=n
  ·exact hn
  ·rw[if_neg hn] at h;cases h),fun _=>True⟩
def kG (w:World) (fl:List (Mode×PC)):Gh:=
 ⟨fun b=>b<w.heap.size/\¬∃x∈fl,aM b x.2,fun n=>match fl[n - aZ]? with|some x=>mH x.2|none=>default⟩
def lx (fl:List (Mode×PC)):Nat->Option ak:=fun n=>if aZ<=n then((fl.map fun x=>(x.1,x.2.er))[n - aZ]?).bind kY else none
theorem n6 {fl:List (Mode×PC)} {n:Nat} {blk:ak} (hn:lx fl n=some blk):aZ<=n/\∃m sz a cap xs,fl[n - aZ]? =some (m,.list sz a cap xs)/\blk=.row false m sz (xs.map fun e=>e.map PC.er):=by
 unfold lx at hn
 split at hn
 ·rename_i hp
  refine⟨hp,?_⟩
  rw[List.getElem?_map] at hn
  cases hf:fl[n - aZ]? with
  |none=>rw[hf] at hn;cases hn
  |some x=>
   rw[hf] at hn
   obtain⟨m,pc⟩:=x
   cases pc with
   |int k i=>simp[PC.er,kY] at hn
   |bool b=>simp[PC.er,kY] at hn
   |list sz a cap xs=>
    simp[PC.du,kY] at hn
    exact⟨m,sz,a,cap,xs,rfl,hn.symm⟩
 ·cases hn
theorem il.Db (b o sz cap:Nat) (xs:List (List PC)) (hc:cap≠0):il b (.list sz (some (ad b o)) cap xs):=.inr ⟨_,_,_,_,rfl,hc⟩
theorem il.row {b sz:Nat} {a:Option Addr} {cap:Nat} {xs:List (List PC)} (h:aN b xs):il b (.list sz a cap xs):=by
 obtain⟨k,j,c,hk,hc⟩:=h
 exact .inl (.there _ _ _ _ k j c hk hc)
theorem Sep.row {sz:Nat} {a:Option Addr} {cap:Nat} {xs:List (List PC)} (h:Sep (.list sz a cap xs)):gx xs:=by
 cases h with
 |list _ _ _ _ h1 h2 h3=>exact⟨h1,h3⟩
theorem Good.rowAt {sz b o cap:Nat} {xs:List (List PC)} (h:Good w (.list sz (some (ad b o)) cap xs)):mQ w b o sz xs:=by
 generalize hq:PC.list sz (some (ad b o)) cap xs=q at h
 cases h with
 |int k n=>cases hq
 |bool b=>cases hq
 |nil aC a qy h0=>
  injection hq with h1 h2 h3 h4
  subst h4
  exact⟨by simp,by rintro k j c ⟨e,he,_⟩;simp at he,by rintro k j c ⟨e,he,_⟩;simp at he⟩
 |cons aC b' o' qy ao h1 h2 h3 h4 h5 h6=>
  injection hq with e1 e2 e3 e4
  injection e2 with e2
  obtain⟨rfl,rfl⟩:=lg e2
  subst e1 e3 e4
  exact⟨h4,h5,h6⟩
theorem HR.LM {fl:List (Mode×PC)} (hg:∀x∈fl,Good w x.2) (eG:∀x∈fl,vu w x.1 x.2) (m8:fl.Pairwise fun x y=>∀b,aM b x.2->¬aM b y.2):
  HR w.heap.size (vV fl) w (kG w fl) (lx fl) (fun n=>Nat.ble aZ n) []:=by
 have lm:∀{i j:Nat} {x y:Mode×PC},fl[i]? =some x->fl[j]? =some y->i≠j->∀b,aM b x.2->¬aM b y.2:=by
  intro i j x y hi hj hZ b hb aL
  obtain⟨li,ei⟩:=List.getElem?_eq_some_iff.1 hi
  obtain⟨lj,ej⟩:=List.getElem?_eq_some_iff.1 hj
  rw[List.pairwise_iff_getElem] at m8
  subst ei
  subst ej
  rcases Nat.lt_or_gt_of_ne hZ with h|h
  ·exact m8 i j li lj h b hb aL
  ·exact m8 j i lj li h b aL hb
 have gg:∀{n:Nat} {x:Mode×PC},fl[n - aZ]? =some x->(kG w fl).g n=mH x.2:=by intro n x h;simp only[kG,h]
 have Db:∀{x:Mode×PC},x∈fl->(mH x.2).nl=false->aM (mH x.2).b x.2:=by
  intro x hx hl
  obtain⟨sz,a,cap,xs,e,_,_,_⟩:=(eG x hx).dv
  have wj:=hg x hx
  rw[e] at hl wj⊢
  rcases wj.cases with rfl|⟨av,_,b,o,rfl⟩
  ·rw[zK] at hl;cases hl
  ·rw[uL av];exact .here _ _ _ _ av
 have NX:∀{x:Mode×PC},x∈fl->∀b,aN b (mH x.2).px->aM b x.2:=by
  intro x hx b hb
  obtain⟨sz,a,cap,xs,e,_,_,_⟩:=(eG x hx).dv
  have wj:=hg x hx
  rw[e] at hb wj⊢
  rcases wj.cases with rfl|⟨av,_,b,o,rfl⟩
  ·rw[zK] at hb
   obtain⟨k,j,c,⟨e,he,_⟩,_⟩:=hb
   simp at he
  ·rw[uL av] at hb
   obtain⟨k,j,c,hk,hc⟩:=hb
   exact .there _ _ _ _ k j c hk hc
 have sub:∀{n n':Nat},aZ<=n->aZ<=n'->n≠n'->n - aZ≠n' - aZ:=by intro n n' h1 h2 h3;omega
 refine⟨fun n hn=>?_,fun m cs c n hm=>?_,fun n cs hn=>?_,fun n gr m sz xs hn=>?_,fun n hn hl=>?_,fun n n' hn bC av hl cT=>?_,fun b hb=>hb.1,fun b _=>.inr (.inr trivial),fun n n' gr m sz xs aU m' aC ao hn bC _ _ av b hb=>?_,
  fun n gr sz xs hn b hb n' bC cT=>?_,(by intro i pc hi;simp at hi),(by intro i j pc dd b _ hi;simp at hi),(by intro i pc n gr m sz xs b hi;simp at hi)⟩
 ·cases hh:lx fl n with
  |none=>exact absurd hh hn
  |some b=>exact Nat.ble_eq_true_of_le (n6 hh).1
 ·obtain⟨_,m',sz,a,cap,xs,_,e⟩:=n6 hm;cases e
 ·obtain⟨_,m',sz,a,cap,xs,_,e⟩:=n6 hn;cases e
 ·obtain⟨hp,m',aC,a,cap,ao,hf,e⟩:=n6 hn
  injection e with e1 e2 e3 e4
  subst e1 e2 e3 e4
  have hx:(m,PC.list sz a cap ao)∈fl:=List.mem_of_getElem? hf
  have ok:=eG _ hx
  have dA:=hg _ hx
  obtain⟨iS,a2,Ek,gw,e,dU,lC,sy⟩:=ok.dv
  injection e with e1 e2 e3 e4
  subst e1 e2 e3 e4
  rw[gg hf]
  have NY:∀b,aN b ao->aM b (PC.list sz a cap ao):=fun b ⟨k,j,c,hk,hc⟩=>.there _ _ _ _ k j c hk hc
  have gj:Az w.heap.size (vV fl) w (kG w fl) ao m:=by
   have je:=Sep.row ok.sep
   cases m with
   |aF=>cases sy
   |aj=>exact⟨fun b hb=>absurd hb (zS sy b),je⟩
   |live=>exact⟨fun b hb=>⟨fun hi=>hi.2 ⟨_,hx,NY b hb⟩,ok.un b (NY b hb),.inr ⟨_,hx,NY b hb⟩⟩,je⟩
  rcases dA.cases with rfl|⟨av,hH,b,o,rfl⟩
  ·rw[zK]
   exact⟨dU,rfl,fun _=>⟨rfl,fun h=>by cases h⟩,(fun h=>by cases h),(fun h=>by cases h),gj⟩
  ·rw[uL av]
   exact⟨dU,rfl,(fun h=>by cases h),fun _=>⟨ok.un b (.here _ _ _ _ av),Good.rowAt dA,hH⟩,(fun _ h=>by cases h),gj⟩
 ·cases hh:lx fl n with
  |none=>exact absurd hh hn
  |some blk=>
   obtain⟨hp,m',aC,a,cap,ao,hf,e⟩:=n6 hh
   have hx:(m',PC.list aC a cap ao)∈fl:=List.mem_of_getElem? hf
   rw[gg hf] at hl⊢
   have ht:=Db hx hl
   exact⟨fun hi=>hi.2 ⟨_,hx,ht⟩,.inr ⟨_,hx,ht⟩,((eG _ hx).un _ ht).lt⟩
 ·cases hh:lx fl n with
  |none=>exact absurd hh hn
  |some blk=>
   cases BH:lx fl n' with
   |none=>exact absurd BH bC
   |some aao=>
    obtain⟨hp,m1,qf,a1,x9,oW,hf,_⟩:=n6 hh
    obtain⟨aX,m2,iS,a2,Ek,gw,jc,_⟩:=n6 BH
    rw[gg hf] at hl⊢
    rw[gg jc] at cT⊢
    intro he
    exact lm hf jc (sub hp aX av) _ (Db (List.mem_of_getElem? hf) hl) (he▸Db (List.mem_of_getElem? jc) cT)
 ·obtain⟨hp,m1,qf,a1,x9,oW,hf,_⟩:=n6 hn
  obtain⟨aX,m2,iS,a2,Ek,gw,jc,_⟩:=n6 bC
  rw[gg hf] at hb
  rw[gg jc]
  exact fun aL=>lm hf jc (sub hp aX av) b (NX (List.mem_of_getElem? hf) b hb) (NX (List.mem_of_getElem? jc) b aL)
 ·obtain⟨hp,m1,qf,a1,x9,oW,hf,_⟩:=n6 hn
  rw[gg hf] at hb
  cases BH:lx fl n' with
  |none=>exact absurd BH bC
  |some aao=>
   obtain⟨aX,m2,iS,a2,Ek,gw,jc,_⟩:=n6 BH
   rw[gg jc] at cT⊢
   rintro rfl
   by_cases av:n=n'
   ·subst av
    rw[hf] at jc
    injection jc with jc
    injection jc with _ jc
    injection jc with q1 q2 q3 q4
    subst q1 q2 q3 q4
    have hm:=List.mem_of_getElem? hf
    obtain⟨sz,a,cap,xs,e,_,lC,_⟩:=(eG _ hm).dv
    have wj:=hg _ hm
    injection e with e1 e2 e3 e4
    subst e1 e2 e3 e4
    rcases wj.cases with rfl|⟨av,_,b,o,rfl⟩
    ·rw[zK] at cT;cases cT
    ·rw[uL av] at hb
     exact lC b o rfl hb
   ·exact lm hf jc (sub hp aX av) _ (NX (List.mem_of_getElem? hf) _ hb) (Db (List.mem_of_getElem? jc) cT)
end
end Go.Am
end
section
namespace Go.Am
section
variable {B:Nat} {E:Ex} {w0 w w':World} {G G':Gh} {N:Nat} {h h':Nat->Option ak} {used:Nat->Bool}
variable {P:Program} {T:aA} {a:Act} {σ σ':St} {Q:Exit->Act->World->Prop}
theorem Jx {α:Type}:∀{s:List (Option Mode)} {xs:List α} {x:Mode×α},x∈dC s xs->x.2∈xs
 |some m::fs,y::xs,x,h=>by
  simp only[dC,List.mem_cons] at h
  rcases h with rfl|h
  ·simp
  ·exact List.mem_cons_of_mem _ (Jx h)
 |none::fs,y::xs,x,h=>by
  simp only[dC] at h
  exact List.mem_cons_of_mem _ (Jx h)
 |[],_,x,h=>by simp[dC] at h
 |some m::fs,[],x,h=>by simp[dC] at h
 |none::fs,[],x,h=>by simp[dC] at h
theorem Jv {α:Type}:∀{sig:aJ} {qk:List (List α)} {x:Mode×α},x∈dr sig qk->∃xs∈qk,x.2∈xs
 |s::sig,xs::qk,x,h=>by
  simp only[dr,List.mem_append] at h
  rcases h with h|h
  ·exact⟨xs,by simp,Jx h⟩
  ·obtain⟨ys,h1,h2⟩:=Jv h
   exact⟨ys,by simp[h1],h2⟩
 |[],_,x,h=>by simp[dr] at h
 |s::sig,[],x,h=>by simp[dr] at h
theorem Ed {fl:List (Mode×PC)} (eG:∀x∈fl,vu w x.1 x.2) (hg:∀x∈fl,Good w x.2):∀(c:Nat) (fs:List (Option Mode)) (ps:List PC),(∀(q:Nat) (x:Mode×PC),(dC fs ps)[q]? =some x->fl[c+q]? =some x)->(∀pc∈ps,Good w pc)->
  (∀pc∈k8 fs ps,∀x∈fl,∀b,aM b pc->¬aM b x.2)->cL w (kG w fl) (lx fl) (fN c fs (ps.map PC.er)) (ps.map PC.val)
 |c,[],ps,hq,eK,hu=>by
  simp only[fN]
  refine⟨by simp,fun j x u hj jD=>?_⟩
  simp only[List.getElem?_map,List.map_map] at hj jD
  cases hp:ps[j]? with
  |none=>rw[hp] at hj;cases hj
  |some pc=>
   rw[hp] at hj jD
   simp at hj jD
   subst hj;subst jD
   have hm:=List.mem_of_getElem? hp
   exact⟨PC.jN pc,pc,rfl,rfl,eK pc hm,fun b hb=>⟨(eK pc hm).lt hb,fun⟨x,hx,dD⟩=>hu pc (by simpa[k8] using hm) x hx b hb dD⟩⟩
 |c,f::fs,[],hq,eK,hu=>by
  cases f<;>exact⟨rfl,by intro j c u hj;simp[fN] at hj⟩
 |c,none::fs,p::ps,hq,eK,hu=>by
  have ih:=Ed eG hg c fs ps (fun q x h=>hq q x (by simpa[dC] using h)) (fun pc h=>eK pc (by simp[h])) (fun pc h=>hu pc (by simp[k8,h]))
  simp only[List.map_cons,fN]
  refine⟨by simp[ih.1],fun j x u hj jD=>?_⟩
  cases j with
  |zero=>
   simp at hj jD
   subst hj;subst jD
   exact⟨PC.jN p,p,rfl,rfl,eK p (by simp),fun b hb=>⟨(eK p (by simp)).lt hb,fun⟨x,hx,dD⟩=>hu p (by simp[k8]) x hx b hb dD⟩⟩
  |succ j=>exact ih.2 j x u (by simpa using hj) (by simpa using jD)
 |c,some m::fs,p::ps,hq,eK,hu=>by
  have h0:=hq 0 (m,p) (by simp[dC])
  simp only[Nat.add_zero] at h0
  have tW:=List.mem_of_getElem? h0
  obtain⟨sz,a,cap,xs,e,dU,lC,sy⟩:=(eG _ tW).dv
  simp only at e
  subst e
  have ih:=Ed eG hg (c+1) fs ps (fun q x h=>by have:=hq (q+1) x (by simpa[dC] using h);rwa[show c+(q+1)=c+1+q by omega] at this) (fun pc h=>eK pc (by simp[h])) (fun pc h=>hu pc (by simpa[k8] using h))
  simp only[List.map_cons,PC.du,fN]
  refine⟨by simp[ih.1],fun j x u hj jD=>?_⟩
  cases j with
  |zero=>
   simp at hj jD
   subst hj;subst jD
   refine⟨PC.jN _,fun _=>?_⟩
   have BG:(kG w fl).g (aZ+c)=mH (.list sz a cap xs):=by simp only[kG,Nat.add_sub_cancel_left,h0]
   rw[BG]
   rcases(hg _ tW).cases with rfl|⟨av,hH,b,o,rfl⟩
   ·rw[zK]
    exact .inl ⟨rfl,rfl,rfl,rfl⟩
   ·rw[uL av]
    exact .inr ⟨rfl,some (ad b o),by simp[PC.val],by simpa using hH,fun _=>by simp⟩
  |succ j=>exact ih.2 j x u (by simpa using hj) (by simpa using jD)
theorem Rb {fl:List (Mode×PC)} (eG:∀x∈fl,vu w x.1 x.2) (hg:∀x∈fl,Good w x.2) {c:Nat} {s:List (Option Mode)} {d:Dv} {v:Value} {p:PA} (hA:rH w d v p)
  (hq:∀(q:Nat) (x:Mode×PC),(dC s p.ps)[q]? =some x->fl[c+q]? =some x) (hu:∀pc∈k8 s p.ps,∀x∈fl,∀b,aM b pc->¬aM b x.2) (hp:p.k=.ptr->uN s p.ps.length/\∀x∈fl,¬aM p.b x.2):
  RA w (kG w fl) (lx fl) (mT c s d) v:=by
 obtain⟨k,ps,b,o⟩:=p
 obtain⟨rfl,eK,hv⟩:=hA
 cases k with
 |one=>
  have hv:ps.map PC.val=[v]:=hv
  have hl:=Ed eG hg c s ps hq eK hu
  rw[hv] at hl
  simp only[mT]
  obtain⟨x,hx⟩:∃x,fN c s (ps.map PC.er)=[x]:=by
   have:=hl.1
   match hh:fN c s (ps.map PC.er),this with
   |[x],_=>exact⟨x,rfl⟩
  rw[hx] at hl⊢
  exact .inr hl
 |agg=>
  have hv:v=.agg (ps.map PC.val).toArray:=hv
  exact⟨_,hv,Ed eG hg c s ps hq eK hu⟩
 |ptr=>
  obtain⟨h1,h2,h3⟩:v=.pointer (some (ad b o))/\b<w.heap.size/\∀j c,ps[j]? =some c->w.cell? (ad b (o+j))=some c.val:=hv
  obtain⟨hs,Fz⟩:=hp rfl
  subst h1
  rcases hs with rfl|⟨j,hj,rfl⟩
  rotate_left
  ·obtain⟨qs,q,rfl⟩:∃qs q,ps=qs++[q]:=⟨ps.dropLast,ps.getLast (by intro e;rw[e] at hj;simp at hj),(List.dropLast_concat_getLast _).symm⟩
   have pF:qs.length=j:=by
    have:(qs++[q]).length=j+1:=hj
    rw[List.length_append] at this
    simpa using this
   subst pF
   rw[SW] at hq
   rw[Zn] at hu
   have h0:=hq 0 (.aj,q) rfl
   rw[Nat.add_zero] at h0
   have tW:=List.mem_of_getElem? h0
   obtain⟨sz,a,cap,xs,e,dU,lC,sy⟩:=(eG _ tW).dv
   simp only at e
   subst e
   have e1:mT c (List.replicate qs.length none++[some .aj]) (K.ptr,(qs++[PC.list sz a cap xs]).map PC.er)=.one (.bD ((qs++[PC.list sz a cap xs]).map PC.er) 0 qs.length (aZ+c) sz xs.length):=by
    have av:List.replicate qs.length (none:Option Mode)++[some .aj]≠[]:=by simp
    simp only[mT,AO]
    split
    ·rename_i hh;exact absurd hh av
    ·simp[PC.du]
   rw[e1]
   have ac3:=h3 qs.length (PC.list sz a cap xs) (by simp)
   refine RA.fi rfl ⟨b,o,qs++[PC.list sz a cap xs],by simp,rfl,⟨h2,fun⟨x,hx,dD⟩=>Fz x hx dD⟩,fun i c' hZ hi=>?_,_,ac3,PC.jN _,fun _=>?_⟩
   ·have hi':qs[i]? =some c':=by
     by_cases bB:i<qs.length
     ·rwa[List.getElem?_append_left bB] at hi
     ·have:=(List.getElem?_eq_some_iff.1 hi).1
      rw[List.length_append] at this
      simp at this
      omega
    have hm:=List.mem_of_getElem? hi'
    have bx:c'∈qs++[PC.list sz a cap xs]:=List.mem_append_left _ hm
    exact⟨h3 i c' hi,eK c' bx,fun b' aL=>⟨(eK c' bx).lt aL,fun⟨x,hx,dD⟩=>hu c' hm x hx b' aL dD⟩⟩
   ·have BG:(kG w fl).g (aZ+c)=mH (.list sz a cap xs):=by simp only[kG,Nat.add_sub_cancel_left,h0]
    rw[BG]
    rcases(hg _ tW).cases with rfl|⟨av,hH,b,o,rfl⟩
    ·rw[zK]
     exact .inl ⟨rfl,rfl,rfl,rfl⟩
    ·rw[uL av]
     exact .inr ⟨rfl,some (ad b o),by simp[PC.val],by simpa using hH,fun _=>by simp⟩
  refine RA.fi rfl ⟨b,o,ps,by simp,rfl,⟨h2,fun⟨x,hx,dD⟩=>Fz x hx dD⟩,fun j c hj=>?_⟩
  have hm:=List.mem_of_getElem? hj
  exact⟨h3 j c hj,eK c hm,fun b' aL=>⟨(eK c hm).lt aL,fun⟨x,hx,dD⟩=>hu c (by simpa[k8] using hm) x hx b' aL dD⟩⟩
theorem LH {fl:List (Mode×PC)} (eG:∀x∈fl,vu w x.1 x.2) (hg:∀x∈fl,Good w x.2):∀(ds:List Dv) (k c:Nat) (sig:aJ) (vals:List Value) (aD:List PA),vals.length=ds.length->aD.length=ds.length->
  (∀(i:Nat) (d:Dv) (v:Value) (p:PA),ds[i]? =some d->vals[i]? =some v->aD[i]? =some p->rH w d v p)->(∀(q:Nat) (x:Mode×PC),(dr sig (aD.map (·.ps)))[q]? =some x->fl[c+q]? =some x)->
  (∀pc∈jq sig (aD.map (·.ps)),∀x∈fl,∀b,aM b pc->¬aM b x.2)->(∀p∈aD,p.k=.ptr->∀x∈fl,¬aM p.b x.2)->(∀(i:Nat) (p:PA) (s:List (Option Mode)),aD[i]? =some p->sig[i]? =some s->p.k=.ptr->uN s p.ps.length)->
  ∀s,RA w (kG w fl) (lx fl) (j7 k c sig ds s) (if k<=s then vals.getD (s - k) undef else undef)
 |[],k,c,sig,vals,aD,l1,l2,hA,hq,hu,hp,hs,s=>by simp only[j7];exact Or.inl rfl
 |d::ds,k,c,sig,v::vals,p::aD,l1,l2,hA,hq,hu,hp,hs,s=>by
  have Wg:vals.length=ds.length:=by simpa using l1
  have Wq:aD.length=ds.length:=by simpa using l2
  have A0:=hA 0 d v p rfl rfl rfl
  have A1:=fun i d' v' p' (h1:ds[i]? =some d') (h2:vals[i]? =some v') (h3:aD[i]? =some p')=>hA (i+1) d' v' p' (by simpa using h1) (by simpa using h2) (by simpa using h3)
  have eK:=A0.2.1
  have hd2:d.2=p.ps.map PC.er:=by rw[A0.1]
  have shift:∀x:ai,(s≠k->RA w (kG w fl) (lx fl) x (if k+1<=s then vals.getD (s - (k+1)) undef else undef))->s≠k->RA w (kG w fl) (lx fl) x (if k<=s then(v::vals).getD (s - k) undef else undef):=by
   intro x hx sG
   have:=hx sG
   by_cases hk:k+1<=s
   ·rw[if_pos hk] at this
    rw[if_pos (by omega),show s - k=(s - (k+1))+1 by omega]
    simpa using this
   ·rw[if_neg hk] at this
    rw[if_neg (by omega)]
    exact this
  cases sig with
  |nil=>
   simp only[j7]
   by_cases sG:s=k
   ·subst sG
    rw[bu,if_pos (Nat.le_refl _)]
    simp only[Nat.sub_self,List.getD_cons_zero]
    refine Rb eG hg A0 (fun q x h=>by simp[dC] at h) (fun pc bc=>hu pc ?_) (fun e=>⟨.inl rfl,hp p (by simp) e⟩)
    simp only[k8] at bc
    simp[jq,bc]
   ·rw[cd _ _ _ _ sG]
    refine shift _ (fun _=>LH eG hg ds (k+1) c [] vals aD Wg Wq A1 (fun q x h=>by simp[dr] at h) (fun pc bc=>hu pc ?_) (fun p aX=>hp p (by simp[aX])) (fun i p s _ h=>by simp at h) s) sG
    simp only[jq] at bc
    simp only[List.map_cons,jq,List.flatten_cons,List.mem_append]
    exact .inr bc
  |cons sg sig=>
   simp only[j7]
   have hlen:(dC sg d.2).length=(dC sg p.ps).length:=by rw[hd2,E6,List.length_map]
   by_cases sG:s=k
   ·subst sG
    rw[bu,if_pos (Nat.le_refl _)]
    simp only[Nat.sub_self,List.getD_cons_zero]
    refine Rb eG hg A0 (fun q x h=>hq q x ?_) (fun pc bc=>hu pc ?_) (fun e=>⟨hs 0 p sg rfl rfl e,hp p (by simp) e⟩)
    ·simp only[List.map_cons,dr]
     rw[List.getElem?_append_left (List.getElem?_eq_some_iff.1 h).1]
     exact h
    ·simp only[List.map_cons,jq,List.mem_append]
     exact .inl bc
   ·rw[cd _ _ _ _ sG]
    refine shift _ (fun _=>LH eG hg ds (k+1) (c+(dC sg d.2).length) sig vals aD Wg Wq A1 (fun q x h=>?_) (fun pc bc=>hu pc ?_) (fun p aX=>hp p (by simp[aX])) (fun i p s h1 h2=>hs (i+1) p s (by simpa using h1) (by simpa using h2)) s) sG
    ·have:=hq ((dC sg p.ps).length+q) x (by
      simp only[List.map_cons,dr]
      rw[List.getElem?_append_right (Nat.le_add_right _ _),Nat.add_sub_cancel_left]
      exact h)
     rw[hlen,Nat.add_assoc]
     exact this
    ·simp only[List.map_cons,jq,List.mem_append]
     exact .inr bc
 |_::_,k,c,sig,[],aD,l1,l2,hA,hq,hu,hp,hs,s=>by simp at l1
 |_::_,k,c,sig,_::_,[],l1,l2,hA,hq,hu,hp,hs,s=>by simp at l2
theorem Rc {c:Nat} {s:List (Option Mode)} {d:Dv} {m:Nat} (h:(mT c s d).ref m):aZ<=m:=by
 have bU:∀(cs:List C) (c:Nat) (s:List (Option Mode)),∀x∈fN c s cs,x.ref m->aZ<=m:=by
  intro cs
  induction cs with
  |nil=>
   intro c s x hx
   cases s with
   |nil=>simp[fN] at hx
   |cons f fs=>cases f<;>simp[fN] at hx
  |cons y cs ih=>
   intro c s x hx hr
   cases s with
   |nil=>
    simp only[fN,List.mem_map] at hx
    obtain⟨z,_,rfl⟩:=hx
    exact absurd hr id
   |cons f fs=>
    cases f with
    |none=>
     simp only[fN,List.mem_cons] at hx
     rcases hx with rfl|hx
     ·exact absurd hr id
     ·exact ih _ _ _ hx hr
    |some md=>
     cases y with
     |list sz xs=>
      simp only[fN,List.mem_cons] at hx
      rcases hx with rfl|hx
      ·have hr:m=aZ+c:=hr
       omega
      ·exact ih _ _ _ hx hr
     |int k n=>
      simp only[fN,List.mem_cons] at hx
      rcases hx with rfl|hx
      ·exact absurd hr id
      ·exact ih _ _ _ hx hr
     |bool b=>
      simp only[fN,List.mem_cons] at hx
      rcases hx with rfl|hx
      ·exact absurd hr id
      ·exact ih _ _ _ hx hr
 obtain⟨k,xs⟩:=d
 cases k with
 |one=>
  simp only[mT] at h
  match hh:fN c s xs,h with
  |[],h=>exact absurd h id
  |[x],h=>exact bU xs c s x (by rw[hh];simp) h
  |_::_::_,h=>exact absurd h id
 |agg=>
  obtain⟨x,hx,hr⟩:=h
  exact bU xs c s x hx hr
 |ptr=>
  simp only[mT,AO] at h
  split at h
  ·exact absurd h id
  ·split at h
   ·have h':m=aZ+c:=h
    omega
   ·exact absurd h id
theorem LJ:∀{ds:List Dv} {k c:Nat} {sig:aJ} {s m:Nat},(j7 k c sig ds s).ref m->aZ<=m
 |[],k,c,sig,s,m,h=>by simp only[j7] at h;exact absurd h id
 |d::ds,k,c,[],s,m,h=>by
  simp only[j7,ik] at h
  split at h
  ·exact Rc h
  ·exact LJ h
 |d::ds,k,c,sg::sig,s,m,h=>by
  simp only[j7,ik] at h
  split at h
  ·exact Rc h
  ·exact LJ h
theorem R.LM {sig:aJ} {ds:List Dv} {vals:List Value} {aD:List PA} (M:tu w sig ds vals aD) (hN:ds.length<=N):
  R w.heap.size (vV (dr sig (aD.map (·.ps)))) w N (y8 sig ds) {tmps:=vals.toArray++Array.replicate (N - vals.toArray.size) undef,defers:=[]} w (kG w (dr sig (aD.map (·.ps)))):=by
 have jZ:ds.map (·.2)=(aD.map (·.ps)).map fun l=>l.map PC.er:=by
  apply List.ext_getElem?
  intro i
  simp only[List.getElem?_map]
  cases hd:ds[i]? with
  |none=>
   have:ds.length<=i:=List.getElem?_eq_none_iff.1 hd
   rw[List.getElem?_eq_none (by rw[M.l2];exact this)]
   rfl
  |some d=>
   have hi:=(List.getElem?_eq_some_iff.1 hd).1
   have hv:vals[i]? =some (vals[i]'(by rw[M.l1];exact hi)):=List.getElem?_eq_getElem _
   have hp:aD[i]? =some (aD[i]'(by rw[M.l2];exact hi)):=List.getElem?_eq_getElem _
   have:=(M.at_ i d _ _ hd hv hp).1
   rw[hp]
   simp only[Option.map_some]
   rw[this]
 have eK:∀p∈aD,∀pc∈p.ps,Good w pc:=by
  intro p hp pc bc
  obtain⟨i,hi,rfl⟩:=List.getElem_of_mem hp
  have hd:ds[i]? =some (ds[i]'(by rw[<-M.l2];exact hi)):=List.getElem?_eq_getElem _
  have hv:vals[i]? =some (vals[i]'(by rw[M.l1,<-M.l2];exact hi)):=List.getElem?_eq_getElem _
  exact(M.at_ i _ _ _ hd hv (List.getElem?_eq_getElem hi)).2.1 pc bc
 have hg:∀x∈dr sig (aD.map (·.ps)),Good w x.2:=by
  intro x hx
  obtain⟨l,hl,oe⟩:=Jv hx
  obtain⟨p,hp,rfl⟩:=List.mem_map.1 hl
  exact eK p hp _ oe
 have yN:(y8 sig ds).h=lx (dr sig (aD.map (·.ps))):=by
  funext n
  simp only[y8,lx,jZ,E5]
 refine⟨rfl,by simp[M.l1];omega,fun s=>?_,fun s n hn=>Nat.ble_eq_true_of_le (LJ hn),?_,Fr.refl _ _ _ (Nat.le_refl _),fun n p b hp hb=>?_,fun n hn=>Nat.ble_eq_true_of_le hn⟩
 ·rw[yN]
  have:=LH M.ok hg ds 0 0 sig vals aD M.l1 M.l2 M.at_ (fun q x h=>by rw[Nat.zero_add];exact h) M.free M.ptr M.aic s
  simp only[Nat.zero_le,if_true,Nat.sub_zero] at this
  have e:(vals.toArray++Array.replicate (N - vals.toArray.size) undef).getD s undef=vals.getD s undef:=by
   simp only[Array.getD_eq_getD_getElem?,List.getD_eq_getElem?_getD]
   by_cases bB:s<vals.length
   ·simp[Array.getElem?_append,bB]
   ·rw[List.getElem?_eq_none (by omega)]
    simp only[Array.getElem?_append,List.size_toArray,bB,if_false,Array.getElem?_replicate]
    split<;>rfl
  rw[e]
  exact this
 ·rw[yN]
  exact HR.LM hg M.ok M.lm
 ·rw[yN] at hb
  obtain⟨Fy,m,sz,a,cap,xs,hf,e⟩:=n6 hb
  have aX:(if aZ<=n then((dr sig (aD.map (·.ps)))[n - aZ]?).map (fun x=>mH x.2) else none)=some p:=hp
  rw[if_pos Fy,hf] at aX
  simp at aX
  subst aX
  have BG:(kG w (dr sig (aD.map (·.ps)))).g n=mH (.list sz a cap xs):=by simp only[kG,hf]
  rw[BG]
  exact⟨rfl,rfl,rfl,rfl,rfl,fun gr aC ao _ k j pc hk hL=>⟨pc,hk,rfl,hL⟩⟩
theorem NC:∀{fl:List (Mode×C)} {q:Nat} {cP:List C},uH σ q fl=some cP->cP.length=fl.length/\∀i x,fl[i]? =some x->∃o,cP[i]? =some o/\zI σ (q+i) x=some o
 |[],q,cP,h=>by simp only[uH] at h;injection h with h;subst h;exact⟨rfl,by simp⟩
 |y::l,q,cP,h=>by
  simp only[uH] at h
  split at h
  ·rename_i o os h1 h2
   injection h with h
   subst h
   obtain⟨i1,i2⟩:=NC h2
   refine⟨by simp[i1],fun i x hx=>?_⟩
   cases i with
   |zero=>simp at hx;subst hx;exact⟨o,rfl,h1⟩
   |succ i=>
    obtain⟨o',e1,e2⟩:=i2 i x (by simpa using hx)
    exact⟨o',by simpa using e1,by rw[show q+(i+1)=q+1+i by omega];exact e2⟩
  ·cases h
theorem aio {q:Nat} {x:Mode×C} {o:C} (h:zI σ q x=some o):∃sz xs gr ao,x.2=.list sz xs/\σ.h (aZ+q)=some (.row gr x.1 sz ao)/\ao.length=xs.length/\qG x.1 ao=true/\ao.map (fun e=>e.map C.ou)=xs.map (fun e=>e.map C.ou)/\o=.list sz ao:=by
 unfold zI at h
 split at h
 ·rename_i sz xs gr m' aC ao h1 h2
  split at h
  ·rename_i hc
   obtain⟨rfl,rfl,h3,h4,h5⟩:=hc
   injection h with h
   exact⟨_,xs,gr,ao,h1,h2,h3,h4,h5,h.symm⟩
  ·cases h
 ·cases h
theorem aaX {px:List (List PC)} (hd:(px.map fun e=>e.map PC.er).all (fun e=>e.all C.qD)=true) {k j:Nat} {c:PC} (hk:At px k j c):∀sz a cap ys,c=.list sz a cap ys->∀b,¬aN b ys:=by
 rintro sz a cap ys rfl b
 obtain⟨e,he,hj⟩:=hk
 simp only[List.all_eq_true,List.mem_map] at hd
 have h1:=hd (e.map PC.er) ⟨e,List.mem_of_getElem? he,rfl⟩ (PC.er (.list sz a cap ys)) (List.mem_map.2 ⟨_,List.mem_of_getElem? hj,rfl⟩)
 rw[PC.du] at h1
 exact zS h1 b
theorem PC.afl (c:PC):c.er.ou=c.fR:=by
 cases c with
 |int k n=>rfl
 |bool b=>rfl
 |list sz a cap xs=>rw[PC.du];rfl
theorem akw {px px':List (List PC)} (hs:(px'.map fun e=>e.map PC.er).map (fun e=>e.map C.ou)=(px.map fun e=>e.map PC.er).map (fun e=>e.map C.ou)) {k j:Nat} {c:PC} (hk:At px' k j c):
  ∃c0,At px k j c0/\c0.fR=c.fR:=by
 obtain⟨e,he,hj⟩:=hk
 have h1:=congrArg (fun l=>l[k]?) hs
 simp only[List.getElem?_map,he,Option.map_some] at h1
 cases h0:px[k]? with
 |none=>rw[h0] at h1;cases h1
 |some e0=>
  rw[h0] at h1
  simp only[Option.map_some,Option.some.injEq] at h1
  have h2:=congrArg (fun l=>l[j]?) h1
  simp only[List.getElem?_map,hj,Option.map_some] at h2
  cases h3:e0[j]? with
  |none=>rw[h3] at h2;cases h2
  |some c0=>
   rw[h3] at h2
   simp only[Option.map_some,Option.some.injEq,PC.afl] at h2
   exact⟨c0,⟨e0,h0,h3⟩,h2.symm⟩
theorem At.inj {α:Type} {px:List (List α)} {k j:Nat} {c c':α} (h:At px k j c) (h':At px k j c'):c=c':=by
 obtain⟨e,h1,h2⟩:=h
 obtain⟨e',h3,h4⟩:=h'
 rw[h1] at h3
 injection h3 with h3
 subst h3
 rw[h2] at h4
 injection h4
theorem WT {px px':List (List PC)} (hd:(px.map fun e=>e.map PC.er).all (fun e=>e.all C.qD)=true)
  (hl:∀k j pc,At px k j pc->pc.fR=true->∃dd,At px' k j dd/\dd.val=pc.val/\dd.fR=true) {b:Nat} (hb:aN b px):aN b px':=by
 obtain⟨k,j,c,hk,hc⟩:=hb
 cases c with
 |int k n=>exact absurd hc aM.aif
 |bool x=>exact absurd hc aM.aie
 |list sz a cap ys=>
  have sy:=aaX hd hk sz a cap ys rfl
  rw[aM.jk] at hc
  rcases hc with⟨av,o,rfl⟩|⟨k',j',c',cC,cN⟩
  ·obtain⟨c',h1,h2,h3⟩:=hl k j _ hk rfl
   cases c' with
   |int k n=>cases h3
   |bool x=>cases h3
   |list aC a' qy ys'=>
    simp only[PC.val] at h2
    injection h2 with e1 e2 e3
    subst e1
    refine⟨k,j,_,h1,?_⟩
    rw[aM.jk]
    refine .inl ⟨fun ade=>?_,o,rfl⟩
    subst ade
    exact av (List.eq_nil_of_length_eq_zero e2.symm)
  ·exact absurd ⟨k',j',c',cC,cN⟩ (sy b)
end
end Go.Am
end
