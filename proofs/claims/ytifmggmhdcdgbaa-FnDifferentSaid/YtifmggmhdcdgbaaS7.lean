/- S7: typed functions as a whole. No condition. -/
import Derived.Test.YtifmggmhdcdgbaaS6
set_option linter.unusedVariables false
namespace Go.Am
def Fc (k:K) (ts:List Ty) (x:Ty.DL ts):SV:=
 match k with
 |.one=>match Ty.cells ts x with
  |[c]=>.one c
  |_=>.one .bh
 |.agg=>.agg (Ty.cells ts x)
 |.ptr=>.one (.ca ts x 0)
theorem abh (k:K) (ts:List Ty) (x:Ty.DL ts):(Fc k ts x).er=xW (k,Ty.aF ts x):=by
 cases k with
 |one=>
  match ts,x with
  |[],x=>rfl
  |[t],x=>rfl
  |t::u::[],x=>rfl
  |t::u::v::ts,x=>rfl
 |agg=>simp only[Fc,SV.er,xW,Ty.lU]
 |ptr=>rfl
def Fg:Nat->(as:au)->aV as.aU->(Nat->SV)
 |_,[],_=>fun _=>.one .bh
 |k,[a],x=>aw (fun _=>.one .bh) k (Fc a.1 a.2 x)
 |k,a::b::as,x=>aw (Fg (k+1) (b::as) x.2) k (Fc a.1 a.2 x.1)
theorem abB:∀(k:Nat) (as:au) (x:aV as.aU),pC (Fg k as x)=sS k (cU as x)
 |k,[],x=>rfl
 |k,[a],x=>by
  have e:(Fc a.1 a.2 x).er=xW (a.1,Ty.aF a.2 x):=abh a.1 a.2 x
  simp only[Fg,cU,sS,v5]
  rw[e]
  rfl
 |k,a::b::as,x=>by
  have ih:=abB (k+1) (b::as) x.2
  simp only[Fg,cU,v5,abh,ih]
  rw[sS]
def Uf (as:au) (x:aV as.aU):ah:={env:=Fg 0 as x,h:=fun _=>none,used:=fun n=>Nat.ble aH n}
theorem anW (as:au) (x:aV as.aU):(Uf as x).er=Eo (cU as x):=by
 simp only[Uf,ah.er,Eo,abB]
 rfl
section
variable {ρ:Type}
def xq (σ:ah):List bG->(List SV->Option ρ)->Option ρ
 |[],k=>k []
 |.tmp t::ms,k=>xq σ ms fun vs=>k (σ.env t::vs)
 |.cell t sz ag::ms,k=>match σ.env t with
  |.one p=>Fk σ.h p sz fun cs=>xq σ ms fun vs=>k (zA ag cs::vs)
  |_=>none
theorem Ft {σ:ah}:∀{ms:List bG} {k:List SV->Option ρ} {r:ρ},xq σ ms k=some r->∃vs,σ.er.rK ms=some (vs.map SV.er)/\k vs=some r
 |[],k,r,h=>⟨[],rfl,h⟩
 |.tmp t::ms,k,r,h=>by
  simp only[xq] at h
  obtain⟨vs,h1,h2⟩:=Ft h
  exact⟨_,by simp only[St.rK,h1];rfl,h2⟩
 |.cell t sz ag::ms,k,r,h=>by
  simp only[xq] at h
  split at h
  ·rename_i p hp
   obtain⟨cs,h1,h2⟩:=Uj h
   obtain⟨vs,h3,h4⟩:=Ft h2
   have bd:σ.er.env t=.one p.er:=by show(σ.env t).er=_;rw[hp];rfl
   have iT:loadAt σ.er.h p.er sz=some (cs.map SC.er):=h1
   exact⟨_,by simp only[St.rK,bd,iT,h3,List.map_cons,CC],h4⟩
  ·cases h
def UA (h:Nat->Option SB) (c:SC) (k:(t:Ty)->t.D->List Nat->Option ρ):Option ρ:=
 match c with
 |.v t x=>eH t.d7 (k t x [])
 |.nil ts=>match ts with
  |[]=>none
  |t::us=>k (.list (t::us)) ([]:List (Ty.DL (t::us))) []
 |.sl n sz lo len=>match h n with
  |some (.row true m ts xs)=>cF ts.length sz (eH m.own (cF lo 0 ((dq xs len).aa fun ys=>k (.list ts) ys [n])))
  |_=>none
 |_=>none
theorem an9 {h:Nat->Option SB} {c:SC} {k:(t:Ty)->t.D->List Nat->Option ρ} {r:ρ} (hx:UA h c k=some r):
  ∃(t:Ty) (x:t.D) (ns:List Nat),kL (cM h) c.er=some (t.er x,ns)/\k t x ns=some r:=by
 unfold UA at hx
 split at hx
 ·rename_i t x
  have h1:=(bT hx).1;replace hx:=(bT hx).2
  exact⟨t,x,[],by simp only[SC.er,kL,Ty.xl,h1,if_true],hx⟩
 ·split at hx
  ·cases hx
  ·rename_i t us
   exact⟨.list (t::us),[],[],by simp[SC.er,kL,Ty.er],hx⟩
 ·rename_i n sz lo len
  split at hx
  ·rename_i m ts xs hn
   have bo:=(bc hx).1;replace hx:=(bc hx).2;subst bo
   have hm:=(bT hx).1;replace hx:=(bT hx).2
   have bo:=(bc hx).1;replace hx:=(bc hx).2;subst bo
   rw[eR] at hx
   obtain⟨ys,hw,hx⟩:=hx
   obtain⟨w1,w2⟩:=acv hw
   refine⟨.list ts,ys,[n],?_,hx⟩
   have bB:m≠ .aA:=by rintro rfl;cases hm
   simp only[SC.er,kL,cM,hn,Option.map_some,SB.er,List.length_map,w1,w2,ne_eq,bB,not_false_eq_true,and_self,if_true,Ty.er]
  ·cases hx
 ·cases hx
def K5 (h:Nat->Option SB):List SC->(List TD->List Nat->Option ρ)->Option ρ
 |[],k=>k [] []
 |c::cs,k=>UA h c fun t x ns=>K5 h cs fun l jR=>k (⟨t,x⟩::l) (ns++jR)
theorem ab1 {h:Nat->Option SB}:∀{cs:List SC} {k:List TD->List Nat->Option ρ} {r:ρ},K5 h cs k=some r->
  ∃l ns,tG (cM h) (cs.map SC.er)=some (cf l,ns)/\k l ns=some r
 |[],k,r,hx=>⟨[],[],rfl,hx⟩
 |c::cs,k,r,hx=>by
  simp only[K5] at hx
  obtain⟨t,x,ns,h1,h2⟩:=an9 hx
  obtain⟨l,jR,h3,h4⟩:=ab1 h2
  exact⟨⟨t,x⟩::l,ns++jR,by simp[tG,h1,h3,cf],h4⟩
def kOf:Bool->K
 |true=>.agg
 |false=>.one
def Fu (h:Nat->Option SB):List SV->(List bP->List Nat->Option ρ)->Option ρ
 |[],k=>k [] []
 |v::vs,k=>match v.cells? with
  |some (ag,cs)=>K5 h cs fun l ns=>Fu h vs fun ds jR=>k ((kOf ag,l)::ds) (ns++jR)
  |none=>none
theorem UB {h:Nat->Option SB}:∀{vs:List SV} {k:List bP->List Nat->Option ρ} {r:ρ},Fu h vs k=some r->
  ∃ds ns,qA (cM h) (vs.map SV.er)=some (ds.map bP.er,ns)/\k ds ns=some r
 |[],k,r,hx=>⟨[],[],rfl,hx⟩
 |v::vs,k,r,hx=>by
  simp only[Fu] at hx
  split at hx
  ·rename_i ag cs hc
   obtain⟨l,ns,h1,h2⟩:=ab1 hx
   obtain⟨ds,jR,h3,h4⟩:=UB h2
   refine⟨_,_,?_,h4⟩
   simp only[List.map_cons,qA,SV.lU hc,h1,h3]
   cases ag<;>rfl
  ·cases hx
end
def ET:List Nat->Bool
 |[]=>true
 |n::l=> !(l.contains n)&&ET l
theorem Ru:∀{l:List Nat},ET l=true->l.Nodup
 |[],_=>List.nodup_nil
 |n::l,h=>by
  simp only[ET,Bool.and_eq_true,Bool.not_eq_true'] at h
  rw[List.nodup_cons]
  refine⟨fun hm=>?_,Ru h.2⟩
  have:l.contains n=true:=by simpa using hm
  rw[this] at h
  cases h.1
def K4 (σ:ah) (ms:List bG) (aE:au):Option (aV aE.aU):=
 xq σ ms fun vs=>Fu σ.h vs fun ds ns=>eH (ET ns) (qp aE ds)
theorem ab0 {σ:ah} {ms:List bG} {aE:au} {y:aV aE.aU} (h:K4 σ ms aE=some y):σ.er.tF ms=some (cU aE y):=by
 unfold K4 at h
 obtain⟨vs,h1,h2⟩:=Ft h
 obtain⟨ds,ns,h3,h4⟩:=UB h2
 have h5:=(bT h4).1;replace h6:=(bT h4).2
 have wg:qA σ.er.h (vs.map SV.er)=some (ds.map bP.er,ns):=h3
 simp only[St.tF,h1,wg,if_pos (Ru h5),wZ h6]
def ez (N:Nat) (T:List aI) (sc:bF) (ms:List bG) (args aE:au) (x:aV args.aU):Option (aV aE.aU):=
 kN N T sc (Uf args x) (fun σ=>K4 σ ms aE) (fun _ _=>none) (fun σ=>K4 σ ms aE)
theorem anp {T:List aI} {sc:bF} {ms:List bG} {args aE:au} {x:aV args.aU} {y:aV aE.aU} (h:ez aB T sc ms args aE x=some y):
  KD (de T) sc.er ms (cU args x)=some (cU aE y):=by
 obtain⟨o,h1,h2⟩:=rO sc h
 rw[anW] at h1
 unfold KD
 rw[h1]
 cases o with
 |fD τ=>
  obtain⟨dT,rfl,h2⟩:=h2
  exact ab0 h2
 |ret τ=>
  obtain⟨dT,rfl,h2⟩:=h2
  exact ab0 h2
 |ext i τ=>
  obtain⟨dT,rfl,h2⟩:=h2
  cases h2
theorem Di:∀(as:au) (x:aV as.aU),(cU as x).length=as.length
 |[],_=>rfl
 |[a],_=>rfl
 |a::b::as,x=>by simp only[cU,List.length_cons,Di (b::as) x.2]
def pf:Nat->List (Option Mode)->List TD->List SC
 |c,some _::fs,⟨.list ts,xs⟩::l=>.sl (aH+c) ts.length 0 (U (α:=Ty.DL ts) xs)::pf (c+1) fs l
 |c,some _::fs,⟨.int _,_⟩::l=>.bh::pf (c+1) fs l
 |c,some _::fs,⟨.bool,_⟩::l=>.bh::pf (c+1) fs l
 |c,none::fs,x::l=>.v x.1 x.2::pf c fs l
 |c,[],l=>l.map fun x=>.v x.1 x.2
 |c,_::_,[]=>[]
theorem Fa:∀(c:Nat) (fs:List (Option Mode)) (l:List TD),(pf c fs l).map SC.er=gd c fs (cf l)
 |c,some m::fs,⟨.list ts,xs⟩::l=>by
  simp only[pf,cf,List.map_cons,Ty.er,gd,SC.er]
  have:=Fa (c+1) fs l
  simp only[cf] at this
  rw[this]
  exact congrArg (fun q=>ai.sl (aH+c) ts.length 0 q::_) (List.length_map (Ty.aF ts)).symm
 |c,some m::fs,⟨.int k,x⟩::l=>by
  simp only[pf,cf,List.map_cons,Ty.er,gd,SC.er]
  exact congrArg _ (Fa (c+1) fs l)
 |c,some m::fs,⟨.bool,x⟩::l=>by
  simp only[pf,cf,List.map_cons,Ty.er,gd,SC.er]
  exact congrArg _ (Fa (c+1) fs l)
 |c,none::fs,⟨t,x⟩::l=>by
  simp only[pf,cf,List.map_cons,gd,SC.er]
  exact congrArg _ (Fa c fs l)
 |c,[],l=>by
  cases l<;>simp[pf,cf,gd,SC.er]
 |c,some m::fs,[]=>rfl
 |c,none::fs,[]=>rfl
def Fb (c:Nat) (s:List (Option Mode)) (d:K×List Ty) (x:Ty.DL d.2):SV:=
 match d.1 with
 |.one=>match pf c s (Ty.gK d.2 x) with
  |[y]=>.one y
  |_=>.one .bh
 |.agg=>.agg (pf c s (Ty.gK d.2 x))
 |.ptr=>.one (.ca d.2 x 0)
theorem abg (c:Nat) (s:List (Option Mode)) (d:K×List Ty) (x:Ty.DL d.2):(Fb c s d x).er=r9 c s (d.1,Ty.aF d.2 x):=by
 obtain⟨k,ts⟩:=d
 have h:=Fa c s (Ty.gK ts x)
 rw[Ty.pw] at h
 cases k with
 |one=>
  simp only[Fb,r9,<-h]
  generalize pf c s (Ty.gK ts x)=l
  match l with
  |[]=>rfl
  |[y]=>rfl
  |_::_::_=>rfl
 |agg=>simp only[Fb,r9,<-h,SV.er]
 |ptr=>rfl
def Fh:Nat->Nat->be->(as:au)->aV as.aU->(Nat->SV)
 |_,_,_,[],_=>fun _=>.one .bh
 |k,c,sig,[a],x=>aw (fun _=>.one .bh) k (Fb c sig.hd a x)
 |k,c,sig,a::b::as,x=>aw (Fh (k+1) (c+(dO sig.hd (Ty.gK a.2 x.1)).length) sig.tl (b::as) x.2) k (Fb c sig.hd a x.1)
theorem MY {α β:Type}:∀(s:List (Option Mode)) (l:List α) (l':List β),l.length=l'.length->(dO s l).length=(dO s l').length
 |some m::fs,x::xs,y::ys,h=>by simp only[dO,List.length_cons,MY fs xs ys (by simpa using h)]
 |none::fs,x::xs,y::ys,h=>by simp only[dO];exact MY fs xs ys (by simpa using h)
 |[],l,l',h=>by cases l<;>cases l'<;>rfl
 |some m::fs,[],[],h=>rfl
 |none::fs,[],[],h=>rfl
 |_::_,[],_::_,h=>by simp at h
 |_::_,_::_,[],h=>by simp at h
theorem adM (ts:List Ty) (x:Ty.DL ts):(Ty.gK ts x).length=(Ty.aF ts x).length:=by
 rw[<-Ty.pw,cf,List.length_map]
theorem Y8 (k c:Nat) (sig:be) (d:Dv) (ds:List Dv):lH k c sig (d::ds)=aw (lH (k+1) (c+(dO sig.hd d.2).length) sig.tl ds) k (r9 c sig.hd d):=by
 cases sig with
 |nil=>
  have:(dO (be.hd []) d.2).length=0:=rfl
  rw[this]
  simp only[lH,Nat.add_zero,be.tl,be.hd]
 |cons s sig=>rfl
theorem abz:∀(k c:Nat) (sig:be) (as:au) (x:aV as.aU),pC (Fh k c sig as x)=lH k c sig (cU as x)
 |k,c,sig,[],x=>by cases sig<;>rfl
 |k,c,sig,[a],x=>by
  simp only[Fh,cU,v5]
  have h:=abg c sig.hd a x
  rw[Y8]
  have e:lH (k+1) (c+(dO sig.hd (Ty.aF a.2 x)).length) sig.tl []=vZ:=by
   simp only[lH]
  rw[e]
  exact congrArg (fun v=>aw (pC fun _=>SV.one SC.bh) k v) h
 |k,c,sig,a::b::as,x=>by
  have ih:=abz (k+1) (c+(dO sig.hd (Ty.gK a.2 x.1)).length) sig.tl (b::as) x.2
  simp only[Fh,cU,v5,abg,ih,Y8 (ds:=cU (b::as) x.2)]
  rw[MY sig.hd (Ty.gK a.2 x.1) (Ty.aF a.2 x.1) (adM _ _)]
def Cl (sig:be) (as:au) (x:aV as.aU):List (Mode×TD):=eg sig ((nE as x).map (·.2))
theorem Ub (sig:be) (as:au) (x:aV as.aU):(Cl sig as x).map (fun p=>(p.1,p.2.1.er p.2.2))=eg sig ((cU as x).map (·.2)):=by
 unfold Cl
 rw[<-Ai,<-Ii (fun p:TD=>p.1.er p.2)]
 simp only[List.map_map]
 rfl
def UE:Mode×TD->Option SB
 |(m,⟨.list ts,xs⟩)=>some (.row false m ts xs)
 |_=>none
theorem aob (p:Mode×TD):(UE p).map SB.er=mB (p.1,p.2.1.er p.2.2):=by
 obtain⟨m,t,x⟩:=p
 cases t<;>rfl
def Cx:List (Mode×TD)->Nat->Option SB
 |[],_=>none
 |p::_,0=>UE p
 |_::l,n+1=>Cx l n
theorem ab4:∀(l:List (Mode×TD)) (n:Nat),Cx l n=(l[n]?).bind UE
 |[],n=>by simp[Cx]
 |p::l,0=>by simp[Cx]
 |p::l,n+1=>by simp[Cx,ab4 l n]
def abx (fl:List (Mode×TD)):Nat->Option SB:=fun n=>match Nat.ble aH n with
 |true=>Cx fl (Nat.sub n aH)
 |false=>none
def Ug (sig:be) (as:au) (x:aV as.aU):ah:={env:=Fh 0 0 sig as x,h:=abx (Cl sig as x),used:=fun n=>Nat.ble aH n}
theorem anU (sig:be) (as:au) (x:aV as.aU):(Ug sig as x).er=Bi sig (cU as x):=by
 simp only[Ug,ah.er,Bi,abz]
 congr 1
 funext n
 simp only[cM,abx]
 cases hb:Nat.ble aH n with
 |true=>
  rw[if_pos (Nat.le_of_ble_eq_true hb),<-Ub,ab4]
  simp only[List.getElem?_map]
  cases (Cl sig as x)[n - aH]? with
  |none=>simp
  |some p=>simp[aob]
 |false=>
  rw[if_neg (fun h=>by rw[Nat.ble_eq_true_of_le h] at hb;cases hb)]
  rfl
def ah.jw (σ:ah):ah:={σ with h:=fun n=>match Nat.ble aH n with|true=>none|false=>σ.h n}
theorem ah.alW (σ:ah):σ.jw.er=σ.er.jw:=by
 simp only[ah.jw,ah.er,St.jw]
 congr 1
 funext n
 simp only[cM]
 cases hb:Nat.ble aH n with
 |true=>rw[if_pos (Nat.le_of_ble_eq_true hb)];rfl
 |false=>rw[if_neg (fun h=>by rw[Nat.ble_eq_true_of_le h] at hb;cases hb)]
section
variable {ρ:Type}
def Uq (σ:ah) (q:Nat) (p:Mode×TD) (k:TD->Option ρ):Option ρ:=
 match p with
 |(m,⟨.list ts,xs⟩)=>match σ.h (aH+q) with
  |some (.row _ m' us ys)=>eH (Mode.beq m' m) (eH (Ty.qP us ts) (eH (U0 m us) ((ve (U ys) (U (α:=Ty.DL ts) xs)).aa fun _=>k ⟨.list us,ys⟩)))
  |_=>none
 |_=>none
theorem Zk (t:Ty) (x:t.D):(t.er x).qc= !t.d7:=by cases t<;>rfl
theorem Zj:∀(ts:List Ty) (x:Ty.DL ts),(Ty.aF ts x).map C.qc=ts.map fun t=> !t.d7
 |[],_=>rfl
 |[t],x=>congrArg (fun b=>[b]) (Zk t x)
 |t::u::ts,x=>by
  have:=Zj (u::ts) x.2
  simp only[List.map_cons] at this
  simp only[Ty.aF,List.map_cons,Zk,this]
theorem Zl (ts:List Ty) (xs:List (Ty.DL ts)):(List.map (Ty.aF ts) xs).map (fun e=>e.map C.qc)=List.replicate xs.length (ts.map fun t=> !t.d7):=by
 induction xs with
 |nil=>rfl
 |cons x xs ih=>simp only[List.map_cons,Zj,ih,List.length_cons,List.replicate_succ]
theorem an4 {σ:ah} {q:Nat} {p:Mode×TD} {k:TD->Option ρ} {r:ρ} (h:Uq σ q p k=some r):∃o:TD,B4 σ.er q (p.1,p.2.1.er p.2.2)=some (o.1.er o.2)/\k o=some r:=by
 unfold Uq at h
 split at h
 ·rename_i m ts xs
  split at h
  ·rename_i gr m' us ys hn
   have h1:=(bT h).1;replace h:=(bT h).2
   have h2:=(bT h).1;replace h:=(bT h).2
   have h3:=(bT h).1;replace h:=(bT h).2
   rw[eR] at h
   obtain⟨_,hs,h⟩:=h
   have hl:U ys=U (α:=Ty.DL ts) xs:=by
    unfold ve at hs
    split at hs
    ·assumption
    ·cases hs
   have h1:=Mode.beq_eq h1
   have h2:=Ty.sa h2
   subst h1 h2
   refine⟨_,?_,h⟩
   have bm:σ.er.h (aH+q)=some (.row gr m' us.length (List.map (Ty.aF us) ys)):=by simp[ah.er,cM,hn,SB.er]
   have dt:List.length ys=List.length (α:=Ty.DL us) xs:=hl
   have X5:(List.map (Ty.aF us) ys).length=(List.map (α:=Ty.DL us) (Ty.aF us) xs).length:=(List.length_map _).trans (dt.trans (List.length_map (as:=(xs:List (Ty.DL us))) (Ty.aF us)).symm)
   have DU:(List.map (Ty.aF us) ys).map (fun e=>e.map C.qc)=(List.map (α:=Ty.DL us) (Ty.aF us) xs).map (fun e=>e.map C.qc):=
    (Zl us ys).trans ((congrArg (fun n=>List.replicate n _) dt).trans (Zl us xs).symm)
   simp only[B4,Ty.er,bm]
   rw[if_pos ⟨trivial,trivial,X5,Xi _ _ _ h3,DU⟩]
  ·cases h
 ·cases h
def KV (σ:ah):Nat->List (Mode×TD)->(List TD->Option ρ)->Option ρ
 |_,[],k=>k []
 |q,p::l,k=>Uq σ q p fun o=>KV σ (q+1) l fun os=>k (o::os)
theorem abO {σ:ah}:∀{l:List (Mode×TD)} {q:Nat} {k:List TD->Option ρ} {r:ρ},KV σ q l k=some r->∃os,w9 σ.er q (l.map fun p=>(p.1,p.2.1.er p.2.2))=some (cf os)/\k os=some r
 |[],q,k,r,h=>⟨[],rfl,h⟩
 |p::l,q,k,r,h=>by
  simp only[KV] at h
  obtain⟨o,h1,h2⟩:=an4 h
  obtain⟨os,h3,h4⟩:=abO h2
  exact⟨o::os,by simp only[List.map_cons,w9,h1,h3,cf],h4⟩
end
def K6 (σ:ah) (ms:List bG) (fl:List (Mode×TD)) (kk:Nat) (aE:au):Option (aV aE.aU):=
 xq σ.jw ms fun vs=>Fu σ.jw.h vs fun ds ns=>eH (ET ns) (cF ds.length kk (KV σ 0 fl fun os=>qp aE (ds++os.map fun o=>(.one,[o]))))
theorem ab2 {σ:ah} {ms:List bG} {fl:List (Mode×TD)} {kk:Nat} {aE:au} {y:aV aE.aU} (h:K6 σ ms fl kk aE=some y):
  σ.er.Ce ms (fl.map fun p=>(p.1,p.2.1.er p.2.2))=some (xp kk (cU aE y)):=by
 unfold K6 at h
 obtain⟨vs,h1,h2⟩:=Ft h
 obtain⟨ds,ns,h3,h4⟩:=UB h2
 have h5:=(bT h4).1;replace h4:=(bT h4).2
 have h6:=(bc h4).1;replace h4:=(bc h4).2
 obtain⟨os,h7,h8⟩:=abO h4
 have wg:qA σ.jw.er.h (vs.map SV.er)=some (ds.map bP.er,ns):=h3
 have hr:σ.er.jw.tF ms=some (ds.map bP.er):=by
  rw[<-ah.alW]
  simp only[St.tF,h1,wg,if_pos (Ru h5)]
 simp only[St.Ce,hr,h7,<-wZ h8,KX,<-h6]
 congr 2
 ·rw[List.take_left]
 ·rw[List.drop_left]
  congr 1
  clear h7 h8
  induction os with
  |nil=>rfl
  |cons o os ih=>rw[List.map_cons,List.flatMap_cons,<-ih];rfl
def zl (N:Nat) (T:List aI) (sc:bF) (ms:List bG) (args:au) (mu:be) (aE:au) (x:aV args.aU):Option (aV aE.aU):=
 kN N T sc (Ug mu args x) (fun σ=>K6 σ ms (Cl mu args x) (aE.length - mu.nD) aE) (fun _ _=>none) (fun σ=>K6 σ ms (Cl mu args x) (aE.length - mu.nD) aE)
theorem ano {T:List aI} {sc:bF} {ms:List bG} {args:au} {mu:be} {aE:au} {x:aV args.aU} {y:aV aE.aU} (h:zl aB T sc ms args mu aE x=some y):
  KE (de T) sc.er ms mu (cU args x)=some (xp (aE.length - mu.nD) (cU aE y)):=by
 obtain⟨o,h1,h2⟩:=rO sc h
 rw[anU] at h1
 unfold KE
 rw[h1]
 cases o with
 |fD τ=>
  obtain⟨dT,rfl,h2⟩:=h2
  simp only[<-Ub]
  exact ab2 h2
 |ret τ=>
  obtain⟨dT,rfl,h2⟩:=h2
  simp only[<-Ub]
  exact ab2 h2
 |ext i τ=>
  obtain⟨dT,rfl,h2⟩:=h2
  cases h2
def E9 (k:K) (ts:List Ty) (x:Ty.DL ts):SV:=
 match k with
 |.one=>match Ty.cells ts x with
  |[c]=>.one c
  |_=>.one .bh
 |.agg=>.agg (Ty.cells ts x)
 |.ptr=>.one (.ptr aH 0 0 0)
theorem abf (k:K) (ts:List Ty) (x:Ty.DL ts):(E9 k ts x).er=C1 (k,Ty.aF ts x):=by
 cases k with
 |one=>
  match ts,x with
  |[],x=>rfl
  |[t],x=>rfl
  |t::u::[],x=>rfl
  |t::u::v::ts,x=>rfl
 |agg=>simp only[E9,SV.er,C1,Ty.lU]
 |ptr=>rfl
def Fi:Nat->(as:au)->aV as.aU->(Nat->SV)
 |_,[],_=>fun _=>.one .bh
 |k,[a],x=>aw (fun _=>.one .bh) k (E9 a.1 a.2 x)
 |k,a::b::as,x=>aw (Fi (k+1) (b::as) x.2) k (E9 a.1 a.2 x.1)
theorem abA:∀(k:Nat) (as:au) (x:aV as.aU),pC (Fi k as x)=sT k (cU as x)
 |k,[],x=>rfl
 |k,[a],x=>by
  have e:(E9 a.1 a.2 x).er=C1 (a.1,Ty.aF a.2 x):=abf a.1 a.2 x
  simp only[Fi,cU,sT,v5]
  rw[e]
  rfl
 |k,a::b::as,x=>by
  have ih:=abA (k+1) (b::as) x.2
  simp only[Fi,cU,v5,abf,ih]
  rw[sT]
def qF:(as:au)->aV as.aU->Option (List TD)
 |[],_=>none
 |[a],x=>match a.1.sU with
  |true=>some (Ty.gK a.2 x)
  |false=>none
 |a::b::as,x=>match a.1.sU with
  |true=>some (Ty.gK a.2 x.1)
  |false=>qF (b::as) x.2
theorem aaP (k:K) (xs:List C) (ds:List Dv):n8 ((k,xs)::ds)=match k.sU with|true=>some xs|false=>n8 ds:=by cases k<;>rfl
theorem XL (k:K) (ts:List Ty) (as:au):Az ((k,ts)::as)=match k.sU with|true=>true|false=>Az as:=by cases k<;>rfl
theorem Ut:∀(as:au) (x:aV as.aU),(qF as x).map cf=n8 (cU as x)
 |[],_=>rfl
 |[(k,ts)],x=>by
  simp only[qF,cU,aaP]
  cases k.sU with
  |true=>exact congrArg some (Ty.pw ts x)
  |false=>rfl
 |(k,ts)::b::as,x=>by
  simp only[qF,cU,aaP]
  cases k.sU with
  |true=>simp only[Option.map_some];rw[Ty.pw]
  |false=>exact Ut (b::as) x.2
theorem abU:∀(as:au) (x:aV as.aU),(qF as x).isSome=Az as
 |[],_=>rfl
 |[(k,ts)],x=>by
  simp only[qF,XL]
  cases k.sU<;>rfl
 |(k,ts)::b::as,x=>by
  simp only[qF]
  rw[XL]
  cases k.sU with
  |true=>rfl
  |false=>exact abU (b::as) x.2
def abC (as:au) (x:aV as.aU):Nat->Option SB:=fun n=>match Nat.beq n aH with
 |true=>match qF as x with
  |some l=>some (.box (l.map fun y=>.v y.1 y.2))
  |none=>none
 |false=>none
def Uh (as:au) (x:aV as.aU):ah:={env:=Fi 0 as x,h:=abC as x,used:=fun n=>Nat.ble aH n}
theorem anV (as:au) (x:aV as.aU):(Uh as x).er=Ep (cU as x):=by
 simp only[Uh,ah.er,Ep,abA]
 congr 1
 funext n
 simp only[cM,abC,nS]
 cases Nat.beq n aH with
 |false=>rfl
 |true=>
  simp only
  rw[<-Ut]
  cases qF as x with
  |none=>rfl
  |some l=>simp only[Option.map_some,SB.er,Ll]
section
variable {ρ:Type}
def K3 (h:Nat->Option SB):List SV->(List bP->Option ρ)->Option ρ
 |[],k=>k []
 |v::vs,k=>match v.cells? with
  |some (ag,cs)=>zx h cs fun l=>K3 h vs fun ds=>k ((PK ag,l)::ds)
  |none=>none
theorem abZ {h:Nat->Option SB}:∀{vs:List SV} {k:List bP->Option ρ} {r:ρ},K3 h vs k=some r->∃ds,qz (cM h) (vs.map SV.er)=some (ds.map bP.er)/\k ds=some r
 |[],k,r,hx=>⟨[],rfl,hx⟩
 |v::vs,k,r,hx=>by
  simp only[K3] at hx
  split at hx
  ·rename_i ag cs hc
   obtain⟨l,h1,h2⟩:=FB hx
   obtain⟨ds,h3,h4⟩:=abZ h2
   refine⟨_,?_,h4⟩
   simp only[List.map_cons,qz,SV.lU hc,h1,h3,bP.er]
   cases ag<;>rfl
  ·cases hx
def abT:List SV->Option (Nat×Nat×Nat)
 |[v]=>v.o8
 |_=>none
def UC (h:Nat->Option SB) (vs:List SV) (k:List bP->Option ρ):Option ρ:=
 match abT vs with
 |some (n,kk,off)=>match KJ h n kk off with
  |some l=>match Nat.ble aH n with
   |true=>none
   |false=>k [(.ptr,l)]
  |none=>none
 |none=>K3 h vs k
theorem aoa {h:Nat->Option SB} {vs:List SV} {k:List bP->Option ρ} {r:ρ} (hx:UC h vs k=some r):∃ds,Cg (cM h) (vs.map SV.er)=some (ds.map bP.er)/\k ds=some r:=by
 unfold UC at hx
 split at hx
 ·rename_i n kk off hp
  have hv:∃sz,vs=[.one (.ptr n kk sz off)]:=by
   unfold abT at hp
   split at hp
   ·obtain⟨sz,rfl⟩:=aaO hp
    exact⟨sz,rfl⟩
   ·cases hp
  obtain⟨sz,rfl⟩:=hv
  split at hx
  ·rename_i l hl
   split at hx
   ·cases hx
   ·rename_i hb
    refine⟨_,?_,hx⟩
    have e:=abi (sz:=sz) hl
    have hn:¬aH<=n:=fun eS=>by rw[Nat.ble_eq_true_of_le eS] at hb;cases hb
    simp only[List.map_cons,List.map_nil,Cg,e]
    rw[if_neg hn]
    rfl
  ·cases hx
 ·rename_i hp
  obtain⟨ds,h1,h2⟩:=abZ hx
  refine⟨ds,?_,h2⟩
  unfold Cg
  split
  ·rename_i v0 he
   have hv:∃v,vs=[v]/\v0=v.er:=by
    match vs,he with
    |[v],he=>simp at he;exact⟨v,rfl,he.symm⟩
   obtain⟨v,rfl,rfl⟩:=hv
   have bd:v.o8=none:=hp
   rw[aaN bd]
   exact h1
  ·exact h1
def Ur (h:Nat->Option SB) (cur:Option (List TD)) (k:List bP->Option ρ):Option ρ:=
 match cur with
 |none=>k []
 |some xs=>match h aH with
  |some (.box cs)=>cF cs.length xs.length (match zp cs with
   |some l=>k [(.ptr,l)]
   |none=>none)
  |_=>none
theorem an5 {h:Nat->Option SB} {cur:Option (List TD)} {k:List bP->Option ρ} {r:ρ} (hx:Ur h cur k=some r):
  ∃os:List bP,B5 (cM h) (cur.map cf)=some (cf (os.flatMap (·.2)))/\os.length=(match cur.isSome with|true=>1|false=>0)/\k os=some r:=by
 unfold Ur at hx
 split at hx
 ·exact⟨[],rfl,rfl,hx⟩
 ·rename_i xs
  split at hx
  ·rename_i cs hn
   have he:=(bc hx).1;replace hx:=(bc hx).2
   split at hx
   ·rename_i l hl
    refine⟨[(.ptr,l)],?_,rfl,hx⟩
    simp only[Option.map_some,B5,cM,hn,SB.er,List.length_map]
    rw[if_pos (by rw[he,cf,List.length_map]),KR hl]
    simp
   ·cases hx
  ·cases hx
end
def K7 (σ:ah) (ms:List bG) (cur:Option (List TD)) (aE:au):Option (aV aE.aU):=
 xq σ ms fun vs=>UC σ.h vs fun ds=>Ur σ.h cur fun os=>qp aE (ds++os)
theorem ab3 {σ:ah} {ms:List bG} {args:au} {x:aV args.aU} {aE:au} {y:aV aE.aU} (h:K7 σ ms (qF args x) aE=some y):
  σ.er.Cf ms (cU args x)=some (xp (aE.length - tz args) (cU aE y)):=by
 unfold K7 at h
 obtain⟨vs,h1,h2⟩:=Ft h
 obtain⟨ds,h3,h4⟩:=aoa h2
 obtain⟨os,h5,h6,h7⟩:=an5 h4
 have h8:=wZ h7
 have hlen:aE.length=ds.length+os.length:=by
  have:=congrArg List.length h8
  rw[Di,List.length_map,List.length_append] at this
  exact this.symm
 have pO:tz args=os.length:=by
  rw[h6,abU]
  unfold tz
  cases Az args<;>rfl
 have hk:aE.length - tz args=ds.length:=by omega
 have wg:Cg σ.er.h (vs.map SV.er)=some (ds.map bP.er):=h3
 have Is:B5 σ.er.h (n8 (cU args x))=some (cf (os.flatMap (·.2))):=by rw[<-Ut];exact h5
 simp only[St.Cf,h1,wg,Is,hk]
 rw[<-h8,KX,List.take_left,List.drop_left]
def ot (N:Nat) (T:List aI) (sc:bF) (ms:List bG) (args aE:au) (x:aV args.aU):Option (aV aE.aU):=
 kN N T sc (Uh args x) (fun σ=>K7 σ ms (qF args x) aE) (fun _ _=>none) (fun σ=>K7 σ ms (qF args x) aE)
theorem anq {T:List aI} {sc:bF} {ms:List bG} {args aE:au} {x:aV args.aU} {y:aV aE.aU} (h:ot aB T sc ms args aE x=some y):
  KF (de T) sc.er ms (cU args x)=some (xp (aE.length - tz args) (cU aE y)):=by
 obtain⟨o,h1,h2⟩:=rO sc h
 rw[anV] at h1
 unfold KF
 rw[h1]
 cases o with
 |fD τ=>
  obtain⟨dT,rfl,h2⟩:=h2
  exact ab3 h2
 |ret τ=>
  obtain⟨dT,rfl,h2⟩:=h2
  exact ab3 h2
 |ext i τ=>
  obtain⟨dT,rfl,h2⟩:=h2
  cases h2
def Vt (P:Program) (fn:aI):Prop:=(fn.mu.iE=0->dL P fn.id fn.M)/\(fn.mu.iE=1->r5 P fn.id fn.mu fn.MM)/\(fn.mu.iE=2->k8 P fn.id fn.MV)/\bM P fn.id=true
def aD (P:Program) (T:List aI):Prop:=∀fn∈T,Vt P fn
theorem aD.nil {P:Program}:aD P []:=fun _ h=>by cases h
theorem aD.MC {P:Program} {fn:aI} {T:List aI} (h:Vt P fn) (hT:aD P T):aD P (fn::T):=by
 intro g hg
 cases hg with
 |head=>exact h
 |tail _ hg=>exact hT g hg
theorem aD.cons {P:Program} {f:FuncId} {args aE:au} {F:aV args.aU->Option (aV aE.aU)} {T:List aI} (h:dL P f (aI.M ⟨f,args,[],aE,F⟩)/\bM P f=true) (hT:aD P T):aD P (⟨f,args,[],aE,F⟩::T):=
 aD.MC ⟨fun _=>h.1,fun hm=>(by cases hm),fun hm=>(by cases hm),h.2⟩ hT
theorem aD.ud {P:Program} {f:FuncId} {args:au} {s:List (Option Mode)} {mu:be} {aE:au} {F:aV args.aU->Option (aV aE.aU)} {T:List aI} (h:r5 P f (s::mu) (aI.MM ⟨f,args,s::mu,aE,F⟩)/\bM P f=true) (hT:aD P T)
  (hk:be.iE (s::mu)=1:=by rfl):aD P (⟨f,args,s::mu,aE,F⟩::T):=
 aD.MC ⟨fun hm=>absurd (hk.symm.trans hm) (by decide),fun _=>h.1,fun hm=>absurd (hk.symm.trans hm) (by decide),h.2⟩ hT
theorem aD.lc {P:Program} {f:FuncId} {args:au} {aE:au} {F:aV args.aU->Option (aV aE.aU)} {T:List aI} (h:k8 P f (aI.MV ⟨f,args,[[some .aA]],aE,F⟩)/\bM P f=true) (hT:aD P T):aD P (⟨f,args,[[some .aA]],aE,F⟩::T):=
 aD.MC ⟨fun hm=>(by cases hm),fun hm=>(by cases hm),fun _=>h.1,h.2⟩ hT
theorem Le:∀{T:List aI} {f:FuncId} {M:List Dv->Option (List Dv)},bj.find (de T).pure f=some M->∃fn∈T,fn.id=f/\M=fn.M/\fn.mu.iE=0
 |[],f,M,h=>by simp[de,bj.find] at h
 |g::l,f,M,h=>by
  simp only[de,List.filterMap_cons] at h
  by_cases hg:g.mu.iE=0
  ·simp only[hg,bj.find] at h
   split at h
   ·rename_i e
    injection h with h
    exact⟨g,by simp,e.symm,h.symm,hg⟩
   ·obtain⟨fn,h1,h2,h3⟩:=Le (T:=l) h
    exact⟨fn,by simp[h1],h2,h3⟩
  ·split at h
   ·obtain⟨fn,h1,h2,h3⟩:=Le (T:=l) h
    exact⟨fn,by simp[h1],h2,h3⟩
   ·rename_i z hz
    split at hz
    ·rename_i h0;exact absurd h0 hg
    ·cases hz
theorem UT:∀{T:List aI} {f:FuncId} {sig:be} {M:List Dv->Option (List Dv×List C)},bj.qV (de T).BW f=some (sig,M)->∃fn∈T,fn.id=f/\sig=fn.mu/\M=fn.MM/\fn.mu.iE=1
 |[],f,sig,M,h=>by simp[de,bj.qV] at h
 |g::l,f,sig,M,h=>by
  simp only[de,List.filterMap_cons] at h
  by_cases hg:g.mu.iE=1
  ·simp only[hg,bj.qV] at h
   split at h
   ·rename_i e
    injection h with h
    injection h with ha hb
    exact⟨g,by simp,e.symm,ha.symm,hb.symm,hg⟩
   ·obtain⟨fn,h1,h2,h3⟩:=UT (T:=l) h
    exact⟨fn,by simp[h1],h2,h3⟩
  ·split at h
   ·obtain⟨fn,h1,h2,h3⟩:=UT (T:=l) h
    exact⟨fn,by simp[h1],h2,h3⟩
   ·rename_i z hz
    split at hz
    ·rename_i h0;exact absurd h0 hg
    ·cases hz
theorem UU:∀{T:List aI} {f:FuncId} {M:List Dv->Option (List Dv×List C)},bj.nI (de T).vs f=some M->∃fn∈T,fn.id=f/\M=fn.MV/\fn.mu.iE=2
 |[],f,M,h=>by simp[de,bj.nI] at h
 |g::l,f,M,h=>by
  simp only[de,List.filterMap_cons] at h
  by_cases hg:g.mu.iE=2
  ·simp only[hg,bj.nI] at h
   split at h
   ·rename_i e
    injection h with h
    exact⟨g,by simp,e.symm,h.symm,hg⟩
   ·obtain⟨fn,h1,h2,h3⟩:=UU (T:=l) h
    exact⟨fn,by simp[h1],h2,h3⟩
  ·split at h
   ·obtain⟨fn,h1,h2,h3⟩:=UU (T:=l) h
    exact⟨fn,by simp[h1],h2,h3⟩
   ·rename_i z hz
    split at hz
    ·rename_i h0;exact absurd h0 hg
    ·cases hz
theorem aD.tok {P:Program} {T:List aI} (hT:aD P T):nu P (de T):=by
 refine⟨fun g M hM=>?_,fun g sig M hM=>?_,fun g M hM=>?_,fun g M hM=>?_⟩
 ·obtain⟨yn,h1,h2,h3,h4⟩:=Le hM
  subst h2 h3
  exact(hT yn h1).1 h4
 ·obtain⟨yn,h1,h2,h3,h4,h5⟩:=UT hM
  subst h2 h3 h4
  exact(hT yn h1).2.1 h5
 ·obtain⟨yn,h1,h2,h3,h4⟩:=UU hM
  subst h2 h3
  exact(hT yn h1).2.2.1 h4
 ·obtain⟨yn,h1,h2,h3,h4⟩:=Le hM
  subst h2
  exact(hT yn h1).2.2.2
def cG (P:Program) (f:FuncId) (mc:kY) (ms:List bG) (n:Nat):Bool:=
 match P.funcs[f]? with
 |some fn=>match fn.body with
  |some c=>iR P fn.ntmps c mc&&mH P fn.results.toList ms&&decide (n<=fn.ntmps)&&(fn.name != "runtime.NumGoroutine")
  |none=>false
 |none=>false
theorem Mv {P:Program} {f:FuncId} {mc:kY} {ms:List bG} {n:Nat} (h:cG P f mc ms n=true):bM P f=true:=by
 unfold cG at h
 unfold bM
 split at h
 ·rename_i fn hf
  split at h
  ·rename_i c hb
   simp only[Bool.and_eq_true] at h
   simp[hf,hb,h.2]
  ·cases h
 ·cases h
theorem eO {P:Program} {T:List aI} (hT:aD P T) (hm:P.follows .mixedOrders=true) {f:FuncId} {sc:bF} {ms:List bG} {args aE:au} (hc:cG P f sc.er ms args.length=true)
  (F:aV args.aU->Option (aV aE.aU)) (hF:∀x y,F x=some y->ez aB T sc ms args aE x=some y):dL P f (aI.M ⟨f,args,[],aE,F⟩)/\bM P f=true:=by
 refine⟨?_,Mv hc⟩
 unfold cG at hc
 split at hc
 ·rename_i fn hf
  split at hc
  ·rename_i c hb
   simp only[Bool.and_eq_true,decide_eq_true_eq] at hc
   refine amW (T:=de T) hT.tok hm hf hb hc.1.1.1 hc.1.1.2 fun ds rs hM=>?_
   obtain⟨x,y,h1,h2,h3⟩:=aI.LX hM
   subst h1 h3
   exact⟨by rw[Di];exact hc.1.2,anp (hF x y h2)⟩
  ·cases hc
 ·cases hc
theorem EO {P:Program} {T:List aI} (hT:aD P T) (hm:P.follows .mixedOrders=true) {f:FuncId} {sc:bF} {ms:List bG} {args:au} {mu:be} {aE:au} (hc:cG P f sc.er ms args.length=true)
  (F:aV args.aU->Option (aV aE.aU)) (hF:∀x y,F x=some y->zl aB T sc ms args mu aE x=some y):r5 P f mu (aI.MM ⟨f,args,mu,aE,F⟩)/\bM P f=true:=by
 refine⟨?_,Mv hc⟩
 unfold cG at hc
 split at hc
 ·rename_i fn hf
  split at hc
  ·rename_i c hb
   simp only[Bool.and_eq_true,decide_eq_true_eq] at hc
   refine akU (T:=de T) hT.tok hm hf hb hc.1.1.1 hc.1.1.2 fun ds rs ew hM=>?_
   unfold aI.MM at hM
   rw[Option.map_eq_some_iff] at hM
   obtain⟨vd,h0,NU⟩:=hM
   obtain⟨x,y,h1,h2,h3⟩:=aI.LX h0
   subst h1 h3
   refine⟨by rw[Di];exact hc.1.2,?_⟩
   rw[<-NU]
   exact ano (hF x y h2)
  ·cases hc
 ·cases hc
theorem qJ {P:Program} {T:List aI} (hT:aD P T) (hm:P.follows .mixedOrders=true) {f:FuncId} {sc:bF} {ms:List bG} {args aE:au} (hc:cG P f sc.er ms args.length=true)
  (F:aV args.aU->Option (aV aE.aU)) (hF:∀x y,F x=some y->ot aB T sc ms args aE x=some y):k8 P f (aI.MV ⟨f,args,[[some .aA]],aE,F⟩)/\bM P f=true:=by
 refine⟨?_,Mv hc⟩
 unfold cG at hc
 split at hc
 ·rename_i fn hf
  split at hc
  ·rename_i c hb
   simp only[Bool.and_eq_true,decide_eq_true_eq] at hc
   refine aoH (T:=de T) hT.tok hm hf hb hc.1.1.1 hc.1.1.2 fun ds rs out hM=>?_
   unfold aI.MV at hM
   rw[Option.map_eq_some_iff] at hM
   obtain⟨vd,h0,NU⟩:=hM
   obtain⟨x,y,h1,h2,h3⟩:=aI.LX h0
   subst h1 h3
   refine⟨by rw[Di];exact hc.1.2,?_⟩
   rw[<-NU]
   exact anq (hF x y h2)
  ·cases hc
 ·cases hc
end Go.Am
