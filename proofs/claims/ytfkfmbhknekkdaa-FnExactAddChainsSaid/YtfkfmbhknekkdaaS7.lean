/- S7: typed functions as a whole. No condition. -/
import Derived.Test.YtfkfmbhknekkdaaS6
import Derived.Test.YtfkfmbhknekkdaaAmY
import Derived.Test.YtfkfmbhknekkdaaAmZ
set_option linter.unusedVariables false
namespace Go.Am
def CO (k:K) (ts:List Ty) (x:Ty.DL ts):SV:=
 match k with
 |.one=>match Ty.cells ts x with
  |[c]=>.one c
  |_=>.one .bg
 |.agg=>.agg (Ty.cells ts x)
 |.ptr=>.one (.bV ts x 0)
theorem Yf (k:K) (ts:List Ty) (x:Ty.DL ts):(CO k ts x).er=vC (k,Ty.az ts x):=by
 cases k with
 |one=>
  match ts,x with
  |[],x=>rfl
  |[t],x=>rfl
  |t::u::[],x=>rfl
  |t::u::v::ts,x=>rfl
 |agg=>simp only[CO,SV.er,vC,Ty.jT]
 |ptr=>rfl
def CS:Nat->(as:ax)->bA as.bz->(Nat->SV)
 |_,[],_=>fun _=>.one .bg
 |k,[a],x=>aq (fun _=>.one .bg) k (CO a.1 a.2 x)
 |k,a::b::as,x=>aq (CS (k+1) (b::as) x.2) k (CO a.1 a.2 x.1)
theorem Yu:∀(k:Nat) (as:ax) (x:bA as.bz),po (CS k as x)=re k (dj as x)
 |k,[],x=>rfl
 |k,[a],x=>by
  have e:(CO a.1 a.2 x).er=vC (a.1,Ty.az a.2 x):=Yf a.1 a.2 x
  simp only[CS,dj,re,yr]
  rw[e]
  rfl
 |k,a::b::as,x=>by
  have ih:=Yu (k+1) (b::as) x.2
  simp only[CS,dj,yr,Yf,ih]
  rw[re]
def PJ (as:ax) (x:bA as.bz):ab:={env:=CS 0 as x,h:=fun _=>none,used:=fun n=>Nat.ble aZ n}
theorem aky (as:ax) (x:bA as.bz):(PJ as x).er=Cc (dj as x):=by
 simp only[PJ,ab.er,Cc,Yu]
 rfl
section
variable {ρ:Type}
def xn (σ:ab):List cD->(List SV->Option ρ)->Option ρ
 |[],k=>k []
 |.tmp t::ms,k=>xn σ ms fun vs=>k (σ.env t::vs)
 |.cell t sz ag::ms,k=>match σ.env t with
  |.one p=>CV σ.h p sz fun cs=>xn σ ms fun vs=>k (xr ag cs::vs)
  |_=>none
theorem Ho {σ:ab}:∀{ms:List cD} {k:List SV->Option ρ} {r:ρ},xn σ ms k=some r->∃vs,σ.er.ry ms=some (vs.map SV.er)/\k vs=some r
 |[],k,r,h=>⟨[],rfl,h⟩
 |.tmp t::ms,k,r,h=>by
  simp only[xn] at h
  obtain⟨vs,h1,h2⟩:=Ho h
  exact⟨_,by simp only[St.ry,h1];rfl,h2⟩
 |.cell t sz ag::ms,k,r,h=>by
  simp only[xn] at h
  split at h
  ·rename_i p hp
   obtain⟨cs,h1,h2⟩:=PL h
   obtain⟨vs,h3,h4⟩:=Ho h2
   have aX:σ.er.env t=.one p.er:=by show(σ.env t).er=_;rw[hp];rfl
   have iH:loadAt σ.er.h p.er sz=some (cs.map SC.er):=h1
   exact⟨_,by simp only[St.ry,aX,iH,h3,List.map_cons,Ai],h4⟩
  ·cases h
def PY (h:Nat->Option SB) (c:SC) (k:(t:Ty)->t.D->List Nat->Option ρ):Option ρ:=
 match c with
 |.v t x=>dQ t.dX (k t x [])
 |.nil ts=>match ts with
  |[]=>none
  |t::us=>k (.list (t::us)) ([]:List (Ty.DL (t::us))) []
 |.sl n sz lo len=>match h n with
  |some (.row true m ts xs)=>ci ts.length sz (dQ m.own (ci lo 0 ((iT xs len).ah fun ys=>k (.list ts) ys [n])))
  |_=>none
 |_=>none
theorem akN {h:Nat->Option SB} {c:SC} {k:(t:Ty)->t.D->List Nat->Option ρ} {r:ρ} (hx:PY h c k=some r):
  ∃(t:Ty) (x:t.D) (ns:List Nat),jn (cB h) c.er=some (t.er x,ns)/\k t x ns=some r:=by
 unfold PY at hx
 split at hx
 ·rename_i t x
  have h1:=(bQ hx).1;replace hx:=(bQ hx).2
  exact⟨t,x,[],by simp only[SC.er,jn,Ty.uV,h1,if_true],hx⟩
 ·split at hx
  ·cases hx
  ·rename_i t us
   exact⟨.list (t::us),[],[],by simp[SC.er,jn,Ty.er],hx⟩
 ·rename_i n sz lo len
  split at hx
  ·rename_i m ts xs hn
   have aS:=(aK hx).1;replace hx:=(aK hx).2;subst aS
   have hm:=(bQ hx).1;replace hx:=(bQ hx).2
   have aS:=(aK hx).1;replace hx:=(aK hx).2;subst aS
   rw[dF] at hx
   obtain⟨ys,hw,hx⟩:=hx
   obtain⟨w1,w2⟩:=Za hw
   refine⟨.list ts,ys,[n],?_,hx⟩
   have bx:m≠ .aF:=by rintro rfl;cases hm
   simp only[SC.er,jn,cB,hn,Option.map_some,SB.er,List.length_map,w1,w2,ne_eq,bx,not_false_eq_true,and_self,if_true,Ty.er]
  ·cases hx
 ·cases hx
def Hr (h:Nat->Option SB):List SC->(List TD->List Nat->Option ρ)->Option ρ
 |[],k=>k [] []
 |c::cs,k=>PY h c fun t x ns=>Hr h cs fun l iQ=>k (⟨t,x⟩::l) (ns++iQ)
theorem YW {h:Nat->Option SB}:∀{cs:List SC} {k:List TD->List Nat->Option ρ} {r:ρ},Hr h cs k=some r->
  ∃l ns,rA (cB h) (cs.map SC.er)=some (cA l,ns)/\k l ns=some r
 |[],k,r,hx=>⟨[],[],rfl,hx⟩
 |c::cs,k,r,hx=>by
  simp only[Hr] at hx
  obtain⟨t,x,ns,h1,h2⟩:=akN hx
  obtain⟨l,iQ,h3,h4⟩:=YW h2
  exact⟨⟨t,x⟩::l,ns++iQ,by simp[rA,h1,h3,cA],h4⟩
def kOf:Bool->K
 |true=>.agg
 |false=>.one
def C1 (h:Nat->Option SB):List SV->(List bG->List Nat->Option ρ)->Option ρ
 |[],k=>k [] []
 |v::vs,k=>match v.cells? with
  |some (ag,cs)=>Hr h cs fun l ns=>C1 h vs fun ds iQ=>k ((kOf ag,l)::ds) (ns++iQ)
  |none=>none
theorem PZ {h:Nat->Option SB}:∀{vs:List SV} {k:List bG->List Nat->Option ρ} {r:ρ},C1 h vs k=some r->
  ∃ds ns,oI (cB h) (vs.map SV.er)=some (ds.map bG.er,ns)/\k ds ns=some r
 |[],k,r,hx=>⟨[],[],rfl,hx⟩
 |v::vs,k,r,hx=>by
  simp only[C1] at hx
  split at hx
  ·rename_i ag cs hc
   obtain⟨l,ns,h1,h2⟩:=YW hx
   obtain⟨ds,iQ,h3,h4⟩:=PZ h2
   refine⟨_,_,?_,h4⟩
   simp only[List.map_cons,oI,SV.jT hc,h1,h3]
   cases ag<;>rfl
  ·cases hx
end
def CA:List Nat->Bool
 |[]=>true
 |n::l=> !(l.contains n)&&CA l
theorem Nv:∀{l:List Nat},CA l=true->l.Nodup
 |[],_=>List.nodup_nil
 |n::l,h=>by
  simp only[CA,Bool.and_eq_true,Bool.not_eq_true'] at h
  rw[List.nodup_cons]
  refine⟨fun hm=>?_,Nv h.2⟩
  have:l.contains n=true:=by simpa using hm
  rw[this] at h
  cases h.1
def Hq (σ:ab) (ms:List cD) (aG:ax):Option (bA aG.bz):=
 xn σ ms fun vs=>C1 σ.h vs fun ds ns=>dQ (CA ns) (lI aG ds)
theorem YV {σ:ab} {ms:List cD} {aG:ax} {y:bA aG.bz} (h:Hq σ ms aG=some y):σ.er.rz ms=some (dj aG y):=by
 unfold Hq at h
 obtain⟨vs,h1,h2⟩:=Ho h
 obtain⟨ds,ns,h3,h4⟩:=PZ h2
 have h5:=(bQ h4).1;replace h6:=(bQ h4).2
 have yD:oI σ.er.h (vs.map SV.er)=some (ds.map bG.er,ns):=h3
 simp only[St.rz,h1,yD,if_pos (Nv h5),pU h6]
def eD (N:Nat) (T:List ar) (sc:cg) (ms:List cD) (args aG:ax) (x:bA args.bz):Option (bA aG.bz):=
 km N T sc (PJ args x) (fun σ=>Hq σ ms aG) (fun _ _=>none) (fun σ=>Hq σ ms aG)
theorem aj0 {T:List ar} {sc:cg} {ms:List cD} {args aG:ax} {x:bA args.bz} {y:bA aG.bz} (h:eD bh T sc ms args aG x=some y):
  GL (cb T) sc.er ms (dj args x)=some (dj aG y):=by
 obtain⟨o,h1,h2⟩:=rB sc h
 rw[aky] at h1
 unfold GL
 rw[h1]
 cases o with
 |fx τ=>
  obtain⟨ek,rfl,h2⟩:=h2
  exact YV h2
 |ret τ=>
  obtain⟨ek,rfl,h2⟩:=h2
  exact YV h2
 |ext i τ=>
  obtain⟨ek,rfl,h2⟩:=h2
  cases h2
theorem Jo:∀(as:ax) (x:bA as.bz),(dj as x).length=as.length
 |[],_=>rfl
 |[a],_=>rfl
 |a::b::as,x=>by simp only[dj,List.length_cons,Jo (b::as) x.2]
def nE:Nat->List (Option Mode)->List TD->List SC
 |c,some _::fs,⟨.list ts,xs⟩::l=>.sl (aZ+c) ts.length 0 (aa (α:=Ty.DL ts) xs)::nE (c+1) fs l
 |c,some _::fs,⟨.int _,_⟩::l=>.bg::nE (c+1) fs l
 |c,some _::fs,⟨.bool,_⟩::l=>.bg::nE (c+1) fs l
 |c,none::fs,x::l=>.v x.1 x.2::nE c fs l
 |c,[],l=>l.map fun x=>.v x.1 x.2
 |c,_::_,[]=>[]
theorem CM:∀(c:Nat) (fs:List (Option Mode)) (l:List TD),(nE c fs l).map SC.er=fN c fs (cA l)
 |c,some m::fs,⟨.list ts,xs⟩::l=>by
  simp only[nE,cA,List.map_cons,Ty.er,fN,SC.er]
  have:=CM (c+1) fs l
  simp only[cA] at this
  rw[this]
  exact congrArg (fun q=>ae.sl (aZ+c) ts.length 0 q::_) (List.length_map (Ty.az ts)).symm
 |c,some m::fs,⟨.int k,x⟩::l=>by
  simp only[nE,cA,List.map_cons,Ty.er,fN,SC.er]
  exact congrArg _ (CM (c+1) fs l)
 |c,some m::fs,⟨.bool,x⟩::l=>by
  simp only[nE,cA,List.map_cons,Ty.er,fN,SC.er]
  exact congrArg _ (CM (c+1) fs l)
 |c,none::fs,⟨t,x⟩::l=>by
  simp only[nE,cA,List.map_cons,fN,SC.er]
  exact congrArg _ (CM c fs l)
 |c,[],l=>by
  cases l<;>simp[nE,cA,fN,SC.er]
 |c,some m::fs,[]=>rfl
 |c,none::fs,[]=>rfl
def OM (c:Nat) (s:List (Option Mode)) (ts:List Ty) (x:Ty.DL ts):SC:=
 match s with
 |[]=>.bV ts x 0
 |_::_=>match(Ty.f0 ts x).getLast? with
  |some ⟨.list us,l⟩=>.bD ts x 0 (ts.length - 1) (aZ+c) us.length (aa l)
  |_=>.bg
theorem akd (c:Nat) (s:List (Option Mode)) (ts:List Ty) (x:Ty.DL ts):(OM c s ts x).er=AO c s (Ty.az ts x):=by
 cases s with
 |nil=>rfl
 |cons f fs=>
  have h1:Ty.az ts x=(Ty.f0 ts x).map fun y=>y.1.er y.2:=(Ty.pg ts x).symm
  have h2:(Ty.az ts x).length=ts.length:=Ty.yt ts x
  simp only[OM,AO]
  rw[h2,h1,List.getLast?_map]
  cases hl:(Ty.f0 ts x).getLast? with
  |none=>rfl
  |some y=>
   obtain⟨t,l⟩:=y
   cases t with
   |list us=>
    simp only[Option.map_some,Ty.er,SC.er,h1,aa]
    exact congrArg (ae.bD _ 0 (ts.length - 1) (aZ+c) us.length) (List.length_map (as:=(l:List (Ty.DL us))) (Ty.az us)).symm
   |int k=>rfl
   |bool=>rfl
def CN (c:Nat) (s:List (Option Mode)) (d:K×List Ty) (x:Ty.DL d.2):SV:=
 match d.1 with
 |.one=>match nE c s (Ty.f0 d.2 x) with
  |[y]=>.one y
  |_=>.one .bg
 |.agg=>.agg (nE c s (Ty.f0 d.2 x))
 |.ptr=>.one (OM c s d.2 x)
theorem Ye (c:Nat) (s:List (Option Mode)) (d:K×List Ty) (x:Ty.DL d.2):(CN c s d x).er=mT c s (d.1,Ty.az d.2 x):=by
 obtain⟨k,ts⟩:=d
 have h:=CM c s (Ty.f0 ts x)
 rw[Ty.pg] at h
 cases k with
 |one=>
  simp only[CN,mT,<-h]
  generalize nE c s (Ty.f0 ts x)=l
  match l with
  |[]=>rfl
  |[y]=>rfl
  |_::_::_=>rfl
 |agg=>simp only[CN,mT,<-h,SV.er]
 |ptr=>exact congrArg ai.one (akd c s ts x)
def CT:Nat->Nat->aJ->(as:ax)->bA as.bz->(Nat->SV)
 |_,_,_,[],_=>fun _=>.one .bg
 |k,c,sig,[a],x=>aq (fun _=>.one .bg) k (CN c sig.hd a x)
 |k,c,sig,a::b::as,x=>aq (CT (k+1) (c+(dC sig.hd (Ty.f0 a.2 x.1)).length) sig.tl (b::as) x.2) k (CN c sig.hd a x.1)
theorem Jw {α β:Type}:∀(s:List (Option Mode)) (l:List α) (l':List β),l.length=l'.length->(dC s l).length=(dC s l').length
 |some m::fs,x::xs,y::ys,h=>by simp only[dC,List.length_cons,Jw fs xs ys (by simpa using h)]
 |none::fs,x::xs,y::ys,h=>by simp only[dC];exact Jw fs xs ys (by simpa using h)
 |[],l,l',h=>by cases l<;>cases l'<;>rfl
 |some m::fs,[],[],h=>rfl
 |none::fs,[],[],h=>rfl
 |_::_,[],_::_,h=>by simp at h
 |_::_,_::_,[],h=>by simp at h
theorem aaW (ts:List Ty) (x:Ty.DL ts):(Ty.f0 ts x).length=(Ty.az ts x).length:=by
 rw[<-Ty.pg,cA,List.length_map]
theorem VY (k c:Nat) (sig:aJ) (d:Dv) (ds:List Dv):j7 k c sig (d::ds)=aq (j7 (k+1) (c+(dC sig.hd d.2).length) sig.tl ds) k (mT c sig.hd d):=by
 cases sig with
 |nil=>
  have:(dC (aJ.hd []) d.2).length=0:=rfl
  rw[this]
  simp only[j7,Nat.add_zero,aJ.tl,aJ.hd]
 |cons s sig=>rfl
theorem Yt:∀(k c:Nat) (sig:aJ) (as:ax) (x:bA as.bz),po (CT k c sig as x)=j7 k c sig (dj as x)
 |k,c,sig,[],x=>by cases sig<;>rfl
 |k,c,sig,[a],x=>by
  simp only[CT,dj,yr]
  have h:=Ye c sig.hd a x
  rw[VY]
  have e:j7 (k+1) (c+(dC sig.hd (Ty.az a.2 x)).length) sig.tl []=yn:=by
   simp only[j7]
  rw[e]
  exact congrArg (fun v=>aq (po fun _=>SV.one SC.bg) k v) h
 |k,c,sig,a::b::as,x=>by
  have ih:=Yt (k+1) (c+(dC sig.hd (Ty.f0 a.2 x.1)).length) sig.tl (b::as) x.2
  simp only[CT,dj,yr,Ye,ih,VY (ds:=dj (b::as) x.2)]
  rw[Jw sig.hd (Ty.f0 a.2 x.1) (Ty.az a.2 x.1) (aaW _ _)]
def zU (sig:aJ) (as:ax) (x:bA as.bz):List (Mode×TD):=dr sig ((fG as x).map (·.2))
theorem PH (sig:aJ) (as:ax) (x:bA as.bz):(zU sig as x).map (fun p=>(p.1,p.2.1.er p.2.2))=dr sig ((dj as x).map (·.2)):=by
 unfold zU
 rw[<-qC,<-E5 (fun p:TD=>p.1.er p.2)]
 simp only[List.map_map]
 rfl
def P1:Mode×TD->Option SB
 |(m,⟨.list ts,xs⟩)=>some (.row false m ts xs)
 |_=>none
theorem akO (p:Mode×TD):(P1 p).map SB.er=kY (p.1,p.2.1.er p.2.2):=by
 obtain⟨m,t,x⟩:=p
 cases t<;>rfl
def Ab:List (Mode×TD)->Nat->Option SB
 |[],_=>none
 |p::_,0=>P1 p
 |_::l,n+1=>Ab l n
theorem YY:∀(l:List (Mode×TD)) (n:Nat),Ab l n=(l[n]?).bind P1
 |[],n=>by simp[Ab]
 |p::l,0=>by simp[Ab]
 |p::l,n+1=>by simp[Ab,YY l n]
def Yq (fl:List (Mode×TD)):Nat->Option SB:=fun n=>match Nat.ble aZ n with
 |true=>Ab fl (Nat.sub n aZ)
 |false=>none
def PK (sig:aJ) (as:ax) (x:bA as.bz):ab:={env:=CT 0 0 sig as x,h:=Yq (zU sig as x),used:=fun n=>Nat.ble aZ n}
theorem akx (sig:aJ) (as:ax) (x:bA as.bz):(PK sig as x).er=y8 sig (dj as x):=by
 simp only[PK,ab.er,y8,Yt]
 congr 1
 funext n
 simp only[cB,Yq]
 cases hb:Nat.ble aZ n with
 |true=>
  rw[if_pos (Nat.le_of_ble_eq_true hb),<-PH,YY]
  simp only[List.getElem?_map]
  cases (zU sig as x)[n - aZ]? with
  |none=>simp
  |some p=>simp[akO]
 |false=>
  rw[if_neg (fun h=>by rw[Nat.ble_eq_true_of_le h] at hb;cases hb)]
  rfl
def ab.iC (σ:ab):ab:={σ with h:=fun n=>match Nat.ble aZ n with|true=>none|false=>σ.h n}
theorem ab.aia (σ:ab):σ.iC.er=σ.er.iC:=by
 simp only[ab.iC,ab.er,St.iC]
 congr 1
 funext n
 simp only[cB]
 cases hb:Nat.ble aZ n with
 |true=>rw[if_pos (Nat.le_of_ble_eq_true hb)];rfl
 |false=>rw[if_neg (fun h=>by rw[Nat.ble_eq_true_of_le h] at hb;cases hb)]
section
variable {ρ:Type}
def PQ (σ:ab) (q:Nat) (p:Mode×TD) (k:TD->Option ρ):Option ρ:=
 match p with
 |(m,⟨.list ts,xs⟩)=>match σ.h (aZ+q) with
  |some (.row _ m' us ys)=>dQ (Mode.beq m' m) (dQ (Ty.pd us ts) (dQ (Qq m us) ((w7 (aa ys) (aa (α:=Ty.DL ts) xs)).ah fun _=>k ⟨.list us,ys⟩)))
  |_=>none
 |_=>none
theorem V8 (t:Ty) (x:t.D):(t.er x).ou= !t.dX:=by cases t<;>rfl
theorem V7:∀(ts:List Ty) (x:Ty.DL ts),(Ty.az ts x).map C.ou=ts.map fun t=> !t.dX
 |[],_=>rfl
 |[t],x=>congrArg (fun b=>[b]) (V8 t x)
 |t::u::ts,x=>by
  have:=V7 (u::ts) x.2
  simp only[List.map_cons] at this
  simp only[Ty.az,List.map_cons,V8,this]
theorem V9 (ts:List Ty) (xs:List (Ty.DL ts)):(List.map (Ty.az ts) xs).map (fun e=>e.map C.ou)=List.replicate xs.length (ts.map fun t=> !t.dX):=by
 induction xs with
 |nil=>rfl
 |cons x xs ih=>simp only[List.map_cons,V7,ih,List.length_cons,List.replicate_succ]
theorem akI {σ:ab} {q:Nat} {p:Mode×TD} {k:TD->Option ρ} {r:ρ} (h:PQ σ q p k=some r):∃o:TD,zI σ.er q (p.1,p.2.1.er p.2.2)=some (o.1.er o.2)/\k o=some r:=by
 unfold PQ at h
 split at h
 ·rename_i m ts xs
  split at h
  ·rename_i gr m' us ys hn
   have h1:=(bQ h).1;replace h:=(bQ h).2
   have h2:=(bQ h).1;replace h:=(bQ h).2
   have h3:=(bQ h).1;replace h:=(bQ h).2
   rw[dF] at h
   obtain⟨_,hs,h⟩:=h
   have hl:aa ys=aa (α:=Ty.DL ts) xs:=by
    unfold w7 at hs
    split at hs
    ·assumption
    ·cases hs
   have h1:=Mode.beq_eq h1
   have h2:=Ty.pf h2
   subst h1 h2
   refine⟨_,?_,h⟩
   have bC:σ.er.h (aZ+q)=some (.row gr m' us.length (List.map (Ty.az us) ys)):=by simp[ab.er,cB,hn,SB.er]
   have cT:List.length ys=List.length (α:=Ty.DL us) xs:=hl
   have hl1:(List.map (Ty.az us) ys).length=(List.map (α:=Ty.DL us) (Ty.az us) xs).length:=(List.length_map _).trans (cT.trans (List.length_map (as:=(xs:List (Ty.DL us))) (Ty.az us)).symm)
   have sC:(List.map (Ty.az us) ys).map (fun e=>e.map C.ou)=(List.map (α:=Ty.DL us) (Ty.az us) xs).map (fun e=>e.map C.ou):=
    (V9 us ys).trans ((congrArg (fun n=>List.replicate n _) cT).trans (V9 us xs).symm)
   simp only[zI,Ty.er,bC]
   rw[if_pos ⟨trivial,trivial,hl1,Tg _ _ _ h3,sC⟩]
  ·cases h
 ·cases h
def Hj (σ:ab):Nat->List (Mode×TD)->(List TD->Option ρ)->Option ρ
 |_,[],k=>k []
 |q,p::l,k=>PQ σ q p fun o=>Hj σ (q+1) l fun os=>k (o::os)
theorem YI {σ:ab}:∀{l:List (Mode×TD)} {q:Nat} {k:List TD->Option ρ} {r:ρ},Hj σ q l k=some r->∃os,uH σ.er q (l.map fun p=>(p.1,p.2.1.er p.2.2))=some (cA os)/\k os=some r
 |[],q,k,r,h=>⟨[],rfl,h⟩
 |p::l,q,k,r,h=>by
  simp only[Hj] at h
  obtain⟨o,h1,h2⟩:=akI h
  obtain⟨os,h3,h4⟩:=YI h2
  exact⟨o::os,by simp only[List.map_cons,uH,h1,h3,cA],h4⟩
end
def Hs (σ:ab) (ms:List cD) (fl:List (Mode×TD)) (kk:Nat) (aG:ax):Option (bA aG.bz):=
 xn σ.iC ms fun vs=>C1 σ.iC.h vs fun ds ns=>dQ (CA ns) (ci ds.length kk (Hj σ 0 fl fun os=>lI aG (ds++os.map fun o=>(.one,[o]))))
theorem YX {σ:ab} {ms:List cD} {fl:List (Mode×TD)} {kk:Nat} {aG:ax} {y:bA aG.bz} (h:Hs σ ms fl kk aG=some y):
  σ.er.zP ms (fl.map fun p=>(p.1,p.2.1.er p.2.2))=some (xl kk (dj aG y)):=by
 unfold Hs at h
 obtain⟨vs,h1,h2⟩:=Ho h
 obtain⟨ds,ns,h3,h4⟩:=PZ h2
 have h5:=(bQ h4).1;replace h4:=(bQ h4).2
 have h6:=(aK h4).1;replace h4:=(aK h4).2
 obtain⟨os,h7,h8⟩:=YI h4
 have yD:oI σ.iC.er.h (vs.map SV.er)=some (ds.map bG.er,ns):=h3
 have hr:σ.er.iC.rz ms=some (ds.map bG.er):=by
  rw[<-ab.aia]
  simp only[St.rz,h1,yD,if_pos (Nv h5)]
 simp only[St.zP,hr,h7,<-pU h8,z7,<-h6]
 congr 2
 ·rw[List.take_left]
 ·rw[List.drop_left]
  congr 1
  clear h7 h8
  induction os with
  |nil=>rfl
  |cons o os ih=>rw[List.map_cons,List.flatMap_cons,<-ih];rfl
def zR (N:Nat) (T:List ar) (sc:cg) (ms:List cD) (args:ax) (mu:aJ) (aG:ax) (x:bA args.bz):Option (bA aG.bz):=
 km N T sc (PK mu args x) (fun σ=>Hs σ ms (zU mu args x) (aG.length - mu.bm) aG) (fun _ _=>none) (fun σ=>Hs σ ms (zU mu args x) (aG.length - mu.bm) aG)
theorem ajZ {T:List ar} {sc:cg} {ms:List cD} {args:ax} {mu:aJ} {aG:ax} {x:bA args.bz} {y:bA aG.bz} (h:zR bh T sc ms args mu aG x=some y):
  GM (cb T) sc.er ms mu (dj args x)=some (xl (aG.length - mu.bm) (dj aG y)):=by
 obtain⟨o,h1,h2⟩:=rB sc h
 rw[akx] at h1
 unfold GM
 rw[h1]
 cases o with
 |fx τ=>
  obtain⟨ek,rfl,h2⟩:=h2
  simp only[<-PH]
  exact YX h2
 |ret τ=>
  obtain⟨ek,rfl,h2⟩:=h2
  simp only[<-PH]
  exact YX h2
 |ext i τ=>
  obtain⟨ek,rfl,h2⟩:=h2
  cases h2
section
variable {ρ:Type}
end
def QP (P:Program) (fn:ar):Prop:=(fn.mu.ed=0->dO P fn.id fn.M)/\(fn.mu.ed=1->rP P fn.id fn.mu fn.MM)/\(fn.mu.ed=2->QS P fn.id fn.MV)/\(fn.mu.ed=3->QT P fn.id fn.mu.tl fn.MW)/\(fn.mu.ed=4->QU P fn.id fn.mu.lS fn.MX)/\ca P fn.id=true
def bn (P:Program) (T:List ar):Prop:=∀fn∈T,QP P fn
theorem bn.nil {P:Program}:bn P []:=fun _ h=>by cases h
theorem bn.RY {P:Program} {fn:ar} {T:List ar} (h:QP P fn) (hT:bn P T):bn P (fn::T):=by
 intro g hg
 cases hg with
 |head=>exact h
 |tail _ hg=>exact hT g hg
theorem bn.cons {P:Program} {f:FuncId} {args aG:ax} {F:bA args.bz->Option (bA aG.bz)} {T:List ar} (h:dO P f (ar.M ⟨f,args,[],aG,F⟩)/\ca P f=true) (hT:bn P T):bn P (⟨f,args,[],aG,F⟩::T):=
 bn.RY ⟨fun _=>h.1,fun hm=>(by cases hm),fun hm=>(by cases hm),fun hm=>(by cases hm),fun hm=>(by cases hm),h.2⟩ hT
theorem bn.EE {P:Program} {f:FuncId} {args:ax} {s:List (Option Mode)} {mu:aJ} {aG:ax} {F:bA args.bz->Option (bA aG.bz)} {T:List ar} (h:rP P f (s::mu) (ar.MM ⟨f,args,s::mu,aG,F⟩)/\ca P f=true) (hT:bn P T)
  (hk:aJ.ed (s::mu)=1:=by rfl):bn P (⟨f,args,s::mu,aG,F⟩::T):=
 bn.RY ⟨fun hm=>absurd (hk.symm.trans hm) (by decide),fun _=>h.1,fun hm=>absurd (hk.symm.trans hm) (by decide),fun hm=>absurd (hk.symm.trans hm) (by decide),fun hm=>absurd (hk.symm.trans hm) (by decide),h.2⟩ hT
theorem Hx:∀{T:List ar} {f:FuncId} {M:List Dv->Option (List Dv)},aA.find (cb T).pure f=some M->∃fn∈T,fn.id=f/\M=fn.M/\fn.mu.ed=0
 |[],f,M,h=>by simp[cb,aA.find] at h
 |g::l,f,M,h=>by
  simp only[cb,List.filterMap_cons] at h
  by_cases hg:g.mu.ed=0
  ·simp only[hg,aA.find] at h
   split at h
   ·rename_i e
    injection h with h
    exact⟨g,by simp,e.symm,h.symm,hg⟩
   ·obtain⟨fn,h1,h2,h3⟩:=Hx (T:=l) h
    exact⟨fn,by simp[h1],h2,h3⟩
  ·split at h
   ·obtain⟨fn,h1,h2,h3⟩:=Hx (T:=l) h
    exact⟨fn,by simp[h1],h2,h3⟩
   ·rename_i z hz
    split at hz
    ·rename_i h0;exact absurd h0 hg
    ·cases hz
theorem Qh:∀{T:List ar} {f:FuncId} {sig:aJ} {M:List Dv->Option (List Dv×List C)},aA.kF (cb T).rn f=some (sig,M)->∃fn∈T,fn.id=f/\sig=fn.mu/\M=fn.MM/\fn.mu.ed=1
 |[],f,sig,M,h=>by simp[cb,aA.kF] at h
 |g::l,f,sig,M,h=>by
  simp only[cb,List.filterMap_cons] at h
  by_cases hg:g.mu.ed=1
  ·simp only[hg,aA.kF] at h
   split at h
   ·rename_i e
    injection h with h
    injection h with ha hb
    exact⟨g,by simp,e.symm,ha.symm,hb.symm,hg⟩
   ·obtain⟨fn,h1,h2,h3⟩:=Qh (T:=l) h
    exact⟨fn,by simp[h1],h2,h3⟩
  ·split at h
   ·obtain⟨fn,h1,h2,h3⟩:=Qh (T:=l) h
    exact⟨fn,by simp[h1],h2,h3⟩
   ·rename_i z hz
    split at hz
    ·rename_i h0;exact absurd h0 hg
    ·cases hz
theorem Qi:∀{T:List ar} {f:FuncId} {M:List Dv->Option (List Dv×List C)},aA.jb (cb T).vs f=some M->∃fn∈T,fn.id=f/\M=fn.MV/\fn.mu.ed=2
 |[],f,M,h=>by simp[cb,aA.jb] at h
 |g::l,f,M,h=>by
  simp only[cb,List.filterMap_cons] at h
  by_cases hg:g.mu.ed=2
  ·simp only[hg,aA.jb] at h
   split at h
   ·rename_i e
    injection h with h
    exact⟨g,by simp,e.symm,h.symm,hg⟩
   ·obtain⟨fn,h1,h2,h3⟩:=Qi (T:=l) h
    exact⟨fn,by simp[h1],h2,h3⟩
  ·split at h
   ·obtain⟨fn,h1,h2,h3⟩:=Qi (T:=l) h
    exact⟨fn,by simp[h1],h2,h3⟩
   ·rename_i z hz
    split at hz
    ·rename_i h0;exact absurd h0 hg
    ·cases hz
theorem Qj:∀{T:List ar} {f:FuncId} {sig:aJ} {M:List Dv->Option (Nat×Nat)},aA.pt (cb T).ws f=some (sig,M)->∃fn∈T,fn.id=f/\sig=fn.mu.tl/\M=fn.MW/\fn.mu.ed=3
 |[],f,sig,M,h=>by simp[cb,aA.pt] at h
 |g::l,f,sig,M,h=>by
  simp only[cb,List.filterMap_cons] at h
  by_cases hg:g.mu.ed=3
  ·simp only[hg,aA.pt] at h
   split at h
   ·rename_i e
    injection h with h
    injection h with ha hb
    exact⟨g,by simp,e.symm,ha.symm,hb.symm,hg⟩
   ·obtain⟨fn,h1,h2,h3⟩:=Qj (T:=l) h
    exact⟨fn,by simp[h1],h2,h3⟩
  ·split at h
   ·obtain⟨fn,h1,h2,h3⟩:=Qj (T:=l) h
    exact⟨fn,by simp[h1],h2,h3⟩
   ·rename_i z hz
    split at hz
    ·rename_i h0;exact absurd h0 hg
    ·cases hz
theorem Qk:∀{T:List ar} {f:FuncId} {sig:Nat} {M:List Dv->Option (List Dv×List C)},aA.pu (cb T).xs f=some (sig,M)->∃fn∈T,fn.id=f/\sig=fn.mu.lS/\M=fn.MX/\fn.mu.ed=4
 |[],f,sig,M,h=>by simp[cb,aA.pu] at h
 |g::l,f,sig,M,h=>by
  simp only[cb,List.filterMap_cons] at h
  by_cases hg:g.mu.ed=4
  ·simp only[hg,aA.pu] at h
   split at h
   ·rename_i e
    injection h with h
    injection h with ha hb
    exact⟨g,by simp,e.symm,ha.symm,hb.symm,hg⟩
   ·obtain⟨fn,h1,h2,h3⟩:=Qk (T:=l) h
    exact⟨fn,by simp[h1],h2,h3⟩
  ·split at h
   ·obtain⟨fn,h1,h2,h3⟩:=Qk (T:=l) h
    exact⟨fn,by simp[h1],h2,h3⟩
   ·rename_i z hz
    split at hz
    ·rename_i h0;exact absurd h0 hg
    ·cases hz
theorem bn.tok {P:Program} {T:List ar} (hT:bn P T):mR P (cb T):=by
 refine⟨fun g M hM=>?_,fun g sig M hM=>?_,fun g M hM=>?_,⟨fun g sig M hM=>?_,fun g sig M hM=>?_⟩,fun g M hM=>?_⟩
 ·obtain⟨pw,h1,h2,h3,h4⟩:=Hx hM
  subst h2 h3
  exact(hT pw h1).1 h4
 ·obtain⟨pw,h1,h2,h3,h4,h5⟩:=Qh hM
  subst h2 h3 h4
  exact(hT pw h1).2.1 h5
 ·obtain⟨pw,h1,h2,h3,h4⟩:=Qi hM
  subst h2 h3
  exact(hT pw h1).2.2.1 h4
 ·obtain⟨pw,h1,h2,h3,h4,h5⟩:=Qj hM
  subst h2 h3 h4
  exact(hT pw h1).2.2.2.1 h5
 ·obtain⟨pw,h1,h2,h3,h4,h5⟩:=Qk hM
  subst h2 h3 h4
  exact(hT pw h1).2.2.2.2.1 h5
 ·obtain⟨pw,h1,h2,h3,h4⟩:=Hx hM
  subst h2
  exact(hT pw h1).2.2.2.2.2
def dz (P:Program) (f:FuncId) (mc:ld) (ms:List cD) (n:Nat):Bool:=
 match P.funcs[f]? with
 |some fn=>match fn.body with
  |some c=>iv P fn.ntmps c mc&&lW P fn.results.toList ms&&decide (n<=fn.ntmps)&&(fn.name != "runtime.NumGoroutine")
  |none=>false
 |none=>false
theorem RQ {P:Program} {f:FuncId} {mc:ld} {ms:List cD} {n:Nat} (h:dz P f mc ms n=true):ca P f=true:=by
 unfold dz at h
 unfold ca
 split at h
 ·rename_i fn hf
  split at h
  ·rename_i c hb
   simp only[Bool.and_eq_true] at h
   simp[hf,hb,h.2]
  ·cases h
 ·cases h
theorem eR {P:Program} {T:List ar} (hT:bn P T) (hm:P.follows .mixedOrders=true) {f:FuncId} {sc:cg} {ms:List cD} {args aG:ax} (hc:dz P f sc.er ms args.length=true)
  (F:bA args.bz->Option (bA aG.bz)) (hF:∀x y,F x=some y->eD bh T sc ms args aG x=some y):dO P f (ar.M ⟨f,args,[],aG,F⟩)/\ca P f=true:=by
 refine⟨?_,RQ hc⟩
 unfold dz at hc
 split at hc
 ·rename_i fn hf
  split at hc
  ·rename_i c hb
   simp only[Bool.and_eq_true,decide_eq_true_eq] at hc
   refine ajf (T:=cb T) hT.tok hm hf hb hc.1.1.1 hc.1.1.2 fun ds rs hM=>?_
   obtain⟨x,y,h1,h2,h3⟩:=ar.QL hM
   subst h1 h3
   exact⟨by rw[Jo];exact hc.1.2,aj0 (hF x y h2)⟩
  ·cases hc
 ·cases hc
theorem Gl {P:Program} {T:List ar} (hT:bn P T) (hm:P.follows .mixedOrders=true) {f:FuncId} {sc:cg} {ms:List cD} {args:ax} {mu:aJ} {aG:ax} (hc:dz P f sc.er ms args.length=true)
  (F:bA args.bz->Option (bA aG.bz)) (hF:∀x y,F x=some y->zR bh T sc ms args mu aG x=some y):rP P f mu (ar.MM ⟨f,args,mu,aG,F⟩)/\ca P f=true:=by
 refine⟨?_,RQ hc⟩
 unfold dz at hc
 split at hc
 ·rename_i fn hf
  split at hc
  ·rename_i c hb
   simp only[Bool.and_eq_true,decide_eq_true_eq] at hc
   refine ahr (T:=cb T) hT.tok hm hf hb hc.1.1.1 hc.1.1.2 fun ds rs cP hM=>?_
   unfold ar.MM at hM
   rw[Option.map_eq_some_iff] at hM
   obtain⟨NZ,h0,h00⟩:=hM
   obtain⟨x,y,h1,h2,h3⟩:=ar.QL h0
   subst h1 h3
   refine⟨by rw[Jo];exact hc.1.2,?_⟩
   rw[<-h00]
   exact ajZ (hF x y h2)
  ·cases hc
 ·cases hc
end Go.Am
