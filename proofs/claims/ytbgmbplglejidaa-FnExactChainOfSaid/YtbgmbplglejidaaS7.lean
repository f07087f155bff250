/- S7: typed functions as a whole. No condition. -/
import Derived.Test.YtbgmbplglejidaaS6
import Derived.Test.YtbgmbplglejidaaAmY
set_option linter.unusedVariables false
namespace Go.Am
def E4 (k:K) (ts:List Ty) (x:Ty.DL ts):SV:=
 match k with
 |.one=>match Ty.cells ts x with
  |[c]=>.one c
  |_=>.one .bn
 |.agg=>.agg (Ty.cells ts x)
 |.ptr=>.one (.cj ts x 0)
theorem acr (k:K) (ts:List Ty) (x:Ty.DL ts):(E4 k ts x).er=xU (k,Ty.aJ ts x):=by
 cases k with
 |one=>
  match ts,x with
  |[],x=>rfl
  |[t],x=>rfl
  |t::u::[],x=>rfl
  |t::u::v::ts,x=>rfl
 |agg=>simp only[E4,SV.er,xU,Ty.lx]
 |ptr=>rfl
def E9:Nat->(as:ai)->aQ as.aP->(Nat->SV)
 |_,[],_=>fun _=>.one .bn
 |k,[a],x=>ax (fun _=>.one .bn) k (E4 a.1 a.2 x)
 |k,a::b::as,x=>ax (E9 (k+1) (b::as) x.2) k (E4 a.1 a.2 x.1)
theorem acN:∀(k:Nat) (as:ai) (x:aQ as.aP),pR (E9 k as x)=s8 k (c6 as x)
 |k,[],x=>rfl
 |k,[a],x=>by
  have e:(E4 a.1 a.2 x).er=xU (a.1,Ty.aJ a.2 x):=acr a.1 a.2 x
  simp only[E9,c6,s8,vP]
  rw[e]
  rfl
 |k,a::b::as,x=>by
  have ih:=acN (k+1) (b::as) x.2
  simp only[E9,c6,vP,acr,ih]
  rw[s8]
def VC (as:ai) (x:aQ as.aP):af:={env:=E9 0 as x,h:=fun _=>none,used:=fun n=>Nat.ble aM n}
theorem apK (as:ai) (x:aQ as.aP):(VC as x).er=Ee (c6 as x):=by
 simp only[VC,af.er,Ee,acN]
 rfl
section
variable {ρ:Type}
def xo (σ:af):List bh->(List SV->Option ρ)->Option ρ
 |[],k=>k []
 |.tmp t::ms,k=>xo σ ms fun vs=>k (σ.env t::vs)
 |.cell t sz ag::ms,k=>match σ.env t with
  |.one p=>Fe σ.h p sz fun cs=>xo σ ms fun vs=>k (zw ag cs::vs)
  |_=>none
theorem Fm {σ:af}:∀{ms:List bh} {k:List SV->Option ρ} {r:ρ},xo σ ms k=some r->∃vs,σ.er.rT ms=some (vs.map SV.er)/\k vs=some r
 |[],k,r,h=>⟨[],rfl,h⟩
 |.tmp t::ms,k,r,h=>by
  simp only[xo] at h
  obtain⟨vs,h1,h2⟩:=Fm h
  exact⟨_,by simp only[St.rT,h1];rfl,h2⟩
 |.cell t sz ag::ms,k,r,h=>by
  simp only[xo] at h
  split at h
  ·rename_i p hp
   obtain⟨cs,h1,h2⟩:=VF h
   obtain⟨vs,h3,h4⟩:=Fm h2
   have be:σ.er.env t=.one p.er:=by show(σ.env t).er=_;rw[hp];rfl
   have jM:loadAt σ.er.h p.er sz=some (cs.map SC.er):=h1
   exact⟨_,by simp only[St.rT,be,jM,h3,List.map_cons,Cu],h4⟩
  ·cases h
def VY (h:Nat->Option SB) (c:SC) (k:(t:Ty)->t.D->List Nat->Option ρ):Option ρ:=
 match c with
 |.v t x=>eP t.eF (k t x [])
 |.nil ts=>match ts with
  |[]=>none
  |t::us=>k (.list (t::us)) ([]:List (Ty.DL (t::us))) []
 |.sl n sz lo len=>match h n with
  |some (.row true m ts xs)=>cG ts.length sz (eP m.own (cG lo 0 ((c9 xs len).U fun ys=>k (.list ts) ys [n])))
  |_=>none
 |_=>none
theorem apY {h:Nat->Option SB} {c:SC} {k:(t:Ty)->t.D->List Nat->Option ρ} {r:ρ} (hx:VY h c k=some r):
  ∃(t:Ty) (x:t.D) (ns:List Nat),kR (cR h) c.er=some (t.er x,ns)/\k t x ns=some r:=by
 unfold VY at hx
 split at hx
 ·rename_i t x
  have h1:=(bZ hx).1;replace hx:=(bZ hx).2
  exact⟨t,x,[],by simp only[SC.er,kR,Ty.xg,h1,if_true],hx⟩
 ·split at hx
  ·cases hx
  ·rename_i t us
   exact⟨.list (t::us),[],[],by simp[SC.er,kR,Ty.er],hx⟩
 ·rename_i n sz lo len
  split at hx
  ·rename_i m ts xs hn
   have br:=(bc hx).1;replace hx:=(bc hx).2;subst br
   have hm:=(bZ hx).1;replace hx:=(bZ hx).2
   have br:=(bc hx).1;replace hx:=(bc hx).2;subst br
   rw[eH] at hx
   obtain⟨ys,hw,hx⟩:=hx
   obtain⟨w1,w2⟩:=adJ hw
   refine⟨.list ts,ys,[n],?_,hx⟩
   have bI:m≠ .aO:=by rintro rfl;cases hm
   simp only[SC.er,kR,cR,hn,Option.map_some,SB.er,List.length_map,w1,w2,ne_eq,bI,not_false_eq_true,and_self,if_true,Ty.er]
  ·cases hx
 ·cases hx
def Ku (h:Nat->Option SB):List SC->(List TD->List Nat->Option ρ)->Option ρ
 |[],k=>k [] []
 |c::cs,k=>VY h c fun t x ns=>Ku h cs fun l jX=>k (⟨t,x⟩::l) (ns++jX)
theorem adm {h:Nat->Option SB}:∀{cs:List SC} {k:List TD->List Nat->Option ρ} {r:ρ},Ku h cs k=some r->
  ∃l ns,tr (cR h) (cs.map SC.er)=some (cA l,ns)/\k l ns=some r
 |[],k,r,hx=>⟨[],[],rfl,hx⟩
 |c::cs,k,r,hx=>by
  simp only[Ku] at hx
  obtain⟨t,x,ns,h1,h2⟩:=apY hx
  obtain⟨l,jX,h3,h4⟩:=adm h2
  exact⟨⟨t,x⟩::l,ns++jX,by simp[tr,h1,h3,cA],h4⟩
def kOf:Bool->K
 |true=>.agg
 |false=>.one
def Fo (h:Nat->Option SB):List SV->(List bM->List Nat->Option ρ)->Option ρ
 |[],k=>k [] []
 |v::vs,k=>match v.cells? with
  |some (ag,cs)=>Ku h cs fun l ns=>Fo h vs fun ds jX=>k ((kOf ag,l)::ds) (ns++jX)
  |none=>none
theorem VZ {h:Nat->Option SB}:∀{vs:List SV} {k:List bM->List Nat->Option ρ} {r:ρ},Fo h vs k=some r->
  ∃ds ns,qJ (cR h) (vs.map SV.er)=some (ds.map bM.er,ns)/\k ds ns=some r
 |[],k,r,hx=>⟨[],[],rfl,hx⟩
 |v::vs,k,r,hx=>by
  simp only[Fo] at hx
  split at hx
  ·rename_i ag cs hc
   obtain⟨l,ns,h1,h2⟩:=adm hx
   obtain⟨ds,jX,h3,h4⟩:=VZ h2
   refine⟨_,_,?_,h4⟩
   simp only[List.map_cons,qJ,SV.lx hc,h1,h3]
   cases ag<;>rfl
  ·cases hx
end
def EG:List Nat->Bool
 |[]=>true
 |n::l=> !(l.contains n)&&EG l
theorem R7:∀{l:List Nat},EG l=true->l.Nodup
 |[],_=>List.nodup_nil
 |n::l,h=>by
  simp only[EG,Bool.and_eq_true,Bool.not_eq_true'] at h
  rw[List.nodup_cons]
  refine⟨fun hm=>?_,R7 h.2⟩
  have:l.contains n=true:=by simpa using hm
  rw[this] at h
  cases h.1
def Kt (σ:af) (ms:List bh) (aA:ai):Option (aQ aA.aP):=
 xo σ ms fun vs=>Fo σ.h vs fun ds ns=>eP (EG ns) (n7 aA ds)
theorem adl {σ:af} {ms:List bh} {aA:ai} {y:aQ aA.aP} (h:Kt σ ms aA=some y):σ.er.tq ms=some (c6 aA y):=by
 unfold Kt at h
 obtain⟨vs,h1,h2⟩:=Fm h
 obtain⟨ds,ns,h3,h4⟩:=VZ h2
 have h5:=(bZ h4).1;replace h6:=(bZ h4).2
 have vV:qJ σ.er.h (vs.map SV.er)=some (ds.map bM.er,ns):=h3
 simp only[St.tq,h1,vV,if_pos (R7 h5),tj h6]
def cm (N:Nat) (T:List au) (sc:bf) (ms:List bh) (args aA:ai) (x:aQ args.aP):Option (aQ aA.aP):=
 kT N T sc (VC args x) (fun σ=>Kt σ ms aA) (fun _ _=>none) (fun σ=>Kt σ ms aA)
theorem apc {T:List au} {sc:bf} {ms:List bh} {args aA:ai} {x:aQ args.aP} {y:aQ aA.aP} (h:cm az T sc ms args aA x=some y):
  J3 (cH T) sc.er ms (c6 args x)=some (c6 aA y):=by
 obtain⟨o,h1,h2⟩:=rV sc h
 rw[apK] at h1
 unfold J3
 rw[h1]
 cases o with
 |fy τ=>
  obtain⟨eA,rfl,h2⟩:=h2
  exact adl h2
 |ret τ=>
  obtain⟨eA,rfl,h2⟩:=h2
  exact adl h2
 |ext i τ=>
  obtain⟨eA,rfl,h2⟩:=h2
  cases h2
theorem Dd:∀(as:ai) (x:aQ as.aP),(c6 as x).length=as.length
 |[],_=>rfl
 |[a],_=>rfl
 |a::b::as,x=>by simp only[c6,List.length_cons,Dd (b::as) x.2]
def pB:Nat->List (Option Mode)->List TD->List SC
 |c,some _::fs,⟨.list ts,xs⟩::l=>.sl (aM+c) ts.length 0 (J (α:=Ty.DL ts) xs)::pB (c+1) fs l
 |c,some _::fs,⟨.int _,_⟩::l=>.bn::pB (c+1) fs l
 |c,some _::fs,⟨.bool,_⟩::l=>.bn::pB (c+1) fs l
 |c,none::fs,x::l=>.v x.1 x.2::pB c fs l
 |c,[],l=>l.map fun x=>.v x.1 x.2
 |c,_::_,[]=>[]
theorem EY:∀(c:Nat) (fs:List (Option Mode)) (l:List TD),(pB c fs l).map SC.er=gh c fs (cA l)
 |c,some m::fs,⟨.list ts,xs⟩::l=>by
  simp only[pB,cA,List.map_cons,Ty.er,gh,SC.er]
  have:=EY (c+1) fs l
  simp only[cA] at this
  rw[this]
  exact congrArg (fun q=>ah.sl (aM+c) ts.length 0 q::_) (List.length_map (Ty.aJ ts)).symm
 |c,some m::fs,⟨.int k,x⟩::l=>by
  simp only[pB,cA,List.map_cons,Ty.er,gh,SC.er]
  exact congrArg _ (EY (c+1) fs l)
 |c,some m::fs,⟨.bool,x⟩::l=>by
  simp only[pB,cA,List.map_cons,Ty.er,gh,SC.er]
  exact congrArg _ (EY (c+1) fs l)
 |c,none::fs,⟨t,x⟩::l=>by
  simp only[pB,cA,List.map_cons,gh,SC.er]
  exact congrArg _ (EY c fs l)
 |c,[],l=>by
  cases l<;>simp[pB,cA,gh,SC.er]
 |c,some m::fs,[]=>rfl
 |c,none::fs,[]=>rfl
def EZ (c:Nat) (s:List (Option Mode)) (d:K×List Ty) (x:Ty.DL d.2):SV:=
 match d.1 with
 |.one=>match pB c s (Ty.gW d.2 x) with
  |[y]=>.one y
  |_=>.one .bn
 |.agg=>.agg (pB c s (Ty.gW d.2 x))
 |.ptr=>.one (.cj d.2 x 0)
theorem acq (c:Nat) (s:List (Option Mode)) (d:K×List Ty) (x:Ty.DL d.2):(EZ c s d x).er=su c s (d.1,Ty.aJ d.2 x):=by
 obtain⟨k,ts⟩:=d
 have h:=EY c s (Ty.gW ts x)
 rw[Ty.pN] at h
 cases k with
 |one=>
  simp only[EZ,su,<-h]
  generalize pB c s (Ty.gW ts x)=l
  match l with
  |[]=>rfl
  |[y]=>rfl
  |_::_::_=>rfl
 |agg=>simp only[EZ,su,<-h,SV.er]
 |ptr=>rfl
def Fa:Nat->Nat->aN->(as:ai)->aQ as.aP->(Nat->SV)
 |_,_,_,[],_=>fun _=>.one .bn
 |k,c,sig,[a],x=>ax (fun _=>.one .bn) k (EZ c sig.hd a x)
 |k,c,sig,a::b::as,x=>ax (Fa (k+1) (c+(eu sig.hd (Ty.gW a.2 x.1)).length) sig.tl (b::as) x.2) k (EZ c sig.hd a x.1)
theorem M9 {α β:Type}:∀(s:List (Option Mode)) (l:List α) (l':List β),l.length=l'.length->(eu s l).length=(eu s l').length
 |some m::fs,x::xs,y::ys,h=>by simp only[eu,List.length_cons,M9 fs xs ys (by simpa using h)]
 |none::fs,x::xs,y::ys,h=>by simp only[eu];exact M9 fs xs ys (by simpa using h)
 |[],l,l',h=>by cases l<;>cases l'<;>rfl
 |some m::fs,[],[],h=>rfl
 |none::fs,[],[],h=>rfl
 |_::_,[],_::_,h=>by simp at h
 |_::_,_::_,[],h=>by simp at h
theorem afc (ts:List Ty) (x:Ty.DL ts):(Ty.gW ts x).length=(Ty.aJ ts x).length:=by
 rw[<-Ty.pN,cA,List.length_map]
theorem aam (k c:Nat) (sig:aN) (d:Dv) (ds:List Dv):lO k c sig (d::ds)=ax (lO (k+1) (c+(eu sig.hd d.2).length) sig.tl ds) k (su c sig.hd d):=by
 cases sig with
 |nil=>
  have:(eu (aN.hd []) d.2).length=0:=rfl
  rw[this]
  simp only[lO,Nat.add_zero,aN.tl,aN.hd]
 |cons s sig=>rfl
theorem acL:∀(k c:Nat) (sig:aN) (as:ai) (x:aQ as.aP),pR (Fa k c sig as x)=lO k c sig (c6 as x)
 |k,c,sig,[],x=>by cases sig<;>rfl
 |k,c,sig,[a],x=>by
  simp only[Fa,c6,vP]
  have h:=acq c sig.hd a x
  rw[aam]
  have e:lO (k+1) (c+(eu sig.hd (Ty.aJ a.2 x)).length) sig.tl []=vO:=by
   simp only[lO]
  rw[e]
  exact congrArg (fun v=>ax (pR fun _=>SV.one SC.bn) k v) h
 |k,c,sig,a::b::as,x=>by
  have ih:=acL (k+1) (c+(eu sig.hd (Ty.gW a.2 x.1)).length) sig.tl (b::as) x.2
  simp only[Fa,c6,vP,acq,ih,aam (ds:=c6 (b::as) x.2)]
  rw[M9 sig.hd (Ty.gW a.2 x.1) (Ty.aJ a.2 x.1) (afc _ _)]
def Cb (sig:aN) (as:ai) (x:aQ as.aP):List (Mode×TD):=eB sig ((kC as x).map (·.2))
theorem Vz (sig:aN) (as:ai) (x:aQ as.aP):(Cb sig as x).map (fun p=>(p.1,p.2.1.er p.2.2))=eB sig ((c6 as x).map (·.2)):=by
 unfold Cb
 rw[<-vN,<-Iw (fun p:TD=>p.1.er p.2)]
 simp only[List.map_map]
 rfl
def V2:Mode×TD->Option SB
 |(m,⟨.list ts,xs⟩)=>some (.row false m ts xs)
 |_=>none
theorem ap0 (p:Mode×TD):(V2 p).map SB.er=mT (p.1,p.2.1.er p.2.2):=by
 obtain⟨m,t,x⟩:=p
 cases t<;>rfl
def Cr:List (Mode×TD)->Nat->Option SB
 |[],_=>none
 |p::_,0=>V2 p
 |_::l,n+1=>Cr l n
theorem adp:∀(l:List (Mode×TD)) (n:Nat),Cr l n=(l[n]?).bind V2
 |[],n=>by simp[Cr]
 |p::l,0=>by simp[Cr]
 |p::l,n+1=>by simp[Cr,adp l n]
def acJ (fl:List (Mode×TD)):Nat->Option SB:=fun n=>match Nat.ble aM n with
 |true=>Cr fl (Nat.sub n aM)
 |false=>none
def VD (sig:aN) (as:ai) (x:aQ as.aP):af:={env:=Fa 0 0 sig as x,h:=acJ (Cb sig as x),used:=fun n=>Nat.ble aM n}
theorem apI (sig:aN) (as:ai) (x:aQ as.aP):(VD sig as x).er=Bl sig (c6 as x):=by
 simp only[VD,af.er,Bl,acL]
 congr 1
 funext n
 simp only[cR,acJ]
 cases hb:Nat.ble aM n with
 |true=>
  rw[if_pos (Nat.le_of_ble_eq_true hb),<-Vz,adp]
  simp only[List.getElem?_map]
  cases (Cb sig as x)[n - aM]? with
  |none=>simp
  |some p=>simp[ap0]
 |false=>
  rw[if_neg (fun h=>by rw[Nat.ble_eq_true_of_le h] at hb;cases hb)]
  rfl
def af.jE (σ:af):af:={σ with h:=fun n=>match Nat.ble aM n with|true=>none|false=>σ.h n}
theorem af.anl (σ:af):σ.jE.er=σ.er.jE:=by
 simp only[af.jE,af.er,St.jE]
 congr 1
 funext n
 simp only[cR]
 cases hb:Nat.ble aM n with
 |true=>rw[if_pos (Nat.le_of_ble_eq_true hb)];rfl
 |false=>rw[if_neg (fun h=>by rw[Nat.ble_eq_true_of_le h] at hb;cases hb)]
section
variable {ρ:Type}
def VP (σ:af) (q:Nat) (p:Mode×TD) (k:TD->Option ρ):Option ρ:=
 match p with
 |(m,⟨.list ts,xs⟩)=>match σ.h (aM+q) with
  |some (.row _ m' us ys)=>eP (Mode.beq m' m) (eP (Ty.q9 us ts) (eP (Wu m us) ((jF (J ys) (J (α:=Ty.DL ts) xs)).U fun _=>k ⟨.list us,ys⟩)))
  |_=>none
 |_=>none
theorem aax (t:Ty) (x:t.D):(t.er x).qt= !t.eF:=by cases t<;>rfl
theorem aaw:∀(ts:List Ty) (x:Ty.DL ts),(Ty.aJ ts x).map C.qt=ts.map fun t=> !t.eF
 |[],_=>rfl
 |[t],x=>congrArg (fun b=>[b]) (aax t x)
 |t::u::ts,x=>by
  have:=aaw (u::ts) x.2
  simp only[List.map_cons] at this
  simp only[Ty.aJ,List.map_cons,aax,this]
theorem aay (ts:List Ty) (xs:List (Ty.DL ts)):(List.map (Ty.aJ ts) xs).map (fun e=>e.map C.qt)=List.replicate xs.length (ts.map fun t=> !t.eF):=by
 induction xs with
 |nil=>rfl
 |cons x xs ih=>simp only[List.map_cons,aaw,ih,List.length_cons,List.replicate_succ]
theorem apT {σ:af} {q:Nat} {p:Mode×TD} {k:TD->Option ρ} {r:ρ} (h:VP σ q p k=some r):∃o:TD,BO σ.er q (p.1,p.2.1.er p.2.2)=some (o.1.er o.2)/\k o=some r:=by
 unfold VP at h
 split at h
 ·rename_i m ts xs
  split at h
  ·rename_i gr m' us ys hn
   have h1:=(bZ h).1;replace h:=(bZ h).2
   have h2:=(bZ h).1;replace h:=(bZ h).2
   have h3:=(bZ h).1;replace h:=(bZ h).2
   rw[eH] at h
   obtain⟨_,hs,h⟩:=h
   have hl:J ys=J (α:=Ty.DL ts) xs:=by
    unfold jF at hs
    split at hs
    ·assumption
    ·cases hs
   have h1:=Mode.beq_eq h1
   have h2:=Ty.sx h2
   subst h1 h2
   refine⟨_,?_,h⟩
   have bk:σ.er.h (aM+q)=some (.row gr m' us.length (List.map (Ty.aJ us) ys)):=by simp[af.er,cR,hn,SB.er]
   have dR:List.length ys=List.length (α:=Ty.DL us) xs:=hl
   have hl1:(List.map (Ty.aJ us) ys).length=(List.map (α:=Ty.DL us) (Ty.aJ us) xs).length:=(List.length_map _).trans (dR.trans (List.length_map (as:=(xs:List (Ty.DL us))) (Ty.aJ us)).symm)
   have yx:(List.map (Ty.aJ us) ys).map (fun e=>e.map C.qt)=(List.map (α:=Ty.DL us) (Ty.aJ us) xs).map (fun e=>e.map C.qt):=
    (aay us ys).trans ((congrArg (fun n=>List.replicate n _) dR).trans (aay us xs).symm)
   simp only[BO,Ty.er,bk]
   rw[if_pos ⟨trivial,trivial,hl1,Y0 _ _ _ h3,yx⟩]
  ·cases h
 ·cases h
def Kp (σ:af):Nat->List (Mode×TD)->(List TD->Option ρ)->Option ρ
 |_,[],k=>k []
 |q,p::l,k=>VP σ q p fun o=>Kp σ (q+1) l fun os=>k (o::os)
theorem ac5 {σ:af}:∀{l:List (Mode×TD)} {q:Nat} {k:List TD->Option ρ} {r:ρ},Kp σ q l k=some r->∃os,wY σ.er q (l.map fun p=>(p.1,p.2.1.er p.2.2))=some (cA os)/\k os=some r
 |[],q,k,r,h=>⟨[],rfl,h⟩
 |p::l,q,k,r,h=>by
  simp only[Kp] at h
  obtain⟨o,h1,h2⟩:=apT h
  obtain⟨os,h3,h4⟩:=ac5 h2
  exact⟨o::os,by simp only[List.map_cons,wY,h1,h3,cA],h4⟩
end
def Kv (σ:af) (ms:List bh) (fl:List (Mode×TD)) (kk:Nat) (aA:ai):Option (aQ aA.aP):=
 xo σ.jE ms fun vs=>Fo σ.jE.h vs fun ds ns=>eP (EG ns) (cG ds.length kk (Kp σ 0 fl fun os=>n7 aA (ds++os.map fun o=>(.one,[o]))))
theorem adn {σ:af} {ms:List bh} {fl:List (Mode×TD)} {kk:Nat} {aA:ai} {y:aQ aA.aP} (h:Kv σ ms fl kk aA=some y):
  σ.er.B4 ms (fl.map fun p=>(p.1,p.2.1.er p.2.2))=some (xn kk (c6 aA y)):=by
 unfold Kv at h
 obtain⟨vs,h1,h2⟩:=Fm h
 obtain⟨ds,ns,h3,h4⟩:=VZ h2
 have h5:=(bZ h4).1;replace h4:=(bZ h4).2
 have h6:=(bc h4).1;replace h4:=(bc h4).2
 obtain⟨os,h7,h8⟩:=ac5 h4
 have vV:qJ σ.jE.er.h (vs.map SV.er)=some (ds.map bM.er,ns):=h3
 have hr:σ.er.jE.tq ms=some (ds.map bM.er):=by
  rw[<-af.anl]
  simp only[St.tq,h1,vV,if_pos (R7 h5)]
 simp only[St.B4,hr,h7,<-tj h8,Fj,<-h6]
 congr 2
 ·rw[List.take_left]
 ·rw[List.drop_left]
  congr 1
  clear h7 h8
  induction os with
  |nil=>rfl
  |cons o os ih=>rw[List.map_cons,List.flatMap_cons,<-ih];rfl
def nz (N:Nat) (T:List au) (sc:bf) (ms:List bh) (args:ai) (mu:aN) (aA:ai) (x:aQ args.aP):Option (aQ aA.aP):=
 kT N T sc (VD mu args x) (fun σ=>Kv σ ms (Cb mu args x) (aA.length - mu.bA) aA) (fun _ _=>none) (fun σ=>Kv σ ms (Cb mu args x) (aA.length - mu.bA) aA)
theorem apb {T:List au} {sc:bf} {ms:List bh} {args:ai} {mu:aN} {aA:ai} {x:aQ args.aP} {y:aQ aA.aP} (h:nz az T sc ms args mu aA x=some y):
  J4 (cH T) sc.er ms mu (c6 args x)=some (xn (aA.length - mu.bA) (c6 aA y)):=by
 obtain⟨o,h1,h2⟩:=rV sc h
 rw[apI] at h1
 unfold J4
 rw[h1]
 cases o with
 |fy τ=>
  obtain⟨eA,rfl,h2⟩:=h2
  simp only[<-Vz]
  exact adn h2
 |ret τ=>
  obtain⟨eA,rfl,h2⟩:=h2
  simp only[<-Vz]
  exact adn h2
 |ext i τ=>
  obtain⟨eA,rfl,h2⟩:=h2
  cases h2
def EX (k:K) (ts:List Ty) (x:Ty.DL ts):SV:=
 match k with
 |.one=>match Ty.cells ts x with
  |[c]=>.one c
  |_=>.one .bn
 |.agg=>.agg (Ty.cells ts x)
 |.ptr=>.one (.ptr aM 0 0 0)
theorem acp (k:K) (ts:List Ty) (x:Ty.DL ts):(EX k ts x).er=CT (k,Ty.aJ ts x):=by
 cases k with
 |one=>
  match ts,x with
  |[],x=>rfl
  |[t],x=>rfl
  |t::u::[],x=>rfl
  |t::u::v::ts,x=>rfl
 |agg=>simp only[EX,SV.er,CT,Ty.lx]
 |ptr=>rfl
def Fb:Nat->(as:ai)->aQ as.aP->(Nat->SV)
 |_,[],_=>fun _=>.one .bn
 |k,[a],x=>ax (fun _=>.one .bn) k (EX a.1 a.2 x)
 |k,a::b::as,x=>ax (Fb (k+1) (b::as) x.2) k (EX a.1 a.2 x.1)
theorem acM:∀(k:Nat) (as:ai) (x:aQ as.aP),pR (Fb k as x)=s9 k (c6 as x)
 |k,[],x=>rfl
 |k,[a],x=>by
  have e:(EX a.1 a.2 x).er=CT (a.1,Ty.aJ a.2 x):=acp a.1 a.2 x
  simp only[Fb,c6,s9,vP]
  rw[e]
  rfl
 |k,a::b::as,x=>by
  have ih:=acM (k+1) (b::as) x.2
  simp only[Fb,c6,vP,acp,ih]
  rw[s9]
def qP:(as:ai)->aQ as.aP->Option (List TD)
 |[],_=>none
 |[a],x=>match a.1.ta with
  |true=>some (Ty.gW a.2 x)
  |false=>none
 |a::b::as,x=>match a.1.ta with
  |true=>some (Ty.gW a.2 x.1)
  |false=>qP (b::as) x.2
theorem abQ (k:K) (xs:List C) (ds:List Dv):oe ((k,xs)::ds)=match k.ta with|true=>some xs|false=>oe ds:=by cases k<;>rfl
theorem Zr (k:K) (ts:List Ty) (as:ai):AS ((k,ts)::as)=match k.ta with|true=>true|false=>AS as:=by cases k<;>rfl
theorem VR:∀(as:ai) (x:aQ as.aP),(qP as x).map cA=oe (c6 as x)
 |[],_=>rfl
 |[(k,ts)],x=>by
  simp only[qP,c6,abQ]
  cases k.ta with
  |true=>exact congrArg some (Ty.pN ts x)
  |false=>rfl
 |(k,ts)::b::as,x=>by
  simp only[qP,c6,abQ]
  cases k.ta with
  |true=>simp only[Option.map_some];rw[Ty.pN]
  |false=>exact VR (b::as) x.2
theorem ade:∀(as:ai) (x:aQ as.aP),(qP as x).isSome=AS as
 |[],_=>rfl
 |[(k,ts)],x=>by
  simp only[qP,Zr]
  cases k.ta<;>rfl
 |(k,ts)::b::as,x=>by
  simp only[qP]
  rw[Zr]
  cases k.ta with
  |true=>rfl
  |false=>exact ade (b::as) x.2
def acO (as:ai) (x:aQ as.aP):Nat->Option SB:=fun n=>match Nat.beq n aM with
 |true=>match qP as x with
  |some l=>some (.box (l.map fun y=>.v y.1 y.2))
  |none=>none
 |false=>none
def VE (as:ai) (x:aQ as.aP):af:={env:=Fb 0 as x,h:=acO as x,used:=fun n=>Nat.ble aM n}
theorem apJ (as:ai) (x:aQ as.aP):(VE as x).er=Ef (c6 as x):=by
 simp only[VE,af.er,Ef,acM]
 congr 1
 funext n
 simp only[cR,acO,nX]
 cases Nat.beq n aM with
 |false=>rfl
 |true=>
  simp only
  rw[<-VR]
  cases qP as x with
  |none=>rfl
  |some l=>simp only[Option.map_some,SB.er,KL]
section
variable {ρ:Type}
def Ks (h:Nat->Option SB):List SV->(List bM->Option ρ)->Option ρ
 |[],k=>k []
 |v::vs,k=>match v.cells? with
  |some (ag,cs)=>zv h cs fun l=>Ks h vs fun ds=>k ((Jm ag,l)::ds)
  |none=>none
theorem adk {h:Nat->Option SB}:∀{vs:List SV} {k:List bM->Option ρ} {r:ρ},Ks h vs k=some r->∃ds,qI (cR h) (vs.map SV.er)=some (ds.map bM.er)/\k ds=some r
 |[],k,r,hx=>⟨[],rfl,hx⟩
 |v::vs,k,r,hx=>by
  simp only[Ks] at hx
  split at hx
  ·rename_i ag cs hc
   obtain⟨l,h1,h2⟩:=Fw hx
   obtain⟨ds,h3,h4⟩:=adk h2
   refine⟨_,?_,h4⟩
   simp only[List.map_cons,qI,SV.lx hc,h1,h3,bM.er]
   cases ag<;>rfl
  ·cases hx
def adb:List SV->Option (Nat×Nat×Nat)
 |[v]=>v.pu
 |_=>none
def V0 (h:Nat->Option SB) (vs:List SV) (k:List bM->Option ρ):Option ρ:=
 match adb vs with
 |some (n,kk,off)=>match J9 h n kk off with
  |some l=>match Nat.ble aM n with
   |true=>none
   |false=>k [(.ptr,l)]
  |none=>none
 |none=>Ks h vs k
theorem apZ {h:Nat->Option SB} {vs:List SV} {k:List bM->Option ρ} {r:ρ} (hx:V0 h vs k=some r):∃ds,B6 (cR h) (vs.map SV.er)=some (ds.map bM.er)/\k ds=some r:=by
 unfold V0 at hx
 split at hx
 ·rename_i n kk off hp
  have hv:∃sz,vs=[.one (.ptr n kk sz off)]:=by
   unfold adb at hp
   split at hp
   ·obtain⟨sz,rfl⟩:=abP hp
    exact⟨sz,rfl⟩
   ·cases hp
  obtain⟨sz,rfl⟩:=hv
  split at hx
  ·rename_i l hl
   split at hx
   ·cases hx
   ·rename_i hb
    refine⟨_,?_,hx⟩
    have e:=acs (sz:=sz) hl
    have hn:¬aM<=n:=fun gI=>by rw[Nat.ble_eq_true_of_le gI] at hb;cases hb
    simp only[List.map_cons,List.map_nil,B6,e]
    rw[if_neg hn]
    rfl
  ·cases hx
 ·rename_i hp
  obtain⟨ds,h1,h2⟩:=adk hx
  refine⟨ds,?_,h2⟩
  unfold B6
  split
  ·rename_i v0 he
   have hv:∃v,vs=[v]/\v0=v.er:=by
    match vs,he with
    |[v],he=>simp at he;exact⟨v,rfl,he.symm⟩
   obtain⟨v,rfl,rfl⟩:=hv
   have be:v.pu=none:=hp
   rw[abO be]
   exact h1
  ·exact h1
def VQ (h:Nat->Option SB) (cur:Option (List TD)) (k:List bM->Option ρ):Option ρ:=
 match cur with
 |none=>k []
 |some xs=>match h aM with
  |some (.box cs)=>cG cs.length xs.length (match xk cs with
   |some l=>k [(.ptr,l)]
   |none=>none)
  |_=>none
theorem apU {h:Nat->Option SB} {cur:Option (List TD)} {k:List bM->Option ρ} {r:ρ} (hx:VQ h cur k=some r):
  ∃os:List bM,BP (cR h) (cur.map cA)=some (cA (os.flatMap (·.2)))/\os.length=(match cur.isSome with|true=>1|false=>0)/\k os=some r:=by
 unfold VQ at hx
 split at hx
 ·exact⟨[],rfl,rfl,hx⟩
 ·rename_i xs
  split at hx
  ·rename_i cs hn
   have he:=(bc hx).1;replace hx:=(bc hx).2
   split at hx
   ·rename_i l hl
    refine⟨[(.ptr,l)],?_,rfl,hx⟩
    simp only[Option.map_some,BP,cR,hn,SB.er,List.length_map]
    rw[if_pos (by rw[he,cA,List.length_map]),E8 hl]
    simp
   ·cases hx
  ·cases hx
end
def Kw (σ:af) (ms:List bh) (cur:Option (List TD)) (aA:ai):Option (aQ aA.aP):=
 xo σ ms fun vs=>V0 σ.h vs fun ds=>VQ σ.h cur fun os=>n7 aA (ds++os)
theorem ado {σ:af} {ms:List bh} {args:ai} {x:aQ args.aP} {aA:ai} {y:aQ aA.aP} (h:Kw σ ms (qP args x) aA=some y):
  σ.er.B5 ms (c6 args x)=some (xn (aA.length - pi args) (c6 aA y)):=by
 unfold Kw at h
 obtain⟨vs,h1,h2⟩:=Fm h
 obtain⟨ds,h3,h4⟩:=apZ h2
 obtain⟨os,h5,h6,h7⟩:=apU h4
 have h8:=tj h7
 have hlen:aA.length=ds.length+os.length:=by
  have:=congrArg List.length h8
  rw[Dd,List.length_map,List.length_append] at this
  exact this.symm
 have qd:pi args=os.length:=by
  rw[h6,ade]
  unfold pi
  cases AS args<;>rfl
 have hk:aA.length - pi args=ds.length:=by omega
 have vV:B6 σ.er.h (vs.map SV.er)=some (ds.map bM.er):=h3
 have IF:BP σ.er.h (oe (c6 args x))=some (cA (os.flatMap (·.2))):=by rw[<-VR];exact h5
 simp only[St.B5,h1,vV,IF,hk]
 rw[<-h8,Fj,List.take_left,List.drop_left]
def T0 (N:Nat) (T:List au) (sc:bf) (ms:List bh) (args aA:ai) (x:aQ args.aP):Option (aQ aA.aP):=
 kT N T sc (VE args x) (fun σ=>Kw σ ms (qP args x) aA) (fun _ _=>none) (fun σ=>Kw σ ms (qP args x) aA)
theorem apd {T:List au} {sc:bf} {ms:List bh} {args aA:ai} {x:aQ args.aP} {y:aQ aA.aP} (h:T0 az T sc ms args aA x=some y):
  J5 (cH T) sc.er ms (c6 args x)=some (xn (aA.length - pi args) (c6 aA y)):=by
 obtain⟨o,h1,h2⟩:=rV sc h
 rw[apJ] at h1
 unfold J5
 rw[h1]
 cases o with
 |fy τ=>
  obtain⟨eA,rfl,h2⟩:=h2
  exact ado h2
 |ret τ=>
  obtain⟨eA,rfl,h2⟩:=h2
  exact ado h2
 |ext i τ=>
  obtain⟨eA,rfl,h2⟩:=h2
  cases h2
def WV (P:Program) (fn:au):Prop:=(fn.mu.fD=0->bV P fn.id fn.M)/\(fn.mu.fD=1->kA P fn.id fn.mu fn.MM)/\(fn.mu.fD=2->Af P fn.id fn.MV)/\(fn.mu.fD=3->WW P fn.id fn.mu.tl fn.MW)/\bi P fn.id=true
def av (P:Program) (T:List au):Prop:=∀fn∈T,WV P fn
theorem av.nil {P:Program}:av P []:=fun _ h=>by cases h
theorem av.MP {P:Program} {fn:au} {T:List au} (h:WV P fn) (hT:av P T):av P (fn::T):=by
 intro g hg
 cases hg with
 |head=>exact h
 |tail _ hg=>exact hT g hg
theorem av.cons {P:Program} {f:FuncId} {args aA:ai} {F:aQ args.aP->Option (aQ aA.aP)} {T:List au} (h:bV P f (au.M ⟨f,args,[],aA,F⟩)/\bi P f=true) (hT:av P T):av P (⟨f,args,[],aA,F⟩::T):=
 av.MP ⟨fun _=>h.1,fun hm=>(by cases hm),fun hm=>(by cases hm),fun hm=>(by cases hm),h.2⟩ hT
theorem av.lA {P:Program} {f:FuncId} {args:ai} {s:List (Option Mode)} {mu:aN} {aA:ai} {F:aQ args.aP->Option (aQ aA.aP)} {T:List au} (h:kA P f (s::mu) (au.MM ⟨f,args,s::mu,aA,F⟩)/\bi P f=true) (hT:av P T)
  (hk:aN.fD (s::mu)=1:=by rfl):av P (⟨f,args,s::mu,aA,F⟩::T):=
 av.MP ⟨fun hm=>absurd (hk.symm.trans hm) (by decide),fun _=>h.1,fun hm=>absurd (hk.symm.trans hm) (by decide),fun hm=>absurd (hk.symm.trans hm) (by decide),h.2⟩ hT
theorem av.afa {P:Program} {f:FuncId} {args:ai} {aA:ai} {F:aQ args.aP->Option (aQ aA.aP)} {T:List au} (h:Af P f (au.MV ⟨f,args,[[some .aO]],aA,F⟩)/\bi P f=true) (hT:av P T):av P (⟨f,args,[[some .aO]],aA,F⟩::T):=
 av.MP ⟨fun hm=>(by cases hm),fun hm=>(by cases hm),fun _=>h.1,fun hm=>(by cases hm),h.2⟩ hT
theorem KE:∀{T:List au} {f:FuncId} {M:List Dv->Option (List Dv)},aS.find (cH T).pure f=some M->∃fn∈T,fn.id=f/\M=fn.M/\fn.mu.fD=0
 |[],f,M,h=>by simp[cH,aS.find] at h
 |g::l,f,M,h=>by
  simp only[cH,List.filterMap_cons] at h
  by_cases hg:g.mu.fD=0
  ·simp only[hg,aS.find] at h
   split at h
   ·rename_i e
    injection h with h
    exact⟨g,by simp,e.symm,h.symm,hg⟩
   ·obtain⟨fn,h1,h2,h3⟩:=KE (T:=l) h
    exact⟨fn,by simp[h1],h2,h3⟩
  ·split at h
   ·obtain⟨fn,h1,h2,h3⟩:=KE (T:=l) h
    exact⟨fn,by simp[h1],h2,h3⟩
   ·rename_i z hz
    split at hz
    ·rename_i h0;exact absurd h0 hg
    ·cases hz
theorem Wi:∀{T:List au} {f:FuncId} {sig:aN} {M:List Dv->Option (List Dv×List C)},aS.rk (cH T).BH f=some (sig,M)->∃fn∈T,fn.id=f/\sig=fn.mu/\M=fn.MM/\fn.mu.fD=1
 |[],f,sig,M,h=>by simp[cH,aS.rk] at h
 |g::l,f,sig,M,h=>by
  simp only[cH,List.filterMap_cons] at h
  by_cases hg:g.mu.fD=1
  ·simp only[hg,aS.rk] at h
   split at h
   ·rename_i e
    injection h with h
    injection h with ha hb
    exact⟨g,by simp,e.symm,ha.symm,hb.symm,hg⟩
   ·obtain⟨fn,h1,h2,h3⟩:=Wi (T:=l) h
    exact⟨fn,by simp[h1],h2,h3⟩
  ·split at h
   ·obtain⟨fn,h1,h2,h3⟩:=Wi (T:=l) h
    exact⟨fn,by simp[h1],h2,h3⟩
   ·rename_i z hz
    split at hz
    ·rename_i h0;exact absurd h0 hg
    ·cases hz
theorem Wj:∀{T:List au} {f:FuncId} {M:List Dv->Option (List Dv×List C)},aS.j9 (cH T).vs f=some M->∃fn∈T,fn.id=f/\M=fn.MV/\fn.mu.fD=2
 |[],f,M,h=>by simp[cH,aS.j9] at h
 |g::l,f,M,h=>by
  simp only[cH,List.filterMap_cons] at h
  by_cases hg:g.mu.fD=2
  ·simp only[hg,aS.j9] at h
   split at h
   ·rename_i e
    injection h with h
    exact⟨g,by simp,e.symm,h.symm,hg⟩
   ·obtain⟨fn,h1,h2,h3⟩:=Wj (T:=l) h
    exact⟨fn,by simp[h1],h2,h3⟩
  ·split at h
   ·obtain⟨fn,h1,h2,h3⟩:=Wj (T:=l) h
    exact⟨fn,by simp[h1],h2,h3⟩
   ·rename_i z hz
    split at hz
    ·rename_i h0;exact absurd h0 hg
    ·cases hz
theorem Wk:∀{T:List au} {f:FuncId} {sig:aN} {M:List Dv->Option (Nat×Nat)},aS.rl (cH T).ws f=some (sig,M)->∃fn∈T,fn.id=f/\sig=fn.mu.tl/\M=fn.MW/\fn.mu.fD=3
 |[],f,sig,M,h=>by simp[cH,aS.rl] at h
 |g::l,f,sig,M,h=>by
  simp only[cH,List.filterMap_cons] at h
  by_cases hg:g.mu.fD=3
  ·simp only[hg,aS.rl] at h
   split at h
   ·rename_i e
    injection h with h
    injection h with ha hb
    exact⟨g,by simp,e.symm,ha.symm,hb.symm,hg⟩
   ·obtain⟨fn,h1,h2,h3⟩:=Wk (T:=l) h
    exact⟨fn,by simp[h1],h2,h3⟩
  ·split at h
   ·obtain⟨fn,h1,h2,h3⟩:=Wk (T:=l) h
    exact⟨fn,by simp[h1],h2,h3⟩
   ·rename_i z hz
    split at hz
    ·rename_i h0;exact absurd h0 hg
    ·cases hz
theorem av.tok {P:Program} {T:List au} (hT:av P T):nI P (cH T):=by
 refine⟨fun g M hM=>?_,fun g sig M hM=>?_,fun g M hM=>?_,fun g sig M hM=>?_,fun g M hM=>?_⟩
 ·obtain⟨t9,h1,h2,h3,h4⟩:=KE hM
  subst h2 h3
  exact(hT t9 h1).1 h4
 ·obtain⟨t9,h1,h2,h3,h4,h5⟩:=Wi hM
  subst h2 h3 h4
  exact(hT t9 h1).2.1 h5
 ·obtain⟨t9,h1,h2,h3,h4⟩:=Wj hM
  subst h2 h3
  exact(hT t9 h1).2.2.1 h4
 ·obtain⟨t9,h1,h2,h3,h4,h5⟩:=Wk hM
  subst h2 h3 h4
  exact(hT t9 h1).2.2.2.1 h5
 ·obtain⟨t9,h1,h2,h3,h4⟩:=KE hM
  subst h2
  exact(hT t9 h1).2.2.2.2
def bH (P:Program) (f:FuncId) (mc:lg) (ms:List bh) (n:Nat):Bool:=
 match P.funcs[f]? with
 |some fn=>match fn.body with
  |some c=>iT P fn.ntmps c mc&&mZ P fn.results.toList ms&&decide (n<=fn.ntmps)&&(fn.name != "runtime.NumGoroutine")
  |none=>false
 |none=>false
theorem ME {P:Program} {f:FuncId} {mc:lg} {ms:List bh} {n:Nat} (h:bH P f mc ms n=true):bi P f=true:=by
 unfold bH at h
 unfold bi
 split at h
 ·rename_i fn hf
  split at h
  ·rename_i c hb
   simp only[Bool.and_eq_true] at h
   simp[hf,hb,h.2]
  ·cases h
 ·cases h
theorem cD {P:Program} {T:List au} (hT:av P T) (hm:P.follows .mixedOrders=true) {f:FuncId} {sc:bf} {ms:List bh} {args aA:ai} (hc:bH P f sc.er ms args.length=true)
  (F:aQ args.aP->Option (aQ aA.aP)) (hF:∀x y,F x=some y->cm az T sc ms args aA x=some y):bV P f (au.M ⟨f,args,[],aA,F⟩)/\bi P f=true:=by
 refine⟨?_,ME hc⟩
 unfold bH at hc
 split at hc
 ·rename_i fn hf
  split at hc
  ·rename_i c hb
   simp only[Bool.and_eq_true,decide_eq_true_eq] at hc
   refine aoJ (T:=cH T) hT.tok hm hf hb hc.1.1.1 hc.1.1.2 fun ds rs hM=>?_
   obtain⟨x,y,h1,h2,h3⟩:=au.F6 hM
   subst h1 h3
   exact⟨by rw[Dd];exact hc.1.2,apc (hF x y h2)⟩
  ·cases hc
 ·cases hc
theorem pg {P:Program} {T:List au} (hT:av P T) (hm:P.follows .mixedOrders=true) {f:FuncId} {sc:bf} {ms:List bh} {args:ai} {mu:aN} {aA:ai} (hc:bH P f sc.er ms args.length=true)
  (F:aQ args.aP->Option (aQ aA.aP)) (hF:∀x y,F x=some y->nz az T sc ms args mu aA x=some y):kA P f mu (au.MM ⟨f,args,mu,aA,F⟩)/\bi P f=true:=by
 refine⟨?_,ME hc⟩
 unfold bH at hc
 split at hc
 ·rename_i fn hf
  split at hc
  ·rename_i c hb
   simp only[Bool.and_eq_true,decide_eq_true_eq] at hc
   refine alR (T:=cH T) hT.tok hm hf hb hc.1.1.1 hc.1.1.2 fun ds rs eI hM=>?_
   unfold au.MM at hM
   rw[Option.map_eq_some_iff] at hM
   obtain⟨u7,h0,Oz⟩:=hM
   obtain⟨x,y,h1,h2,h3⟩:=au.F6 h0
   subst h1 h3
   refine⟨by rw[Dd];exact hc.1.2,?_⟩
   rw[<-Oz]
   exact apb (hF x y h2)
  ·cases hc
 ·cases hc
theorem aqA {P:Program} {T:List au} (hT:av P T) (hm:P.follows .mixedOrders=true) {f:FuncId} {sc:bf} {ms:List bh} {args aA:ai} (hc:bH P f sc.er ms args.length=true)
  (F:aQ args.aP->Option (aQ aA.aP)) (hF:∀x y,F x=some y->T0 az T sc ms args aA x=some y):Af P f (au.MV ⟨f,args,[[some .aO]],aA,F⟩)/\bi P f=true:=by
 refine⟨?_,ME hc⟩
 unfold bH at hc
 split at hc
 ·rename_i fn hf
  split at hc
  ·rename_i c hb
   simp only[Bool.and_eq_true,decide_eq_true_eq] at hc
   refine aqz (T:=cH T) hT.tok hm hf hb hc.1.1.1 hc.1.1.2 fun ds rs out hM=>?_
   unfold au.MV at hM
   rw[Option.map_eq_some_iff] at hM
   obtain⟨u7,h0,Oz⟩:=hM
   obtain⟨x,y,h1,h2,h3⟩:=au.F6 h0
   subst h1 h3
   refine⟨by rw[Dd];exact hc.1.2,?_⟩
   rw[<-Oz]
   exact apd (hF x y h2)
  ·cases hc
 ·cases hc
end Go.Am
