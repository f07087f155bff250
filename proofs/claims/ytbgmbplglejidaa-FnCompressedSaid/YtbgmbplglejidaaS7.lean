/- S7: typed functions as a whole. No condition. -/
import Derived.Test.YtbgmbplglejidaaS6
import Derived.Test.YtbgmbplglejidaaAmY
set_option linter.unusedVariables false
namespace Go.Am
def FB (k:K) (ts:List Ty) (x:Ty.DL ts):SV:=
 match k with
 |.one=>match Ty.cells ts x with
  |[c]=>.one c
  |_=>.one .bn
 |.agg=>.agg (Ty.cells ts x)
 |.ptr=>.one (.cB ts x 0)
theorem acr (k:K) (ts:List Ty) (x:Ty.DL ts):(FB k ts x).er=xU (k,Ty.aI ts x):=by
 cases k with
 |one=>
  match ts,x with
  |[],x=>rfl
  |[t],x=>rfl
  |t::u::[],x=>rfl
  |t::u::v::ts,x=>rfl
 |agg=>simp only[FB,SV.er,xU,Ty.ma]
 |ptr=>rfl
def FG:Nat->(as:ak)->aS as.aR->(Nat->SV)
 |_,[],_=>fun _=>.one .bn
 |k,[a],x=>av (fun _=>.one .bn) k (FB a.1 a.2 x)
 |k,a::b::as,x=>av (FG (k+1) (b::as) x.2) k (FB a.1 a.2 x.1)
theorem acI:∀(k:Nat) (as:ak) (x:aS as.aR),qE (FG k as x)=tt k (dd as x)
 |k,[],x=>rfl
 |k,[a],x=>by
  have e:(FB a.1 a.2 x).er=xU (a.1,Ty.aI a.2 x):=acr a.1 a.2 x
  simp only[FG,dd,tt,v5]
  rw[e]
  rfl
 |k,a::b::as,x=>by
  have ih:=acI (k+1) (b::as) x.2
  simp only[FG,dd,v5,acr,ih]
  rw[tt]
def U9 (as:ak) (x:aS as.aR):af:={env:=FG 0 as x,h:=fun _=>none,used:=fun n=>Nat.ble aK n}
theorem aoV (as:ak) (x:aS as.aR):(U9 as x).er=EN (dd as x):=by
 simp only[U9,af.er,EN,acI]
 rfl
section
variable {ρ:Type}
def xp (σ:af):List bC->(List SV->Option ρ)->Option ρ
 |[],k=>k []
 |.tmp t::ms,k=>xp σ ms fun vs=>k (σ.env t::vs)
 |.cell t sz ag::ms,k=>match σ.env t with
  |.one p=>FN σ.h p sz fun cs=>xp σ ms fun vs=>k (zT ag cs::vs)
  |_=>none
theorem FW {σ:af}:∀{ms:List bC} {k:List SV->Option ρ} {r:ρ},xp σ ms k=some r->∃vs,σ.er.sB ms=some (vs.map SV.er)/\k vs=some r
 |[],k,r,h=>⟨[],rfl,h⟩
 |.tmp t::ms,k,r,h=>by
  simp only[xp] at h
  obtain⟨vs,h1,h2⟩:=FW h
  exact⟨_,by simp only[St.sB,h1];rfl,h2⟩
 |.cell t sz ag::ms,k,r,h=>by
  simp only[xp] at h
  split at h
  ·rename_i p hp
   obtain⟨cs,h1,h2⟩:=Vf h
   obtain⟨vs,h3,h4⟩:=FW h2
   have bj:σ.er.env t=.one p.er:=by show(σ.env t).er=_;rw[hp];rfl
   have jW:loadAt σ.er.h p.er sz=some (cs.map SC.er):=h1
   exact⟨_,by simp only[St.sB,bj,jW,h3,List.map_cons,CZ],h4⟩
  ·cases h
def Vz (h:Nat->Option SB) (c:SC) (k:(t:Ty)->t.D->List Nat->Option ρ):Option ρ:=
 match c with
 |.v t x=>fb t.eR (k t x [])
 |.nil ts=>match ts with
  |[]=>none
  |t::us=>k (.list (t::us)) ([]:List (Ty.DL (t::us))) []
 |.sl n sz lo len=>match h n with
  |some (.row true m ts xs)=>cP ts.length sz (fb m.own (cP lo 0 ((dt xs len).aa fun ys=>k (.list ts) ys [n])))
  |_=>none
 |_=>none
theorem apg {h:Nat->Option SB} {c:SC} {k:(t:Ty)->t.D->List Nat->Option ρ} {r:ρ} (hx:Vz h c k=some r):
  ∃(t:Ty) (x:t.D) (ns:List Nat),lI (cY h) c.er=some (t.er x,ns)/\k t x ns=some r:=by
 unfold Vz at hx
 split at hx
 ·rename_i t x
  have h1:=(cv hx).1;replace hx:=(cv hx).2
  exact⟨t,x,[],by simp only[SC.er,lI,Ty.xg,h1,if_true],hx⟩
 ·split at hx
  ·cases hx
  ·rename_i t us
   exact⟨.list (t::us),[],[],by simp[SC.er,lI,Ty.er],hx⟩
 ·rename_i n sz lo len
  split at hx
  ·rename_i m ts xs hn
   have bu:=(bi hx).1;replace hx:=(bi hx).2;subst bu
   have hm:=(cv hx).1;replace hx:=(cv hx).2
   have bu:=(bi hx).1;replace hx:=(bi hx).2;subst bu
   rw[eT] at hx
   obtain⟨ys,hw,hx⟩:=hx
   obtain⟨w1,w2⟩:=ady hw
   refine⟨.list ts,ys,[n],?_,hx⟩
   have bM:m≠ .aF:=by rintro rfl;cases hm
   simp only[SC.er,lI,cY,hn,Option.map_some,SB.er,List.length_map,w1,w2,ne_eq,bM,not_false_eq_true,and_self,if_true,Ty.er]
  ·cases hx
 ·cases hx
def Lb (h:Nat->Option SB):List SC->(List TD->List Nat->Option ρ)->Option ρ
 |[],k=>k [] []
 |c::cs,k=>Vz h c fun t x ns=>Lb h cs fun l ki=>k (⟨t,x⟩::l) (ns++ki)
theorem adg {h:Nat->Option SB}:∀{cs:List SC} {k:List TD->List Nat->Option ρ} {r:ρ},Lb h cs k=some r->
  ∃l ns,tG (cY h) (cs.map SC.er)=some (cF l,ns)/\k l ns=some r
 |[],k,r,hx=>⟨[],[],rfl,hx⟩
 |c::cs,k,r,hx=>by
  simp only[Lb] at hx
  obtain⟨t,x,ns,h1,h2⟩:=apg hx
  obtain⟨l,ki,h3,h4⟩:=adg h2
  exact⟨⟨t,x⟩::l,ns++ki,by simp[tG,h1,h3,cF],h4⟩
def kOf:Bool->K
 |true=>.agg
 |false=>.one
def FX (h:Nat->Option SB):List SV->(List bW->List Nat->Option ρ)->Option ρ
 |[],k=>k [] []
 |v::vs,k=>match v.cells? with
  |some (ag,cs)=>Lb h cs fun l ns=>FX h vs fun ds ki=>k ((kOf ag,l)::ds) (ns++ki)
  |none=>none
theorem VA {h:Nat->Option SB}:∀{vs:List SV} {k:List bW->List Nat->Option ρ} {r:ρ},FX h vs k=some r->
  ∃ds ns,rn (cY h) (vs.map SV.er)=some (ds.map bW.er,ns)/\k ds ns=some r
 |[],k,r,hx=>⟨[],[],rfl,hx⟩
 |v::vs,k,r,hx=>by
  simp only[FX] at hx
  split at hx
  ·rename_i ag cs hc
   obtain⟨l,ns,h1,h2⟩:=adg hx
   obtain⟨ds,ki,h3,h4⟩:=VA h2
   refine⟨_,_,?_,h4⟩
   simp only[List.map_cons,rn,SV.ma hc,h1,h3]
   cases ag<;>rfl
  ·cases hx
end
def Fe:List Nat->Bool
 |[]=>true
 |n::l=> !(l.contains n)&&Fe l
theorem R6:∀{l:List Nat},Fe l=true->l.Nodup
 |[],_=>List.nodup_nil
 |n::l,h=>by
  simp only[Fe,Bool.and_eq_true,Bool.not_eq_true'] at h
  rw[List.nodup_cons]
  refine⟨fun hm=>?_,R6 h.2⟩
  have:l.contains n=true:=by simpa using hm
  rw[this] at h
  cases h.1
def La (σ:af) (ms:List bC) (aD:ak):Option (aS aD.aR):=
 xp σ ms fun vs=>FX σ.h vs fun ds ns=>fb (Fe ns) (oP aD ds)
theorem adf {σ:af} {ms:List bC} {aD:ak} {y:aS aD.aR} (h:La σ ms aD=some y):σ.er.tF ms=some (dd aD y):=by
 unfold La at h
 obtain⟨vs,h1,h2⟩:=FW h
 obtain⟨ds,ns,h3,h4⟩:=VA h2
 have h5:=(cv h4).1;replace h6:=(cv h4).2
 have wc:rn σ.er.h (vs.map SV.er)=some (ds.map bW.er,ns):=h3
 simp only[St.tF,h1,wc,if_pos (R6 h5),tB h6]
def dN (N:Nat) (T:List aw) (sc:bA) (ms:List bC) (args aD:ak) (x:aS args.aR):Option (aS aD.aR):=
 lK N T sc (U9 args x) (fun σ=>La σ ms aD) (fun _ _=>none) (fun σ=>La σ ms aD)
theorem aog {T:List aw} {sc:bA} {ms:List bC} {args aD:ak} {x:aS args.aR} {y:aS aD.aR} (h:dN aE T sc ms args aD x=some y):
  KI (cQ T) sc.er ms (dd args x)=some (dd aD y):=by
 obtain⟨o,h1,h2⟩:=sE sc h
 rw[aoV] at h1
 unfold KI
 rw[h1]
 cases o with
 |fG τ=>
  obtain⟨eF,rfl,h2⟩:=h2
  exact adf h2
 |ret τ=>
  obtain⟨eF,rfl,h2⟩:=h2
  exact adf h2
 |ext i τ=>
  obtain⟨eF,rfl,h2⟩:=h2
  cases h2
theorem DR:∀(as:ak) (x:aS as.aR),(dd as x).length=as.length
 |[],_=>rfl
 |[a],_=>rfl
 |a::b::as,x=>by simp only[dd,List.length_cons,DR (b::as) x.2]
def qe:Nat->List (Option Mode)->List TD->List SC
 |c,some _::fs,⟨.list ts,xs⟩::l=>.sl (aK+c) ts.length 0 (J (α:=Ty.DL ts) xs)::qe (c+1) fs l
 |c,some _::fs,⟨.int _,_⟩::l=>.bn::qe (c+1) fs l
 |c,some _::fs,⟨.bool,_⟩::l=>.bn::qe (c+1) fs l
 |c,none::fs,x::l=>.v x.1 x.2::qe c fs l
 |c,[],l=>l.map fun x=>.v x.1 x.2
 |c,_::_,[]=>[]
theorem Fz:∀(c:Nat) (fs:List (Option Mode)) (l:List TD),(qe c fs l).map SC.er=gF c fs (cF l)
 |c,some m::fs,⟨.list ts,xs⟩::l=>by
  simp only[qe,cF,List.map_cons,Ty.er,gF,SC.er]
  have:=Fz (c+1) fs l
  simp only[cF] at this
  rw[this]
  exact congrArg (fun q=>ah.sl (aK+c) ts.length 0 q::_) (List.length_map (Ty.aI ts)).symm
 |c,some m::fs,⟨.int k,x⟩::l=>by
  simp only[qe,cF,List.map_cons,Ty.er,gF,SC.er]
  exact congrArg _ (Fz (c+1) fs l)
 |c,some m::fs,⟨.bool,x⟩::l=>by
  simp only[qe,cF,List.map_cons,Ty.er,gF,SC.er]
  exact congrArg _ (Fz (c+1) fs l)
 |c,none::fs,⟨t,x⟩::l=>by
  simp only[qe,cF,List.map_cons,gF,SC.er]
  exact congrArg _ (Fz c fs l)
 |c,[],l=>by
  cases l<;>simp[qe,cF,gF,SC.er]
 |c,some m::fs,[]=>rfl
 |c,none::fs,[]=>rfl
def FA (c:Nat) (s:List (Option Mode)) (d:K×List Ty) (x:Ty.DL d.2):SV:=
 match d.1 with
 |.one=>match qe c s (Ty.ie d.2 x) with
  |[y]=>.one y
  |_=>.one .bn
 |.agg=>.agg (qe c s (Ty.ie d.2 x))
 |.ptr=>.one (.cB d.2 x 0)
theorem acq (c:Nat) (s:List (Option Mode)) (d:K×List Ty) (x:Ty.DL d.2):(FA c s d x).er=sQ c s (d.1,Ty.aI d.2 x):=by
 obtain⟨k,ts⟩:=d
 have h:=Fz c s (Ty.ie ts x)
 rw[Ty.qy] at h
 cases k with
 |one=>
  simp only[FA,sQ,<-h]
  generalize qe c s (Ty.ie ts x)=l
  match l with
  |[]=>rfl
  |[y]=>rfl
  |_::_::_=>rfl
 |agg=>simp only[FA,sQ,<-h,SV.er]
 |ptr=>rfl
def FH:Nat->Nat->aP->(as:ak)->aS as.aR->(Nat->SV)
 |_,_,_,[],_=>fun _=>.one .bn
 |k,c,sig,[a],x=>av (fun _=>.one .bn) k (FA c sig.hd a x)
 |k,c,sig,a::b::as,x=>av (FH (k+1) (c+(ez sig.hd (Ty.ie a.2 x.1)).length) sig.tl (b::as) x.2) k (FA c sig.hd a x.1)
theorem Nz {α β:Type}:∀(s:List (Option Mode)) (l:List α) (l':List β),l.length=l'.length->(ez s l).length=(ez s l').length
 |some m::fs,x::xs,y::ys,h=>by simp only[ez,List.length_cons,Nz fs xs ys (by simpa using h)]
 |none::fs,x::xs,y::ys,h=>by simp only[ez];exact Nz fs xs ys (by simpa using h)
 |[],l,l',h=>by cases l<;>cases l'<;>rfl
 |some m::fs,[],[],h=>rfl
 |none::fs,[],[],h=>rfl
 |_::_,[],_::_,h=>by simp at h
 |_::_,_::_,[],h=>by simp at h
theorem aff (ts:List Ty) (x:Ty.DL ts):(Ty.ie ts x).length=(Ty.aI ts x).length:=by
 rw[<-Ty.qy,cF,List.length_map]
theorem aai (k c:Nat) (sig:aP) (d:Dv) (ds:List Dv):mD k c sig (d::ds)=av (mD (k+1) (c+(ez sig.hd d.2).length) sig.tl ds) k (sQ c sig.hd d):=by
 cases sig with
 |nil=>
  have:(ez (aP.hd []) d.2).length=0:=rfl
  rw[this]
  simp only[mD,Nat.add_zero,aP.tl,aP.hd]
 |cons s sig=>rfl
theorem acG:∀(k c:Nat) (sig:aP) (as:ak) (x:aS as.aR),qE (FH k c sig as x)=mD k c sig (dd as x)
 |k,c,sig,[],x=>by cases sig<;>rfl
 |k,c,sig,[a],x=>by
  simp only[FH,dd,v5]
  have h:=acq c sig.hd a x
  rw[aai]
  have e:mD (k+1) (c+(ez sig.hd (Ty.aI a.2 x)).length) sig.tl []=vZ:=by
   simp only[mD]
  rw[e]
  exact congrArg (fun v=>av (qE fun _=>SV.one SC.bn) k v) h
 |k,c,sig,a::b::as,x=>by
  have ih:=acG (k+1) (c+(ez sig.hd (Ty.ie a.2 x.1)).length) sig.tl (b::as) x.2
  simp only[FH,dd,v5,acq,ih,aai (ds:=dd (b::as) x.2)]
  rw[Nz sig.hd (Ty.ie a.2 x.1) (Ty.aI a.2 x.1) (aff _ _)]
def CG (sig:aP) (as:ak) (x:aS as.aR):List (Mode×TD):=eI sig ((kY as x).map (·.2))
theorem U6 (sig:aP) (as:ak) (x:aS as.aR):(CG sig as x).map (fun p=>(p.1,p.2.1.er p.2.2))=eI sig ((dd as x).map (·.2)):=by
 unfold CG
 rw[<-vY,<-I5 (fun p:TD=>p.1.er p.2)]
 simp only[List.map_map]
 rfl
def VD:Mode×TD->Option SB
 |(m,⟨.list ts,xs⟩)=>some (.row false m ts xs)
 |_=>none
theorem api (p:Mode×TD):(VD p).map SB.er=nv (p.1,p.2.1.er p.2.2):=by
 obtain⟨m,t,x⟩:=p
 cases t<;>rfl
def CV:List (Mode×TD)->Nat->Option SB
 |[],_=>none
 |p::_,0=>VD p
 |_::l,n+1=>CV l n
theorem adj:∀(l:List (Mode×TD)) (n:Nat),CV l n=(l[n]?).bind VD
 |[],n=>by simp[CV]
 |p::l,0=>by simp[CV]
 |p::l,n+1=>by simp[CV,adj l n]
def acE (fl:List (Mode×TD)):Nat->Option SB:=fun n=>match Nat.ble aK n with
 |true=>CV fl (Nat.sub n aK)
 |false=>none
def Va (sig:aP) (as:ak) (x:aS as.aR):af:={env:=FH 0 0 sig as x,h:=acE (CG sig as x),used:=fun n=>Nat.ble aK n}
theorem aoT (sig:aP) (as:ak) (x:aS as.aR):(Va sig as x).er=BT sig (dd as x):=by
 simp only[Va,af.er,BT,acG]
 congr 1
 funext n
 simp only[cY,acE]
 cases hb:Nat.ble aK n with
 |true=>
  rw[if_pos (Nat.le_of_ble_eq_true hb),<-U6,adj]
  simp only[List.getElem?_map]
  cases (CG sig as x)[n - aK]? with
  |none=>simp
  |some p=>simp[api]
 |false=>
  rw[if_neg (fun h=>by rw[Nat.ble_eq_true_of_le h] at hb;cases hb)]
  rfl
def af.jO (σ:af):af:={σ with h:=fun n=>match Nat.ble aK n with|true=>none|false=>σ.h n}
theorem af.ami (σ:af):σ.jO.er=σ.er.jO:=by
 simp only[af.jO,af.er,St.jO]
 congr 1
 funext n
 simp only[cY]
 cases hb:Nat.ble aK n with
 |true=>rw[if_pos (Nat.le_of_ble_eq_true hb)];rfl
 |false=>rw[if_neg (fun h=>by rw[Nat.ble_eq_true_of_le h] at hb;cases hb)]
section
variable {ρ:Type}
def Vp (σ:af) (q:Nat) (p:Mode×TD) (k:TD->Option ρ):Option ρ:=
 match p with
 |(m,⟨.list ts,xs⟩)=>match σ.h (aK+q) with
  |some (.row _ m' us ys)=>fb (Mode.beq m' m) (fb (Ty.rM us ts) (fb (V1 m us) ((qd (J ys) (J (α:=Ty.DL ts) xs)).aa fun _=>k ⟨.list us,ys⟩)))
  |_=>none
 |_=>none
theorem aas (t:Ty) (x:t.D):(t.er x).qW= !t.eR:=by cases t<;>rfl
theorem aar:∀(ts:List Ty) (x:Ty.DL ts),(Ty.aI ts x).map C.qW=ts.map fun t=> !t.eR
 |[],_=>rfl
 |[t],x=>congrArg (fun b=>[b]) (aas t x)
 |t::u::ts,x=>by
  have:=aar (u::ts) x.2
  simp only[List.map_cons] at this
  simp only[Ty.aI,List.map_cons,aas,this]
theorem aat (ts:List Ty) (xs:List (Ty.DL ts)):(List.map (Ty.aI ts) xs).map (fun e=>e.map C.qW)=List.replicate xs.length (ts.map fun t=> !t.eR):=by
 induction xs with
 |nil=>rfl
 |cons x xs ih=>simp only[List.map_cons,aar,ih,List.length_cons,List.replicate_succ]
theorem apb {σ:af} {q:Nat} {p:Mode×TD} {k:TD->Option ρ} {r:ρ} (h:Vp σ q p k=some r):∃o:TD,Cp σ.er q (p.1,p.2.1.er p.2.2)=some (o.1.er o.2)/\k o=some r:=by
 unfold Vp at h
 split at h
 ·rename_i m ts xs
  split at h
  ·rename_i gr m' us ys hn
   have h1:=(cv h).1;replace h:=(cv h).2
   have h2:=(cv h).1;replace h:=(cv h).2
   have h3:=(cv h).1;replace h:=(cv h).2
   rw[eT] at h
   obtain⟨_,hs,h⟩:=h
   have hl:J ys=J (α:=Ty.DL ts) xs:=by
    unfold qd at hs
    split at hs
    ·assumption
    ·cases hs
   have h1:=Mode.beq_eq h1
   have h2:=Ty.sR h2
   subst h1 h2
   refine⟨_,?_,h⟩
   have bk:σ.er.h (aK+q)=some (.row gr m' us.length (List.map (Ty.aI us) ys)):=by simp[af.er,cY,hn,SB.er]
   have dE:List.length ys=List.length (α:=Ty.DL us) xs:=hl
   have hl1:(List.map (Ty.aI us) ys).length=(List.map (α:=Ty.DL us) (Ty.aI us) xs).length:=(List.length_map _).trans (dE.trans (List.length_map (as:=(xs:List (Ty.DL us))) (Ty.aI us)).symm)
   have yI:(List.map (Ty.aI us) ys).map (fun e=>e.map C.qW)=(List.map (α:=Ty.DL us) (Ty.aI us) xs).map (fun e=>e.map C.qW):=
    (aat us ys).trans ((congrArg (fun n=>List.replicate n _) dE).trans (aat us xs).symm)
   simp only[Cp,Ty.er,bk]
   rw[if_pos ⟨trivial,trivial,hl1,YK _ _ _ h3,yI⟩]
  ·cases h
 ·cases h
def K6 (σ:af):Nat->List (Mode×TD)->(List TD->Option ρ)->Option ρ
 |_,[],k=>k []
 |q,p::l,k=>Vp σ q p fun o=>K6 σ (q+1) l fun os=>k (o::os)
theorem acZ {σ:af}:∀{l:List (Mode×TD)} {q:Nat} {k:List TD->Option ρ} {r:ρ},K6 σ q l k=some r->∃os,w4 σ.er q (l.map fun p=>(p.1,p.2.1.er p.2.2))=some (cF os)/\k os=some r
 |[],q,k,r,h=>⟨[],rfl,h⟩
 |p::l,q,k,r,h=>by
  simp only[K6] at h
  obtain⟨o,h1,h2⟩:=apb h
  obtain⟨os,h3,h4⟩:=acZ h2
  exact⟨o::os,by simp only[List.map_cons,w4,h1,h3,cF],h4⟩
end
def Lc (σ:af) (ms:List bC) (fl:List (Mode×TD)) (kk:Nat) (aD:ak):Option (aS aD.aR):=
 xp σ.jO ms fun vs=>FX σ.jO.h vs fun ds ns=>fb (Fe ns) (cP ds.length kk (K6 σ 0 fl fun os=>oP aD (ds++os.map fun o=>(.one,[o]))))
theorem adh {σ:af} {ms:List bC} {fl:List (Mode×TD)} {kk:Nat} {aD:ak} {y:aS aD.aR} (h:Lc σ ms fl kk aD=some y):
  σ.er.CA ms (fl.map fun p=>(p.1,p.2.1.er p.2.2))=some (xo kk (dd aD y)):=by
 unfold Lc at h
 obtain⟨vs,h1,h2⟩:=FW h
 obtain⟨ds,ns,h3,h4⟩:=VA h2
 have h5:=(cv h4).1;replace h4:=(cv h4).2
 have h6:=(bi h4).1;replace h4:=(bi h4).2
 obtain⟨os,h7,h8⟩:=acZ h4
 have wc:rn σ.jO.er.h (vs.map SV.er)=some (ds.map bW.er,ns):=h3
 have hr:σ.er.jO.tF ms=some (ds.map bW.er):=by
  rw[<-af.ami]
  simp only[St.tF,h1,wc,if_pos (R6 h5)]
 simp only[St.CA,hr,h7,<-tB h8,FT,<-h6]
 congr 2
 ·rw[List.take_left]
 ·rw[List.drop_left]
  congr 1
  clear h7 h8
  induction os with
  |nil=>rfl
  |cons o os ih=>rw[List.map_cons,List.flatMap_cons,<-ih];rfl
def vj (N:Nat) (T:List aw) (sc:bA) (ms:List bC) (args:ak) (mu:aP) (aD:ak) (x:aS args.aR):Option (aS aD.aR):=
 lK N T sc (Va mu args x) (fun σ=>Lc σ ms (CG mu args x) (aD.length - mu.g7) aD) (fun _ _=>none) (fun σ=>Lc σ ms (CG mu args x) (aD.length - mu.g7) aD)
theorem aof {T:List aw} {sc:bA} {ms:List bC} {args:ak} {mu:aP} {aD:ak} {x:aS args.aR} {y:aS aD.aR} (h:vj aE T sc ms args mu aD x=some y):
  KJ (cQ T) sc.er ms mu (dd args x)=some (xo (aD.length - mu.g7) (dd aD y)):=by
 obtain⟨o,h1,h2⟩:=sE sc h
 rw[aoT] at h1
 unfold KJ
 rw[h1]
 cases o with
 |fG τ=>
  obtain⟨eF,rfl,h2⟩:=h2
  simp only[<-U6]
  exact adh h2
 |ret τ=>
  obtain⟨eF,rfl,h2⟩:=h2
  simp only[<-U6]
  exact adh h2
 |ext i τ=>
  obtain⟨eF,rfl,h2⟩:=h2
  cases h2
def Fy (k:K) (ts:List Ty) (x:Ty.DL ts):SV:=
 match k with
 |.one=>match Ty.cells ts x with
  |[c]=>.one c
  |_=>.one .bn
 |.agg=>.agg (Ty.cells ts x)
 |.ptr=>.one (.ptr aK 0 0 0)
theorem acp (k:K) (ts:List Ty) (x:Ty.DL ts):(Fy k ts x).er=Dr (k,Ty.aI ts x):=by
 cases k with
 |one=>
  match ts,x with
  |[],x=>rfl
  |[t],x=>rfl
  |t::u::[],x=>rfl
  |t::u::v::ts,x=>rfl
 |agg=>simp only[Fy,SV.er,Dr,Ty.ma]
 |ptr=>rfl
def FI:Nat->(as:ak)->aS as.aR->(Nat->SV)
 |_,[],_=>fun _=>.one .bn
 |k,[a],x=>av (fun _=>.one .bn) k (Fy a.1 a.2 x)
 |k,a::b::as,x=>av (FI (k+1) (b::as) x.2) k (Fy a.1 a.2 x.1)
theorem acH:∀(k:Nat) (as:ak) (x:aS as.aR),qE (FI k as x)=tu k (dd as x)
 |k,[],x=>rfl
 |k,[a],x=>by
  have e:(Fy a.1 a.2 x).er=Dr (a.1,Ty.aI a.2 x):=acp a.1 a.2 x
  simp only[FI,dd,tu,v5]
  rw[e]
  rfl
 |k,a::b::as,x=>by
  have ih:=acH (k+1) (b::as) x.2
  simp only[FI,dd,v5,acp,ih]
  rw[tu]
def rz:(as:ak)->aS as.aR->Option (List TD)
 |[],_=>none
 |[a],x=>match a.1.tv with
  |true=>some (Ty.ie a.2 x)
  |false=>none
 |a::b::as,x=>match a.1.tv with
  |true=>some (Ty.ie a.2 x.1)
  |false=>rz (b::as) x.2
theorem abL (k:K) (xs:List C) (ds:List Dv):oR ((k,xs)::ds)=match k.tv with|true=>some xs|false=>oR ds:=by cases k<;>rfl
theorem Zi (k:K) (ts:List Ty) (as:ak):Bo ((k,ts)::as)=match k.tv with|true=>true|false=>Bo as:=by cases k<;>rfl
theorem Vr:∀(as:ak) (x:aS as.aR),(rz as x).map cF=oR (dd as x)
 |[],_=>rfl
 |[(k,ts)],x=>by
  simp only[rz,dd,abL]
  cases k.tv with
  |true=>exact congrArg some (Ty.qy ts x)
  |false=>rfl
 |(k,ts)::b::as,x=>by
  simp only[rz,dd,abL]
  cases k.tv with
  |true=>simp only[Option.map_some];rw[Ty.qy]
  |false=>exact Vr (b::as) x.2
theorem ac6:∀(as:ak) (x:aS as.aR),(rz as x).isSome=Bo as
 |[],_=>rfl
 |[(k,ts)],x=>by
  simp only[rz,Zi]
  cases k.tv<;>rfl
 |(k,ts)::b::as,x=>by
  simp only[rz]
  rw[Zi]
  cases k.tv with
  |true=>rfl
  |false=>exact ac6 (b::as) x.2
def acJ (as:ak) (x:aS as.aR):Nat->Option SB:=fun n=>match Nat.beq n aK with
 |true=>match rz as x with
  |some l=>some (.box (l.map fun y=>.v y.1 y.2))
  |none=>none
 |false=>none
def Vb (as:ak) (x:aS as.aR):af:={env:=FI 0 as x,h:=acJ as x,used:=fun n=>Nat.ble aK n}
theorem aoU (as:ak) (x:aS as.aR):(Vb as x).er=EO (dd as x):=by
 simp only[Vb,af.er,EO,acH]
 congr 1
 funext n
 simp only[cY,acJ,oK]
 cases Nat.beq n aK with
 |false=>rfl
 |true=>
  simp only
  rw[<-Vr]
  cases rz as x with
  |none=>rfl
  |some l=>simp only[Option.map_some,SB.er,Ls]
section
variable {ρ:Type}
def K9 (h:Nat->Option SB):List SV->(List bW->Option ρ)->Option ρ
 |[],k=>k []
 |v::vs,k=>match v.cells? with
  |some (ag,cs)=>zR h cs fun l=>K9 h vs fun ds=>k ((J0 ag,l)::ds)
  |none=>none
theorem ade {h:Nat->Option SB}:∀{vs:List SV} {k:List bW->Option ρ} {r:ρ},K9 h vs k=some r->∃ds,rm (cY h) (vs.map SV.er)=some (ds.map bW.er)/\k ds=some r
 |[],k,r,hx=>⟨[],rfl,hx⟩
 |v::vs,k,r,hx=>by
  simp only[K9] at hx
  split at hx
  ·rename_i ag cs hc
   obtain⟨l,h1,h2⟩:=F6 hx
   obtain⟨ds,h3,h4⟩:=ade h2
   refine⟨_,?_,h4⟩
   simp only[List.map_cons,rm,SV.ma hc,h1,h3,bW.er]
   cases ag<;>rfl
  ·cases hx
def ac5:List SV->Option (Nat×Nat×Nat)
 |[v]=>v.p9
 |_=>none
def VB (h:Nat->Option SB) (vs:List SV) (k:List bW->Option ρ):Option ρ:=
 match ac5 vs with
 |some (n,kk,off)=>match KO h n kk off with
  |some l=>match Nat.ble aK n with
   |true=>none
   |false=>k [(.ptr,l)]
  |none=>none
 |none=>K9 h vs k
theorem aph {h:Nat->Option SB} {vs:List SV} {k:List bW->Option ρ} {r:ρ} (hx:VB h vs k=some r):∃ds,CC (cY h) (vs.map SV.er)=some (ds.map bW.er)/\k ds=some r:=by
 unfold VB at hx
 split at hx
 ·rename_i n kk off hp
  have hv:∃sz,vs=[.one (.ptr n kk sz off)]:=by
   unfold ac5 at hp
   split at hp
   ·obtain⟨sz,rfl⟩:=abK hp
    exact⟨sz,rfl⟩
   ·cases hp
  obtain⟨sz,rfl⟩:=hv
  split at hx
  ·rename_i l hl
   split at hx
   ·cases hx
   ·rename_i hb
    refine⟨_,?_,hx⟩
    have e:=acs (sz:=sz) hl
    have hn:¬aK<=n:=fun jH=>by rw[Nat.ble_eq_true_of_le jH] at hb;cases hb
    simp only[List.map_cons,List.map_nil,CC,e]
    rw[if_neg hn]
    rfl
  ·cases hx
 ·rename_i hp
  obtain⟨ds,h1,h2⟩:=ade hx
  refine⟨ds,?_,h2⟩
  unfold CC
  split
  ·rename_i v0 he
   have hv:∃v,vs=[v]/\v0=v.er:=by
    match vs,he with
    |[v],he=>simp at he;exact⟨v,rfl,he.symm⟩
   obtain⟨v,rfl,rfl⟩:=hv
   have bj:v.p9=none:=hp
   rw[abJ bj]
   exact h1
  ·exact h1
def Vq (h:Nat->Option SB) (cur:Option (List TD)) (k:List bW->Option ρ):Option ρ:=
 match cur with
 |none=>k []
 |some xs=>match h aK with
  |some (.box cs)=>cP cs.length xs.length (match xk cs with
   |some l=>k [(.ptr,l)]
   |none=>none)
  |_=>none
theorem apc {h:Nat->Option SB} {cur:Option (List TD)} {k:List bW->Option ρ} {r:ρ} (hx:Vq h cur k=some r):
  ∃os:List bW,Cq (cY h) (cur.map cF)=some (cF (os.flatMap (·.2)))/\os.length=(match cur.isSome with|true=>1|false=>0)/\k os=some r:=by
 unfold Vq at hx
 split at hx
 ·exact⟨[],rfl,rfl,hx⟩
 ·rename_i xs
  split at hx
  ·rename_i cs hn
   have he:=(bi hx).1;replace hx:=(bi hx).2
   split at hx
   ·rename_i l hl
    refine⟨[(.ptr,l)],?_,rfl,hx⟩
    simp only[Option.map_some,Cq,cY,hn,SB.er,List.length_map]
    rw[if_pos (by rw[he,cF,List.length_map]),FF hl]
    simp
   ·cases hx
  ·cases hx
end
def Ld (σ:af) (ms:List bC) (cur:Option (List TD)) (aD:ak):Option (aS aD.aR):=
 xp σ ms fun vs=>VB σ.h vs fun ds=>Vq σ.h cur fun os=>oP aD (ds++os)
theorem adi {σ:af} {ms:List bC} {args:ak} {x:aS args.aR} {aD:ak} {y:aS aD.aR} (h:Ld σ ms (rz args x) aD=some y):
  σ.er.CB ms (dd args x)=some (xo (aD.length - pV args) (dd aD y)):=by
 unfold Ld at h
 obtain⟨vs,h1,h2⟩:=FW h
 obtain⟨ds,h3,h4⟩:=aph h2
 obtain⟨os,h5,h6,h7⟩:=apc h4
 have h8:=tB h7
 have hlen:aD.length=ds.length+os.length:=by
  have:=congrArg List.length h8
  rw[DR,List.length_map,List.length_append] at this
  exact this.symm
 have uI:pV args=os.length:=by
  rw[h6,ac6]
  unfold pV
  cases Bo args<;>rfl
 have hk:aD.length - pV args=ds.length:=by omega
 have wc:CC σ.er.h (vs.map SV.er)=some (ds.map bW.er):=h3
 have Jg:Cq σ.er.h (oR (dd args x))=some (cF (os.flatMap (·.2))):=by rw[<-Vr];exact h5
 simp only[St.CB,h1,wc,Jg,hk]
 rw[<-h8,FT,List.take_left,List.drop_left]
def n5 (N:Nat) (T:List aw) (sc:bA) (ms:List bC) (args aD:ak) (x:aS args.aR):Option (aS aD.aR):=
 lK N T sc (Vb args x) (fun σ=>Ld σ ms (rz args x) aD) (fun _ _=>none) (fun σ=>Ld σ ms (rz args x) aD)
theorem aoh {T:List aw} {sc:bA} {ms:List bC} {args aD:ak} {x:aS args.aR} {y:aS aD.aR} (h:n5 aE T sc ms args aD x=some y):
  KK (cQ T) sc.er ms (dd args x)=some (xo (aD.length - pV args) (dd aD y)):=by
 obtain⟨o,h1,h2⟩:=sE sc h
 rw[aoU] at h1
 unfold KK
 rw[h1]
 cases o with
 |fG τ=>
  obtain⟨eF,rfl,h2⟩:=h2
  exact adi h2
 |ret τ=>
  obtain⟨eF,rfl,h2⟩:=h2
  exact adi h2
 |ext i τ=>
  obtain⟨eF,rfl,h2⟩:=h2
  cases h2
def WC (P:Program) (fn:aw):Prop:=(fn.mu.fN=0->du P fn.id fn.M)/\(fn.mu.fN=1->qp P fn.id fn.mu fn.MM)/\(fn.mu.fN=2->kT P fn.id fn.MV)/\(fn.mu.fN=3->WE P fn.id fn.mu.tl fn.MW)/\bD P fn.id=true
def aB (P:Program) (T:List aw):Prop:=∀fn∈T,WC P fn
theorem aB.nil {P:Program}:aB P []:=fun _ h=>by cases h
theorem aB.Ng {P:Program} {fn:aw} {T:List aw} (h:WC P fn) (hT:aB P T):aB P (fn::T):=by
 intro g hg
 cases hg with
 |head=>exact h
 |tail _ hg=>exact hT g hg
theorem aB.cons {P:Program} {f:FuncId} {args aD:ak} {F:aS args.aR->Option (aS aD.aR)} {T:List aw} (h:du P f (aw.M ⟨f,args,[],aD,F⟩)/\bD P f=true) (hT:aB P T):aB P (⟨f,args,[],aD,F⟩::T):=
 aB.Ng ⟨fun _=>h.1,fun hm=>(by cases hm),fun hm=>(by cases hm),fun hm=>(by cases hm),h.2⟩ hT
theorem aB.qx {P:Program} {f:FuncId} {args:ak} {s:List (Option Mode)} {mu:aP} {aD:ak} {F:aS args.aR->Option (aS aD.aR)} {T:List aw} (h:qp P f (s::mu) (aw.MM ⟨f,args,s::mu,aD,F⟩)/\bD P f=true) (hT:aB P T)
  (hk:aP.fN (s::mu)=1:=by rfl):aB P (⟨f,args,s::mu,aD,F⟩::T):=
 aB.Ng ⟨fun hm=>absurd (hk.symm.trans hm) (by decide),fun _=>h.1,fun hm=>absurd (hk.symm.trans hm) (by decide),fun hm=>absurd (hk.symm.trans hm) (by decide),h.2⟩ hT
theorem aB.jV {P:Program} {f:FuncId} {args:ak} {aD:ak} {F:aS args.aR->Option (aS aD.aR)} {T:List aw} (h:kT P f (aw.MV ⟨f,args,[[some .aF]],aD,F⟩)/\bD P f=true) (hT:aB P T):aB P (⟨f,args,[[some .aF]],aD,F⟩::T):=
 aB.Ng ⟨fun hm=>(by cases hm),fun hm=>(by cases hm),fun _=>h.1,fun hm=>(by cases hm),h.2⟩ hT
theorem Lj:∀{T:List aw} {f:FuncId} {M:List Dv->Option (List Dv)},aO.find (cQ T).pure f=some M->∃fn∈T,fn.id=f/\M=fn.M/\fn.mu.fN=0
 |[],f,M,h=>by simp[cQ,aO.find] at h
 |g::l,f,M,h=>by
  simp only[cQ,List.filterMap_cons] at h
  by_cases hg:g.mu.fN=0
  ·simp only[hg,aO.find] at h
   split at h
   ·rename_i e
    injection h with h
    exact⟨g,by simp,e.symm,h.symm,hg⟩
   ·obtain⟨fn,h1,h2,h3⟩:=Lj (T:=l) h
    exact⟨fn,by simp[h1],h2,h3⟩
  ·split at h
   ·obtain⟨fn,h1,h2,h3⟩:=Lj (T:=l) h
    exact⟨fn,by simp[h1],h2,h3⟩
   ·rename_i z hz
    split at hz
    ·rename_i h0;exact absurd h0 hg
    ·cases hz
theorem VR:∀{T:List aw} {f:FuncId} {sig:aP} {M:List Dv->Option (List Dv×List C)},aO.rT (cQ T).Ci f=some (sig,M)->∃fn∈T,fn.id=f/\sig=fn.mu/\M=fn.MM/\fn.mu.fN=1
 |[],f,sig,M,h=>by simp[cQ,aO.rT] at h
 |g::l,f,sig,M,h=>by
  simp only[cQ,List.filterMap_cons] at h
  by_cases hg:g.mu.fN=1
  ·simp only[hg,aO.rT] at h
   split at h
   ·rename_i e
    injection h with h
    injection h with ha hb
    exact⟨g,by simp,e.symm,ha.symm,hb.symm,hg⟩
   ·obtain⟨fn,h1,h2,h3⟩:=VR (T:=l) h
    exact⟨fn,by simp[h1],h2,h3⟩
  ·split at h
   ·obtain⟨fn,h1,h2,h3⟩:=VR (T:=l) h
    exact⟨fn,by simp[h1],h2,h3⟩
   ·rename_i z hz
    split at hz
    ·rename_i h0;exact absurd h0 hg
    ·cases hz
theorem VS:∀{T:List aw} {f:FuncId} {M:List Dv->Option (List Dv×List C)},aO.kw (cQ T).vs f=some M->∃fn∈T,fn.id=f/\M=fn.MV/\fn.mu.fN=2
 |[],f,M,h=>by simp[cQ,aO.kw] at h
 |g::l,f,M,h=>by
  simp only[cQ,List.filterMap_cons] at h
  by_cases hg:g.mu.fN=2
  ·simp only[hg,aO.kw] at h
   split at h
   ·rename_i e
    injection h with h
    exact⟨g,by simp,e.symm,h.symm,hg⟩
   ·obtain⟨fn,h1,h2,h3⟩:=VS (T:=l) h
    exact⟨fn,by simp[h1],h2,h3⟩
  ·split at h
   ·obtain⟨fn,h1,h2,h3⟩:=VS (T:=l) h
    exact⟨fn,by simp[h1],h2,h3⟩
   ·rename_i z hz
    split at hz
    ·rename_i h0;exact absurd h0 hg
    ·cases hz
theorem VT:∀{T:List aw} {f:FuncId} {sig:aP} {M:List Dv->Option (Nat×Nat)},aO.rU (cQ T).ws f=some (sig,M)->∃fn∈T,fn.id=f/\sig=fn.mu.tl/\M=fn.MW/\fn.mu.fN=3
 |[],f,sig,M,h=>by simp[cQ,aO.rU] at h
 |g::l,f,sig,M,h=>by
  simp only[cQ,List.filterMap_cons] at h
  by_cases hg:g.mu.fN=3
  ·simp only[hg,aO.rU] at h
   split at h
   ·rename_i e
    injection h with h
    injection h with ha hb
    exact⟨g,by simp,e.symm,ha.symm,hb.symm,hg⟩
   ·obtain⟨fn,h1,h2,h3⟩:=VT (T:=l) h
    exact⟨fn,by simp[h1],h2,h3⟩
  ·split at h
   ·obtain⟨fn,h1,h2,h3⟩:=VT (T:=l) h
    exact⟨fn,by simp[h1],h2,h3⟩
   ·rename_i z hz
    split at hz
    ·rename_i h0;exact absurd h0 hg
    ·cases hz
theorem aB.tok {P:Program} {T:List aw} (hT:aB P T):oq P (cQ T):=by
 refine⟨fun g M hM=>?_,fun g sig M hM=>?_,fun g M hM=>?_,fun g sig M hM=>?_,fun g M hM=>?_⟩
 ·obtain⟨uj,h1,h2,h3,h4⟩:=Lj hM
  subst h2 h3
  exact(hT uj h1).1 h4
 ·obtain⟨uj,h1,h2,h3,h4,h5⟩:=VR hM
  subst h2 h3 h4
  exact(hT uj h1).2.1 h5
 ·obtain⟨uj,h1,h2,h3,h4⟩:=VS hM
  subst h2 h3
  exact(hT uj h1).2.2.1 h4
 ·obtain⟨uj,h1,h2,h3,h4,h5⟩:=VT hM
  subst h2 h3 h4
  exact(hT uj h1).2.2.2.1 h5
 ·obtain⟨uj,h1,h2,h3,h4⟩:=Lj hM
  subst h2
  exact(hT uj h1).2.2.2.2
def ct (P:Program) (f:FuncId) (mc:lT) (ms:List bC) (n:Nat):Bool:=
 match P.funcs[f]? with
 |some fn=>match fn.body with
  |some c=>jd P fn.ntmps c mc&&nE P fn.results.toList ms&&decide (n<=fn.ntmps)&&(fn.name != "runtime.NumGoroutine")
  |none=>false
 |none=>false
theorem Nb {P:Program} {f:FuncId} {mc:lT} {ms:List bC} {n:Nat} (h:ct P f mc ms n=true):bD P f=true:=by
 unfold ct at h
 unfold bD
 split at h
 ·rename_i fn hf
  split at h
  ·rename_i c hb
   simp only[Bool.and_eq_true] at h
   simp[hf,hb,h.2]
  ·cases h
 ·cases h
theorem dW {P:Program} {T:List aw} (hT:aB P T) (hm:P.follows .mixedOrders=true) {f:FuncId} {sc:bA} {ms:List bC} {args aD:ak} (hc:ct P f sc.er ms args.length=true)
  (F:aS args.aR->Option (aS aD.aR)) (hF:∀x y,F x=some y->dN aE T sc ms args aD x=some y):du P f (aw.M ⟨f,args,[],aD,F⟩)/\bD P f=true:=by
 refine⟨?_,Nb hc⟩
 unfold ct at hc
 split at hc
 ·rename_i fn hf
  split at hc
  ·rename_i c hb
   simp only[Bool.and_eq_true,decide_eq_true_eq] at hc
   refine anD (T:=cQ T) hT.tok hm hf hb hc.1.1.1 hc.1.1.2 fun ds rs hM=>?_
   obtain⟨x,y,h1,h2,h3⟩:=aw.GS hM
   subst h1 h3
   exact⟨by rw[DR];exact hc.1.2,aog (hF x y h2)⟩
  ·cases hc
 ·cases hc
theorem zn {P:Program} {T:List aw} (hT:aB P T) (hm:P.follows .mixedOrders=true) {f:FuncId} {sc:bA} {ms:List bC} {args:ak} {mu:aP} {aD:ak} (hc:ct P f sc.er ms args.length=true)
  (F:aS args.aR->Option (aS aD.aR)) (hF:∀x y,F x=some y->vj aE T sc ms args mu aD x=some y):qp P f mu (aw.MM ⟨f,args,mu,aD,F⟩)/\bD P f=true:=by
 refine⟨?_,Nb hc⟩
 unfold ct at hc
 split at hc
 ·rename_i fn hf
  split at hc
  ·rename_i c hb
   simp only[Bool.and_eq_true,decide_eq_true_eq] at hc
   refine ak7 (T:=cQ T) hT.tok hm hf hb hc.1.1.1 hc.1.1.2 fun ds rs eZ hM=>?_
   unfold aw.MM at hM
   rw[Option.map_eq_some_iff] at hM
   obtain⟨vi,h0,OI⟩:=hM
   obtain⟨x,y,h1,h2,h3⟩:=aw.GS h0
   subst h1 h3
   refine⟨by rw[DR];exact hc.1.2,?_⟩
   rw[<-OI]
   exact aof (hF x y h2)
  ·cases hc
 ·cases hc
theorem qk {P:Program} {T:List aw} (hT:aB P T) (hm:P.follows .mixedOrders=true) {f:FuncId} {sc:bA} {ms:List bC} {args aD:ak} (hc:ct P f sc.er ms args.length=true)
  (F:aS args.aR->Option (aS aD.aR)) (hF:∀x y,F x=some y->n5 aE T sc ms args aD x=some y):kT P f (aw.MV ⟨f,args,[[some .aF]],aD,F⟩)/\bD P f=true:=by
 refine⟨?_,Nb hc⟩
 unfold ct at hc
 split at hc
 ·rename_i fn hf
  split at hc
  ·rename_i c hb
   simp only[Bool.and_eq_true,decide_eq_true_eq] at hc
   refine apW (T:=cQ T) hT.tok hm hf hb hc.1.1.1 hc.1.1.2 fun ds rs out hM=>?_
   unfold aw.MV at hM
   rw[Option.map_eq_some_iff] at hM
   obtain⟨vi,h0,OI⟩:=hM
   obtain⟨x,y,h1,h2,h3⟩:=aw.GS h0
   subst h1 h3
   refine⟨by rw[DR];exact hc.1.2,?_⟩
   rw[<-OI]
   exact aoh (hF x y h2)
  ·cases hc
 ·cases hc
end Go.Am
