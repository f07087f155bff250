/- S7: typed functions as a whole. No condition. -/
import Derived.Test.YthildlkhnnogiaaS6
import Derived.Test.YthildlkhnnogiaaAmY
import Derived.Test.YthildlkhnnogiaaAmZ
set_option linter.unusedVariables false
namespace Go.Am
def FK (k:K) (ts:List Ty) (x:Ty.DL ts):SV:=
 match k with
 |.one=>match Ty.cells ts x with
  |[c]=>.one c
  |_=>.one .aX
 |.agg=>.agg (Ty.cells ts x)
 |.ptr=>.one (.cd ts x 0)
theorem aal (k:K) (ts:List Ty) (x:Ty.DL ts):(FK k ts x).er=yQ (k,Ty.aw ts x):=by
 cases k with
 |one=>
  match ts,x with
  |[],x=>rfl
  |[t],x=>rfl
  |t::u::[],x=>rfl
  |t::u::v::ts,x=>rfl
 |agg=>simp only[FK,SV.er,yQ,Ty.jo]
 |ptr=>rfl
def FX:Nat->(as:aq)->aZ as.aY->(Nat->SV)
 |_,[],_=>fun _=>.one .aX
 |k,[a],x=>ao (fun _=>.one .aX) k (FK a.1 a.2 x)
 |k,a::b::as,x=>ao (FX (k+1) (b::as) x.2) k (FK a.1 a.2 x.1)
theorem aaH:∀(k:Nat) (as:aq) (x:aZ as.aY),qw (FX k as x)=tL k (cF as x)
 |k,[],x=>rfl
 |k,[a],x=>by
  have e:(FK a.1 a.2 x).er=yQ (a.1,Ty.aw a.2 x):=aal a.1 a.2 x
  simp only[FX,cF,tL,uO]
  rw[e]
  rfl
 |k,a::b::as,x=>by
  have ih:=aaH (k+1) (b::as) x.2
  simp only[FX,cF,uO,aal,ih]
  rw[tL]
def TT (as:aq) (x:aZ as.aY):aa:={env:=FX 0 as x,h:=fun _=>none,used:=fun n=>Nat.ble aJ n}
theorem alW (as:aq) (x:aZ as.aY):(TT as x).er=E3 (cF as x):=by
 simp only[TT,aa.er,E3,aaH]
 rfl
section
variable {ρ:Type}
def yj (σ:aa):List bN->(List SV->Option ρ)->Option ρ
 |[],k=>k []
 |.tmp t::ms,k=>yj σ ms fun vs=>k (σ.env t::vs)
 |.cell t sz ag::ms,k=>match σ.env t with
  |.one p=>F0 σ.h p sz fun cs=>yj σ ms fun vs=>k (Ao ag cs::vs)
  |_=>none
theorem F9 {σ:aa}:∀{ms:List bN} {k:List SV->Option ρ} {r:ρ},yj σ ms k=some r->∃vs,σ.er.su ms=some (vs.map SV.er)/\k vs=some r
 |[],k,r,h=>⟨[],rfl,h⟩
 |.tmp t::ms,k,r,h=>by
  simp only[yj] at h
  obtain⟨vs,h1,h2⟩:=F9 h
  exact⟨_,by simp only[St.su,h1];rfl,h2⟩
 |.cell t sz ag::ms,k,r,h=>by
  simp only[yj] at h
  split at h
  ·rename_i p hp
   obtain⟨cs,h1,h2⟩:=TW h
   obtain⟨vs,h3,h4⟩:=F9 h2
   have be:σ.er.env t=.one p.er:=by show(σ.env t).er=_;rw[hp];rfl
   have ii:loadAt σ.er.h p.er sz=some (cs.map SC.er):=h1
   exact⟨_,by simp only[St.su,be,ii,h3,List.map_cons,Db],h4⟩
  ·cases h
def Ua (h:Nat->Option SB) (c:SC) (k:(t:Ty)->t.D->List Nat->Option ρ):Option ρ:=
 match c with
 |.v t x=>da t.dL (k t x [])
 |.nil ts=>match ts with
  |[]=>none
  |t::us=>k (.list (t::us)) ([]:List (Ty.DL (t::us))) []
 |.sl n sz lo len=>match h n with
  |some (.row true m ts xs)=>bH ts.length sz (da m.own (bH lo 0 ((dH xs len).U fun ys=>k (.list ts) ys [n])))
  |_=>none
 |_=>none
theorem al8 {h:Nat->Option SB} {c:SC} {k:(t:Ty)->t.D->List Nat->Option ρ} {r:ρ} (hx:Ua h c k=some r):
  ∃(t:Ty) (x:t.D) (ns:List Nat),kg (cf h) c.er=some (t.er x,ns)/\k t x ns=some r:=by
 unfold Ua at hx
 split at hx
 ·rename_i t x
  have h1:=(bw hx).1;replace hx:=(bw hx).2
  exact⟨t,x,[],by simp only[SC.er,kg,Ty.v9,h1,if_true],hx⟩
 ·split at hx
  ·cases hx
  ·rename_i t us
   exact⟨.list (t::us),[],[],by simp[SC.er,kg,Ty.er],hx⟩
 ·rename_i n sz lo len
  split at hx
  ·rename_i m ts xs hn
   have aQ:=(aH hx).1;replace hx:=(aH hx).2;subst aQ
   have hm:=(bw hx).1;replace hx:=(bw hx).2
   have aQ:=(aH hx).1;replace hx:=(aH hx).2;subst aQ
   rw[cU] at hx
   obtain⟨ys,hw,hx⟩:=hx
   obtain⟨w1,w2⟩:=aby hw
   refine⟨.list ts,ys,[n],?_,hx⟩
   have bm:m≠ .aG:=by rintro rfl;cases hm
   simp only[SC.er,kg,cf,hn,Option.map_some,SB.er,List.length_map,w1,w2,ne_eq,bm,not_false_eq_true,and_self,if_true,Ty.er]
  ·cases hx
 ·cases hx
def KI (h:Nat->Option SB):List SC->(List TD->List Nat->Option ρ)->Option ρ
 |[],k=>k [] []
 |c::cs,k=>Ua h c fun t x ns=>KI h cs fun l jQ=>k (⟨t,x⟩::l) (ns++jQ)
theorem aa7 {h:Nat->Option SB}:∀{cs:List SC} {k:List TD->List Nat->Option ρ} {r:ρ},KI h cs k=some r->
  ∃l ns,ud (cf h) (cs.map SC.er)=some (cg l,ns)/\k l ns=some r
 |[],k,r,hx=>⟨[],[],rfl,hx⟩
 |c::cs,k,r,hx=>by
  simp only[KI] at hx
  obtain⟨t,x,ns,h1,h2⟩:=al8 hx
  obtain⟨l,jQ,h3,h4⟩:=aa7 h2
  exact⟨⟨t,x⟩::l,ns++jQ,by simp[ud,h1,h3,cg],h4⟩
def kOf:Bool->K
 |true=>.agg
 |false=>.one
def Ga (h:Nat->Option SB):List SV->(List bz->List Nat->Option ρ)->Option ρ
 |[],k=>k [] []
 |v::vs,k=>match v.cells? with
  |some (ag,cs)=>KI h cs fun l ns=>Ga h vs fun ds jQ=>k ((kOf ag,l)::ds) (ns++jQ)
  |none=>none
theorem Ub {h:Nat->Option SB}:∀{vs:List SV} {k:List bz->List Nat->Option ρ} {r:ρ},Ga h vs k=some r->
  ∃ds ns,rj (cf h) (vs.map SV.er)=some (ds.map bz.er,ns)/\k ds ns=some r
 |[],k,r,hx=>⟨[],[],rfl,hx⟩
 |v::vs,k,r,hx=>by
  simp only[Ga] at hx
  split at hx
  ·rename_i ag cs hc
   obtain⟨l,ns,h1,h2⟩:=aa7 hx
   obtain⟨ds,jQ,h3,h4⟩:=Ub h2
   refine⟨_,_,?_,h4⟩
   simp only[List.map_cons,rj,SV.jo hc,h1,h3]
   cases ag<;>rfl
  ·cases hx
end
def Fx:List Nat->Bool
 |[]=>true
 |n::l=> !(l.contains n)&&Fx l
theorem Q0:∀{l:List Nat},Fx l=true->l.Nodup
 |[],_=>List.nodup_nil
 |n::l,h=>by
  simp only[Fx,Bool.and_eq_true,Bool.not_eq_true'] at h
  rw[List.nodup_cons]
  refine⟨fun hm=>?_,Q0 h.2⟩
  have:l.contains n=true:=by simpa using hm
  rw[this] at h
  cases h.1
def KH (σ:aa) (ms:List bN) (aB:aq):Option (aZ aB.aY):=
 yj σ ms fun vs=>Ga σ.h vs fun ds ns=>da (Fx ns) (lJ aB ds)
theorem aa6 {σ:aa} {ms:List bN} {aB:aq} {y:aZ aB.aY} (h:KH σ ms aB=some y):σ.er.ub ms=some (cF aB y):=by
 unfold KH at h
 obtain⟨vs,h1,h2⟩:=F9 h
 obtain⟨ds,ns,h3,h4⟩:=Ub h2
 have h5:=(bw h4).1;replace h6:=(bw h4).2
 have w4:rj σ.er.h (vs.map SV.er)=some (ds.map bz.er,ns):=h3
 simp only[St.ub,h1,w4,if_pos (Q0 h5),pQ h6]
def dK (N:Nat) (T:List ar) (sc:bE) (ms:List bN) (args aB:aq) (x:aZ args.aY):Option (aZ aB.aY):=
 kK N T sc (TT args x) (fun σ=>KH σ ms aB) (fun _ _=>none) (fun σ=>KH σ ms aB)
theorem alk {T:List ar} {sc:bE} {ms:List bN} {args aB:aq} {x:aZ args.aY} {y:aZ aB.aY} (h:dK aM T sc ms args aB x=some y):
  Kf (bT T) sc.er ms (cF args x)=some (cF aB y):=by
 obtain⟨o,h1,h2⟩:=sB sc h
 rw[alW] at h1
 unfold Kf
 rw[h1]
 cases o with
 |eF τ=>
  obtain⟨eu,rfl,h2⟩:=h2
  exact aa6 h2
 |ret τ=>
  obtain⟨eu,rfl,h2⟩:=h2
  exact aa6 h2
 |ext i τ=>
  obtain⟨eu,rfl,h2⟩:=h2
  cases h2
theorem DW:∀(as:aq) (x:aZ as.aY),(cF as x).length=as.length
 |[],_=>rfl
 |[a],_=>rfl
 |a::b::as,x=>by simp only[cF,List.length_cons,DW (b::as) x.2]
def pY:Nat->List (Option Mode)->List TD->List SC
 |c,some _::fs,⟨.list ts,xs⟩::l=>.sl (aJ+c) ts.length 0 (J (α:=Ty.DL ts) xs)::pY (c+1) fs l
 |c,some _::fs,⟨.int _,_⟩::l=>.aX::pY (c+1) fs l
 |c,some _::fs,⟨.bool,_⟩::l=>.aX::pY (c+1) fs l
 |c,none::fs,x::l=>.v x.1 x.2::pY c fs l
 |c,[],l=>l.map fun x=>.v x.1 x.2
 |c,_::_,[]=>[]
theorem FI:∀(c:Nat) (fs:List (Option Mode)) (l:List TD),(pY c fs l).map SC.er=gn c fs (cg l)
 |c,some m::fs,⟨.list ts,xs⟩::l=>by
  simp only[pY,cg,List.map_cons,Ty.er,gn,SC.er]
  have:=FI (c+1) fs l
  simp only[cg] at this
  rw[this]
  exact congrArg (fun q=>ab.sl (aJ+c) ts.length 0 q::_) (List.length_map (Ty.aw ts)).symm
 |c,some m::fs,⟨.int k,x⟩::l=>by
  simp only[pY,cg,List.map_cons,Ty.er,gn,SC.er]
  exact congrArg _ (FI (c+1) fs l)
 |c,some m::fs,⟨.bool,x⟩::l=>by
  simp only[pY,cg,List.map_cons,Ty.er,gn,SC.er]
  exact congrArg _ (FI (c+1) fs l)
 |c,none::fs,⟨t,x⟩::l=>by
  simp only[pY,cg,List.map_cons,gn,SC.er]
  exact congrArg _ (FI c fs l)
 |c,[],l=>by
  cases l<;>simp[pY,cg,gn,SC.er]
 |c,some m::fs,[]=>rfl
 |c,none::fs,[]=>rfl
def SH (c:Nat) (s:List (Option Mode)) (ts:List Ty) (x:Ty.DL ts):SC:=
 match s with
 |[]=>.cd ts x 0
 |_::_=>match(Ty.fG ts x).getLast? with
  |some ⟨.list us,l⟩=>.bK ts x 0 (ts.length - 1) (aJ+c) us.length (J l)
  |_=>.aX
theorem aly (c:Nat) (s:List (Option Mode)) (ts:List Ty) (x:Ty.DL ts):(SH c s ts x).er=DC c s (Ty.aw ts x):=by
 cases s with
 |nil=>rfl
 |cons f fs=>
  have h1:Ty.aw ts x=(Ty.fG ts x).map fun y=>y.1.er y.2:=(Ty.n5 ts x).symm
  have h2:(Ty.aw ts x).length=ts.length:=Ty.Bw ts x
  simp only[SH,DC]
  rw[h2,h1,List.getLast?_map]
  cases hl:(Ty.fG ts x).getLast? with
  |none=>rfl
  |some y=>
   obtain⟨t,l⟩:=y
   cases t with
   |list us=>
    simp only[Option.map_some,Ty.er,SC.er,h1,J]
    exact congrArg (ab.bK _ 0 (ts.length - 1) (aJ+c) us.length) (List.length_map (as:=(l:List (Ty.DL us))) (Ty.aw us)).symm
   |int k=>rfl
   |bool=>rfl
def FJ (c:Nat) (s:List (Option Mode)) (d:K×List Ty) (x:Ty.DL d.2):SV:=
 match d.1 with
 |.one=>match pY c s (Ty.fG d.2 x) with
  |[y]=>.one y
  |_=>.one .aX
 |.agg=>.agg (pY c s (Ty.fG d.2 x))
 |.ptr=>.one (SH c s d.2 x)
theorem aak (c:Nat) (s:List (Option Mode)) (d:K×List Ty) (x:Ty.DL d.2):(FJ c s d x).er=oV c s (d.1,Ty.aw d.2 x):=by
 obtain⟨k,ts⟩:=d
 have h:=FI c s (Ty.fG ts x)
 rw[Ty.n5] at h
 cases k with
 |one=>
  simp only[FJ,oV,<-h]
  generalize pY c s (Ty.fG ts x)=l
  match l with
  |[]=>rfl
  |[y]=>rfl
  |_::_::_=>rfl
 |agg=>simp only[FJ,oV,<-h,SV.er]
 |ptr=>exact congrArg ah.one (aly c s ts x)
def FY:Nat->Nat->aN->(as:aq)->aZ as.aY->(Nat->SV)
 |_,_,_,[],_=>fun _=>.one .aX
 |k,c,sig,[a],x=>ao (fun _=>.one .aX) k (FJ c sig.hd a x)
 |k,c,sig,a::b::as,x=>ao (FY (k+1) (c+(dT sig.hd (Ty.fG a.2 x.1)).length) sig.tl (b::as) x.2) k (FJ c sig.hd a x.1)
theorem M3 {α β:Type}:∀(s:List (Option Mode)) (l:List α) (l':List β),l.length=l'.length->(dT s l).length=(dT s l').length
 |some m::fs,x::xs,y::ys,h=>by simp only[dT,List.length_cons,M3 fs xs ys (by simpa using h)]
 |none::fs,x::xs,y::ys,h=>by simp only[dT];exact M3 fs xs ys (by simpa using h)
 |[],l,l',h=>by cases l<;>cases l'<;>rfl
 |some m::fs,[],[],h=>rfl
 |none::fs,[],[],h=>rfl
 |_::_,[],_::_,h=>by simp at h
 |_::_,_::_,[],h=>by simp at h
theorem acY (ts:List Ty) (x:Ty.DL ts):(Ty.fG ts x).length=(Ty.aw ts x).length:=by
 rw[<-Ty.n5,cg,List.length_map]
theorem Yt (k c:Nat) (sig:aN) (d:Dv) (ds:List Dv):lH k c sig (d::ds)=ao (lH (k+1) (c+(dT sig.hd d.2).length) sig.tl ds) k (oV c sig.hd d):=by
 cases sig with
 |nil=>
  have:(dT (aN.hd []) d.2).length=0:=rfl
  rw[this]
  simp only[lH,Nat.add_zero,aN.tl,aN.hd]
 |cons s sig=>rfl
theorem aaF:∀(k c:Nat) (sig:aN) (as:aq) (x:aZ as.aY),qw (FY k c sig as x)=lH k c sig (cF as x)
 |k,c,sig,[],x=>by cases sig<;>rfl
 |k,c,sig,[a],x=>by
  simp only[FY,cF,uO]
  have h:=aak c sig.hd a x
  rw[Yt]
  have e:lH (k+1) (c+(dT sig.hd (Ty.aw a.2 x)).length) sig.tl []=wU:=by
   simp only[lH]
  rw[e]
  exact congrArg (fun v=>ao (qw fun _=>SV.one SC.aX) k v) h
 |k,c,sig,a::b::as,x=>by
  have ih:=aaF (k+1) (c+(dT sig.hd (Ty.fG a.2 x.1)).length) sig.tl (b::as) x.2
  simp only[FY,cF,uO,aak,ih,Yt (ds:=cF (b::as) x.2)]
  rw[M3 sig.hd (Ty.fG a.2 x.1) (Ty.aw a.2 x.1) (acY _ _)]
def CW (sig:aN) (as:aq) (x:aZ as.aY):List (Mode×TD):=dE sig ((fW as x).map (·.2))
theorem TR (sig:aN) (as:aq) (x:aZ as.aY):(CW sig as x).map (fun p=>(p.1,p.2.1.er p.2.2))=dE sig ((cF as x).map (·.2)):=by
 unfold CW
 rw[<-rK,<-IF (fun p:TD=>p.1.er p.2)]
 simp only[List.map_map]
 rfl
def Ue:Mode×TD->Option SB
 |(m,⟨.list ts,xs⟩)=>some (.row false m ts xs)
 |_=>none
theorem ama (p:Mode×TD):(Ue p).map SB.er=mP (p.1,p.2.1.er p.2.2):=by
 obtain⟨m,t,x⟩:=p
 cases t<;>rfl
def C8:List (Mode×TD)->Nat->Option SB
 |[],_=>none
 |p::_,0=>Ue p
 |_::l,n+1=>C8 l n
theorem aba:∀(l:List (Mode×TD)) (n:Nat),C8 l n=(l[n]?).bind Ue
 |[],n=>by simp[C8]
 |p::l,0=>by simp[C8]
 |p::l,n+1=>by simp[C8,aba l n]
def aaD (fl:List (Mode×TD)):Nat->Option SB:=fun n=>match Nat.ble aJ n with
 |true=>C8 fl (Nat.sub n aJ)
 |false=>none
def TU (sig:aN) (as:aq) (x:aZ as.aY):aa:={env:=FY 0 0 sig as x,h:=aaD (CW sig as x),used:=fun n=>Nat.ble aJ n}
theorem alU (sig:aN) (as:aq) (x:aZ as.aY):(TU sig as x).er=Cg sig (cF as x):=by
 simp only[TU,aa.er,Cg,aaF]
 congr 1
 funext n
 simp only[cf,aaD]
 cases hb:Nat.ble aJ n with
 |true=>
  rw[if_pos (Nat.le_of_ble_eq_true hb),<-TR,aba]
  simp only[List.getElem?_map]
  cases (CW sig as x)[n - aJ]? with
  |none=>simp
  |some p=>simp[ama]
 |false=>
  rw[if_neg (fun h=>by rw[Nat.ble_eq_true_of_le h] at hb;cases hb)]
  rfl
def aa.jA (σ:aa):aa:={σ with h:=fun n=>match Nat.ble aJ n with|true=>none|false=>σ.h n}
theorem aa.ajS (σ:aa):σ.jA.er=σ.er.jA:=by
 simp only[aa.jA,aa.er,St.jA]
 congr 1
 funext n
 simp only[cf]
 cases hb:Nat.ble aJ n with
 |true=>rw[if_pos (Nat.le_of_ble_eq_true hb)];rfl
 |false=>rw[if_neg (fun h=>by rw[Nat.ble_eq_true_of_le h] at hb;cases hb)]
section
variable {ρ:Type}
def T0 (σ:aa) (q:Nat) (p:Mode×TD) (k:TD->Option ρ):Option ρ:=
 match p with
 |(m,⟨.list ts,xs⟩)=>match σ.h (aJ+q) with
  |some (.row _ m' us ys)=>da (Mode.beq m' m) (da (Ty.rG us ts) (da (UE m us) ((iS (J ys) (J (α:=Ty.DL ts) xs)).U fun _=>k ⟨.list us,ys⟩)))
  |_=>none
 |_=>none
theorem YE (t:Ty) (x:t.D):(t.er x).qS= !t.dL:=by cases t<;>rfl
theorem YD:∀(ts:List Ty) (x:Ty.DL ts),(Ty.aw ts x).map C.qS=ts.map fun t=> !t.dL
 |[],_=>rfl
 |[t],x=>congrArg (fun b=>[b]) (YE t x)
 |t::u::ts,x=>by
  have:=YD (u::ts) x.2
  simp only[List.map_cons] at this
  simp only[Ty.aw,List.map_cons,YE,this]
theorem YF (ts:List Ty) (xs:List (Ty.DL ts)):(List.map (Ty.aw ts) xs).map (fun e=>e.map C.qS)=List.replicate xs.length (ts.map fun t=> !t.dL):=by
 induction xs with
 |nil=>rfl
 |cons x xs ih=>simp only[List.map_cons,YD,ih,List.length_cons,List.replicate_succ]
theorem al1 {σ:aa} {q:Nat} {p:Mode×TD} {k:TD->Option ρ} {r:ρ} (h:T0 σ q p k=some r):∃o:TD,CC σ.er q (p.1,p.2.1.er p.2.2)=some (o.1.er o.2)/\k o=some r:=by
 unfold T0 at h
 split at h
 ·rename_i m ts xs
  split at h
  ·rename_i gr m' us ys hn
   have h1:=(bw h).1;replace h:=(bw h).2
   have h2:=(bw h).1;replace h:=(bw h).2
   have h3:=(bw h).1;replace h:=(bw h).2
   rw[cU] at h
   obtain⟨_,hs,h⟩:=h
   have hl:J ys=J (α:=Ty.DL ts) xs:=by
    unfold iS at hs
    split at hs
    ·assumption
    ·cases hs
   have h1:=Mode.beq_eq h1
   have h2:=Ty.rH h2
   subst h1 h2
   refine⟨_,?_,h⟩
   have bh:σ.er.h (aJ+q)=some (.row gr m' us.length (List.map (Ty.aw us) ys)):=by simp[aa.er,cf,hn,SB.er]
   have dg:List.length ys=List.length (α:=Ty.DL us) xs:=hl
   have hl1:(List.map (Ty.aw us) ys).length=(List.map (α:=Ty.DL us) (Ty.aw us) xs).length:=(List.length_map _).trans (dg.trans (List.length_map (as:=(xs:List (Ty.DL us))) (Ty.aw us)).symm)
   have vh:(List.map (Ty.aw us) ys).map (fun e=>e.map C.qS)=(List.map (α:=Ty.DL us) (Ty.aw us) xs).map (fun e=>e.map C.qS):=
    (YF us ys).trans ((congrArg (fun n=>List.replicate n _) dg).trans (YF us xs).symm)
   simp only[CC,Ty.er,bh]
   rw[if_pos ⟨trivial,trivial,hl1,WW _ _ _ h3,vh⟩]
  ·cases h
 ·cases h
def KB (σ:aa):Nat->List (Mode×TD)->(List TD->Option ρ)->Option ρ
 |_,[],k=>k []
 |q,p::l,k=>T0 σ q p fun o=>KB σ (q+1) l fun os=>k (o::os)
theorem aaQ {σ:aa}:∀{l:List (Mode×TD)} {q:Nat} {k:List TD->Option ρ} {r:ρ},KB σ q l k=some r->∃os,xQ σ.er q (l.map fun p=>(p.1,p.2.1.er p.2.2))=some (cg os)/\k os=some r
 |[],q,k,r,h=>⟨[],rfl,h⟩
 |p::l,q,k,r,h=>by
  simp only[KB] at h
  obtain⟨o,h1,h2⟩:=al1 h
  obtain⟨os,h3,h4⟩:=aaQ h2
  exact⟨o::os,by simp only[List.map_cons,xQ,h1,h3,cg],h4⟩
end
def KJ (σ:aa) (ms:List bN) (fl:List (Mode×TD)) (kk:Nat) (aB:aq):Option (aZ aB.aY):=
 yj σ.jA ms fun vs=>Ga σ.jA.h vs fun ds ns=>da (Fx ns) (bH ds.length kk (KB σ 0 fl fun os=>lJ aB (ds++os.map fun o=>(.one,[o]))))
theorem aa8 {σ:aa} {ms:List bN} {fl:List (Mode×TD)} {kk:Nat} {aB:aq} {y:aZ aB.aY} (h:KJ σ ms fl kk aB=some y):
  σ.er.CN ms (fl.map fun p=>(p.1,p.2.1.er p.2.2))=some (wh kk (cF aB y)):=by
 unfold KJ at h
 obtain⟨vs,h1,h2⟩:=F9 h
 obtain⟨ds,ns,h3,h4⟩:=Ub h2
 have h5:=(bw h4).1;replace h4:=(bw h4).2
 have h6:=(aH h4).1;replace h4:=(aH h4).2
 obtain⟨os,h7,h8⟩:=aaQ h4
 have w4:rj σ.jA.er.h (vs.map SV.er)=some (ds.map bz.er,ns):=h3
 have hr:σ.er.jA.ub ms=some (ds.map bz.er):=by
  rw[<-aa.ajS]
  simp only[St.ub,h1,w4,if_pos (Q0 h5)]
 simp only[St.CN,hr,h7,<-pQ h8,Ag,<-h6]
 congr 2
 ·rw[List.take_left]
 ·rw[List.drop_left]
  congr 1
  clear h7 h8
  induction os with
  |nil=>rfl
  |cons o os ih=>rw[List.map_cons,List.flatMap_cons,<-ih];rfl
def sx (N:Nat) (T:List ar) (sc:bE) (ms:List bN) (args:aq) (mu:aN) (aB:aq) (x:aZ args.aY):Option (aZ aB.aY):=
 kK N T sc (TU mu args x) (fun σ=>KJ σ ms (CW mu args x) (aB.length - mu.bF) aB) (fun _ _=>none) (fun σ=>KJ σ ms (CW mu args x) (aB.length - mu.bF) aB)
theorem alj {T:List ar} {sc:bE} {ms:List bN} {args:aq} {mu:aN} {aB:aq} {x:aZ args.aY} {y:aZ aB.aY} (h:sx aM T sc ms args mu aB x=some y):
  Kg (bT T) sc.er ms mu (cF args x)=some (wh (aB.length - mu.bF) (cF aB y)):=by
 obtain⟨o,h1,h2⟩:=sB sc h
 rw[alU] at h1
 unfold Kg
 rw[h1]
 cases o with
 |eF τ=>
  obtain⟨eu,rfl,h2⟩:=h2
  simp only[<-TR]
  exact aa8 h2
 |ret τ=>
  obtain⟨eu,rfl,h2⟩:=h2
  simp only[<-TR]
  exact aa8 h2
 |ext i τ=>
  obtain⟨eu,rfl,h2⟩:=h2
  cases h2
def FH (k:K) (ts:List Ty) (x:Ty.DL ts):SV:=
 match k with
 |.one=>match Ty.cells ts x with
  |[c]=>.one c
  |_=>.one .aX
 |.agg=>.agg (Ty.cells ts x)
 |.ptr=>.one (.ptr aJ 0 0 0)
theorem aaj (k:K) (ts:List Ty) (x:Ty.DL ts):(FH k ts x).er=DB (k,Ty.aw ts x):=by
 cases k with
 |one=>
  match ts,x with
  |[],x=>rfl
  |[t],x=>rfl
  |t::u::[],x=>rfl
  |t::u::v::ts,x=>rfl
 |agg=>simp only[FH,SV.er,DB,Ty.jo]
 |ptr=>rfl
def FZ:Nat->(as:aq)->aZ as.aY->(Nat->SV)
 |_,[],_=>fun _=>.one .aX
 |k,[a],x=>ao (fun _=>.one .aX) k (FH a.1 a.2 x)
 |k,a::b::as,x=>ao (FZ (k+1) (b::as) x.2) k (FH a.1 a.2 x.1)
theorem aaG:∀(k:Nat) (as:aq) (x:aZ as.aY),qw (FZ k as x)=tM k (cF as x)
 |k,[],x=>rfl
 |k,[a],x=>by
  have e:(FH a.1 a.2 x).er=DB (a.1,Ty.aw a.2 x):=aaj a.1 a.2 x
  simp only[FZ,cF,tM,uO]
  rw[e]
  rfl
 |k,a::b::as,x=>by
  have ih:=aaG (k+1) (b::as) x.2
  simp only[FZ,cF,uO,aaj,ih]
  rw[tM]
def rm:(as:aq)->aZ as.aY->Option (List TD)
 |[],_=>none
 |[a],x=>match a.1.tO with
  |true=>some (Ty.fG a.2 x)
  |false=>none
 |a::b::as,x=>match a.1.tO with
  |true=>some (Ty.fG a.2 x.1)
  |false=>rm (b::as) x.2
theorem ZR (k:K) (xs:List C) (ds:List Dv):oJ ((k,xs)::ds)=match k.tO with|true=>some xs|false=>oJ ds:=by cases k<;>rfl
theorem Xs (k:K) (ts:List Ty) (as:aq):BM ((k,ts)::as)=match k.tO with|true=>true|false=>BM as:=by cases k<;>rfl
theorem T3:∀(as:aq) (x:aZ as.aY),(rm as x).map cg=oJ (cF as x)
 |[],_=>rfl
 |[(k,ts)],x=>by
  simp only[rm,cF,ZR]
  cases k.tO with
  |true=>exact congrArg some (Ty.n5 ts x)
  |false=>rfl
 |(k,ts)::b::as,x=>by
  simp only[rm,cF,ZR]
  cases k.tO with
  |true=>simp only[Option.map_some];rw[Ty.n5]
  |false=>exact T3 (b::as) x.2
theorem aaZ:∀(as:aq) (x:aZ as.aY),(rm as x).isSome=BM as
 |[],_=>rfl
 |[(k,ts)],x=>by
  simp only[rm,Xs]
  cases k.tO<;>rfl
 |(k,ts)::b::as,x=>by
  simp only[rm]
  rw[Xs]
  cases k.tO with
  |true=>rfl
  |false=>exact aaZ (b::as) x.2
def aaI (as:aq) (x:aZ as.aY):Nat->Option SB:=fun n=>match Nat.beq n aJ with
 |true=>match rm as x with
  |some l=>some (.box (l.map fun y=>.v y.1 y.2))
  |none=>none
 |false=>none
def TV (as:aq) (x:aZ as.aY):aa:={env:=FZ 0 as x,h:=aaI as x,used:=fun n=>Nat.ble aJ n}
theorem alV (as:aq) (x:aZ as.aY):(TV as x).er=E4 (cF as x):=by
 simp only[TV,aa.er,E4,aaG]
 congr 1
 funext n
 simp only[cf,aaI,oy]
 cases Nat.beq n aJ with
 |false=>rfl
 |true=>
  simp only
  rw[<-T3]
  cases rm as x with
  |none=>rfl
  |some l=>simp only[Option.map_some,SB.er,K5]
section
variable {ρ:Type}
def KG (h:Nat->Option SB):List SV->(List bz->Option ρ)->Option ρ
 |[],k=>k []
 |v::vs,k=>match v.cells? with
  |some (ag,cs)=>An h cs fun l=>KG h vs fun ds=>k ((Cm ag,l)::ds)
  |none=>none
theorem aa5 {h:Nat->Option SB}:∀{vs:List SV} {k:List bz->Option ρ} {r:ρ},KG h vs k=some r->∃ds,rh (cf h) (vs.map SV.er)=some (ds.map bz.er)/\k ds=some r
 |[],k,r,hx=>⟨[],rfl,hx⟩
 |v::vs,k,r,hx=>by
  simp only[KG] at hx
  split at hx
  ·rename_i ag cs hc
   obtain⟨l,h1,h2⟩:=Ge hx
   obtain⟨ds,h3,h4⟩:=aa5 h2
   refine⟨_,?_,h4⟩
   simp only[List.map_cons,rh,SV.jo hc,h1,h3,bz.er]
   cases ag<;>rfl
  ·cases hx
def aaY:List SV->Option (Nat×Nat×Nat)
 |[v]=>v.pU
 |_=>none
def Uc (h:Nat->Option SB) (vs:List SV) (k:List bz->Option ρ):Option ρ:=
 match aaY vs with
 |some (n,kk,off)=>match Kl h n kk off with
  |some l=>match Nat.ble aJ n with
   |true=>none
   |false=>k [(.ptr,l)]
  |none=>none
 |none=>KG h vs k
theorem al9 {h:Nat->Option SB} {vs:List SV} {k:List bz->Option ρ} {r:ρ} (hx:Uc h vs k=some r):∃ds,CP (cf h) (vs.map SV.er)=some (ds.map bz.er)/\k ds=some r:=by
 unfold Uc at hx
 split at hx
 ·rename_i n kk off hp
  have hv:∃sz,vs=[.one (.ptr n kk sz off)]:=by
   unfold aaY at hp
   split at hp
   ·obtain⟨sz,rfl⟩:=ZQ hp
    exact⟨sz,rfl⟩
   ·cases hp
  obtain⟨sz,rfl⟩:=hv
  split at hx
  ·rename_i l hl
   split at hx
   ·cases hx
   ·rename_i hb
    refine⟨_,?_,hx⟩
    have e:=aam (sz:=sz) hl
    have hn:¬aJ<=n:=fun fb=>by rw[Nat.ble_eq_true_of_le fb] at hb;cases hb
    simp only[List.map_cons,List.map_nil,CP,e]
    rw[if_neg hn]
    rfl
  ·cases hx
 ·rename_i hp
  obtain⟨ds,h1,h2⟩:=aa5 hx
  refine⟨ds,?_,h2⟩
  unfold CP
  split
  ·rename_i v0 he
   have hv:∃v,vs=[v]/\v0=v.er:=by
    match vs,he with
    |[v],he=>simp at he;exact⟨v,rfl,he.symm⟩
   obtain⟨v,rfl,rfl⟩:=hv
   have be:v.pU=none:=hp
   rw[ZP be]
   exact h1
  ·exact h1
def T1 (h:Nat->Option SB) (cur:Option (List TD)) (k:List bz->Option ρ):Option ρ:=
 match cur with
 |none=>k []
 |some xs=>match h aJ with
  |some (.box cs)=>bH cs.length xs.length (match yb cs with
   |some l=>k [(.ptr,l)]
   |none=>none)
  |_=>none
theorem al2 {h:Nat->Option SB} {cur:Option (List TD)} {k:List bz->Option ρ} {r:ρ} (hx:T1 h cur k=some r):
  ∃os:List bz,CD (cf h) (cur.map cg)=some (cg (os.flatMap (·.2)))/\os.length=(match cur.isSome with|true=>1|false=>0)/\k os=some r:=by
 unfold T1 at hx
 split at hx
 ·exact⟨[],rfl,rfl,hx⟩
 ·rename_i xs
  split at hx
  ·rename_i cs hn
   have he:=(aH hx).1;replace hx:=(aH hx).2
   split at hx
   ·rename_i l hl
    refine⟨[(.ptr,l)],?_,rfl,hx⟩
    simp only[Option.map_some,CD,cf,hn,SB.er,List.length_map]
    rw[if_pos (by rw[he,cg,List.length_map]),FV hl]
    simp
   ·cases hx
  ·cases hx
end
def KK (σ:aa) (ms:List bN) (cur:Option (List TD)) (aB:aq):Option (aZ aB.aY):=
 yj σ ms fun vs=>Uc σ.h vs fun ds=>T1 σ.h cur fun os=>lJ aB (ds++os)
theorem aa9 {σ:aa} {ms:List bN} {args:aq} {x:aZ args.aY} {aB:aq} {y:aZ aB.aY} (h:KK σ ms (rm args x) aB=some y):
  σ.er.CO ms (cF args x)=some (wh (aB.length - pT args) (cF aB y)):=by
 unfold KK at h
 obtain⟨vs,h1,h2⟩:=F9 h
 obtain⟨ds,h3,h4⟩:=al9 h2
 obtain⟨os,h5,h6,h7⟩:=al2 h4
 have h8:=pQ h7
 have hlen:aB.length=ds.length+os.length:=by
  have:=congrArg List.length h8
  rw[DW,List.length_map,List.length_append] at this
  exact this.symm
 have od:pT args=os.length:=by
  rw[h6,aaZ]
  unfold pT
  cases BM args<;>rfl
 have hk:aB.length - pT args=ds.length:=by omega
 have w4:CP σ.er.h (vs.map SV.er)=some (ds.map bz.er):=h3
 have IQ:CD σ.er.h (oJ (cF args x))=some (cg (os.flatMap (·.2))):=by rw[<-T3];exact h5
 simp only[St.CO,h1,w4,IQ,hk]
 rw[<-h8,Ag,List.take_left,List.drop_left]
def Ki (N:Nat) (T:List ar) (sc:bE) (ms:List bN) (args aB:aq) (x:aZ args.aY):Option (aZ aB.aY):=
 kK N T sc (TV args x) (fun σ=>KK σ ms (rm args x) aB) (fun _ _=>none) (fun σ=>KK σ ms (rm args x) aB)
theorem alm {T:List ar} {sc:bE} {ms:List bN} {args aB:aq} {x:aZ args.aY} {y:aZ aB.aY} (h:Ki aM T sc ms args aB x=some y):
  Kh (bT T) sc.er ms (cF args x)=some (wh (aB.length - pT args) (cF aB y)):=by
 obtain⟨o,h1,h2⟩:=sB sc h
 rw[alV] at h1
 unfold Kh
 rw[h1]
 cases o with
 |eF τ=>
  obtain⟨eu,rfl,h2⟩:=h2
  exact aa9 h2
 |ret τ=>
  obtain⟨eu,rfl,h2⟩:=h2
  exact aa9 h2
 |ext i τ=>
  obtain⟨eu,rfl,h2⟩:=h2
  cases h2
def U8 (P:Program) (fn:ar):Prop:=(fn.mu.dX=0->de P fn.id fn.M)/\(fn.mu.dX=1->nQ P fn.id fn.mu fn.MM)/\(fn.mu.dX=2->yO P fn.id fn.MV)/\(fn.mu.dX=3->U9 P fn.id fn.mu.tl fn.MW)/\(fn.mu.dX=4->Va P fn.id fn.mu.nP fn.MX)/\(fn.mu.dX=5->GQ P fn.id fn.M)/\bJ P fn.id=true
def aO (P:Program) (T:List ar):Prop:=∀fn∈T,U8 P fn
theorem aO.nil {P:Program}:aO P []:=fun _ h=>by cases h
theorem aO.My {P:Program} {fn:ar} {T:List ar} (h:U8 P fn) (hT:aO P T):aO P (fn::T):=by
 intro g hg
 cases hg with
 |head=>exact h
 |tail _ hg=>exact hT g hg
theorem aO.cons {P:Program} {f:FuncId} {args aB:aq} {F:aZ args.aY->Option (aZ aB.aY)} {T:List ar} (h:de P f (ar.M ⟨f,args,[],aB,F⟩)/\bJ P f=true) (hT:aO P T):aO P (⟨f,args,[],aB,F⟩::T):=
 aO.My ⟨fun _=>h.1,fun hm=>(by cases hm),fun hm=>(by cases hm),fun hm=>(by cases hm),fun hm=>(by cases hm),fun hm=>(by cases hm),h.2⟩ hT
theorem aO.n4 {P:Program} {f:FuncId} {args:aq} {s:List (Option Mode)} {mu:aN} {aB:aq} {F:aZ args.aY->Option (aZ aB.aY)} {T:List ar} (h:nQ P f (s::mu) (ar.MM ⟨f,args,s::mu,aB,F⟩)/\bJ P f=true) (hT:aO P T)
  (hk:aN.dX (s::mu)=1:=by rfl):aO P (⟨f,args,s::mu,aB,F⟩::T):=
 aO.My ⟨fun hm=>absurd (hk.symm.trans hm) (by decide),fun _=>h.1,fun hm=>absurd (hk.symm.trans hm) (by decide),fun hm=>absurd (hk.symm.trans hm) (by decide),fun hm=>absurd (hk.symm.trans hm) (by decide),fun hm=>absurd (hk.symm.trans hm) (by decide),h.2⟩ hT
theorem aO.VW {P:Program} {f:FuncId} {args:aq} {aB:aq} {F:aZ args.aY->Option (aZ aB.aY)} {T:List ar} (h:yO P f (ar.MV ⟨f,args,[[some .aG]],aB,F⟩)/\bJ P f=true) (hT:aO P T):aO P (⟨f,args,[[some .aG]],aB,F⟩::T):=
 aO.My ⟨fun hm=>(by cases hm),fun hm=>(by cases hm),fun _=>h.1,fun hm=>(by cases hm),fun hm=>(by cases hm),fun hm=>(by cases hm),h.2⟩ hT
theorem Uw:∀{T:List ar} {f:FuncId} {M:List Dv->Option (List Dv)},aF.find (bT T).ns f=some M->∃fn∈T,fn.id=f/\M=fn.M/\fn.mu.dX=5
 |[],f,M,h=>by simp[bT,aF.find] at h
 |g::l,f,M,h=>by
  simp only[bT,List.filterMap_cons] at h
  by_cases hg:g.mu.dX=5
  ·simp only[hg,aF.find] at h
   split at h
   ·rename_i e
    injection h with h
    exact⟨g,by simp,e.symm,h.symm,hg⟩
   ·obtain⟨fn,h1,h2,h3⟩:=Uw (T:=l) h
    exact⟨fn,by simp[h1],h2,h3⟩
  ·split at h
   ·obtain⟨fn,h1,h2,h3⟩:=Uw (T:=l) h
    exact⟨fn,by simp[h1],h2,h3⟩
   ·rename_i z hz
    split at hz
    ·rename_i h0;exact absurd h0 hg
    ·cases hz
theorem KT:∀{T:List ar} {f:FuncId} {M:List Dv->Option (List Dv)},aF.find (bT T).pure f=some M->∃fn∈T,fn.id=f/\M=fn.M/\fn.mu.dX=0
 |[],f,M,h=>by simp[bT,aF.find] at h
 |g::l,f,M,h=>by
  simp only[bT,List.filterMap_cons] at h
  by_cases hg:g.mu.dX=0
  ·simp only[hg,aF.find] at h
   split at h
   ·rename_i e
    injection h with h
    exact⟨g,by simp,e.symm,h.symm,hg⟩
   ·obtain⟨fn,h1,h2,h3⟩:=KT (T:=l) h
    exact⟨fn,by simp[h1],h2,h3⟩
  ·split at h
   ·obtain⟨fn,h1,h2,h3⟩:=KT (T:=l) h
    exact⟨fn,by simp[h1],h2,h3⟩
   ·rename_i z hz
    split at hz
    ·rename_i h0;exact absurd h0 hg
    ·cases hz
theorem Uv:∀{T:List ar} {f:FuncId} {sig:aN} {M:List Dv->Option (List Dv×List C)},aF.me (bT T).tZ f=some (sig,M)->∃fn∈T,fn.id=f/\sig=fn.mu/\M=fn.MM/\fn.mu.dX=1
 |[],f,sig,M,h=>by simp[bT,aF.me] at h
 |g::l,f,sig,M,h=>by
  simp only[bT,List.filterMap_cons] at h
  by_cases hg:g.mu.dX=1
  ·simp only[hg,aF.me] at h
   split at h
   ·rename_i e
    injection h with h
    injection h with ha hb
    exact⟨g,by simp,e.symm,ha.symm,hb.symm,hg⟩
   ·obtain⟨fn,h1,h2,h3⟩:=Uv (T:=l) h
    exact⟨fn,by simp[h1],h2,h3⟩
  ·split at h
   ·obtain⟨fn,h1,h2,h3⟩:=Uv (T:=l) h
    exact⟨fn,by simp[h1],h2,h3⟩
   ·rename_i z hz
    split at hz
    ·rename_i h0;exact absurd h0 hg
    ·cases hz
theorem Ux:∀{T:List ar} {f:FuncId} {M:List Dv->Option (List Dv×List C)},aF.jY (bT T).vs f=some M->∃fn∈T,fn.id=f/\M=fn.MV/\fn.mu.dX=2
 |[],f,M,h=>by simp[bT,aF.jY] at h
 |g::l,f,M,h=>by
  simp only[bT,List.filterMap_cons] at h
  by_cases hg:g.mu.dX=2
  ·simp only[hg,aF.jY] at h
   split at h
   ·rename_i e
    injection h with h
    exact⟨g,by simp,e.symm,h.symm,hg⟩
   ·obtain⟨fn,h1,h2,h3⟩:=Ux (T:=l) h
    exact⟨fn,by simp[h1],h2,h3⟩
  ·split at h
   ·obtain⟨fn,h1,h2,h3⟩:=Ux (T:=l) h
    exact⟨fn,by simp[h1],h2,h3⟩
   ·rename_i z hz
    split at hz
    ·rename_i h0;exact absurd h0 hg
    ·cases hz
theorem Uy:∀{T:List ar} {f:FuncId} {sig:aN} {M:List Dv->Option (Nat×Nat)},aF.rN (bT T).ws f=some (sig,M)->∃fn∈T,fn.id=f/\sig=fn.mu.tl/\M=fn.MW/\fn.mu.dX=3
 |[],f,sig,M,h=>by simp[bT,aF.rN] at h
 |g::l,f,sig,M,h=>by
  simp only[bT,List.filterMap_cons] at h
  by_cases hg:g.mu.dX=3
  ·simp only[hg,aF.rN] at h
   split at h
   ·rename_i e
    injection h with h
    injection h with ha hb
    exact⟨g,by simp,e.symm,ha.symm,hb.symm,hg⟩
   ·obtain⟨fn,h1,h2,h3⟩:=Uy (T:=l) h
    exact⟨fn,by simp[h1],h2,h3⟩
  ·split at h
   ·obtain⟨fn,h1,h2,h3⟩:=Uy (T:=l) h
    exact⟨fn,by simp[h1],h2,h3⟩
   ·rename_i z hz
    split at hz
    ·rename_i h0;exact absurd h0 hg
    ·cases hz
theorem Uz:∀{T:List ar} {f:FuncId} {sig:Nat} {M:List Dv->Option (List Dv×List C)},aF.rO (bT T).xs f=some (sig,M)->∃fn∈T,fn.id=f/\sig=fn.mu.nP/\M=fn.MX/\fn.mu.dX=4
 |[],f,sig,M,h=>by simp[bT,aF.rO] at h
 |g::l,f,sig,M,h=>by
  simp only[bT,List.filterMap_cons] at h
  by_cases hg:g.mu.dX=4
  ·simp only[hg,aF.rO] at h
   split at h
   ·rename_i e
    injection h with h
    injection h with ha hb
    exact⟨g,by simp,e.symm,ha.symm,hb.symm,hg⟩
   ·obtain⟨fn,h1,h2,h3⟩:=Uz (T:=l) h
    exact⟨fn,by simp[h1],h2,h3⟩
  ·split at h
   ·obtain⟨fn,h1,h2,h3⟩:=Uz (T:=l) h
    exact⟨fn,by simp[h1],h2,h3⟩
   ·rename_i z hz
    split at hz
    ·rename_i h0;exact absurd h0 hg
    ·cases hz
theorem aO.tok {P:Program} {T:List ar} (hT:aO P T):jn P (bT T):=by
 refine⟨fun g M hM=>?_,fun g sig M hM=>?_,fun g M hM=>?_,⟨fun g sig M hM=>?_,fun g sig M hM=>?_⟩,fun g M hM=>?_,fun g M hM=>?_⟩
 ·obtain⟨pg,h1,h2,h3,h4⟩:=KT hM
  subst h2 h3
  exact(hT pg h1).1 h4
 ·obtain⟨pg,h1,h2,h3,h4,h5⟩:=Uv hM
  subst h2 h3 h4
  exact(hT pg h1).2.1 h5
 ·obtain⟨pg,h1,h2,h3,h4⟩:=Ux hM
  subst h2 h3
  exact(hT pg h1).2.2.1 h4
 ·obtain⟨pg,h1,h2,h3,h4,h5⟩:=Uy hM
  subst h2 h3 h4
  exact(hT pg h1).2.2.2.1 h5
 ·obtain⟨pg,h1,h2,h3,h4,h5⟩:=Uz hM
  subst h2 h3 h4
  exact(hT pg h1).2.2.2.2.1 h5
 ·obtain⟨pg,h1,h2,h3,h4⟩:=Uw hM
  subst h2 h3
  exact(hT pg h1).2.2.2.2.2.1 h4
 ·obtain⟨pg,h1,h2,h3,h4⟩:=KT hM
  subst h2
  exact(hT pg h1).2.2.2.2.2.2
def cC (P:Program) (f:FuncId) (mc:kR) (ms:List bN) (n:Nat):Bool:=
 match P.funcs[f]? with
 |some fn=>match fn.body with
  |some c=>ic P fn.ntmps c mc&&m6 P fn.results.toList ms&&decide (n<=fn.ntmps)&&(fn.name != "runtime.NumGoroutine")
  |none=>false
 |none=>false
theorem Mq {P:Program} {f:FuncId} {mc:kR} {ms:List bN} {n:Nat} (h:cC P f mc ms n=true):bJ P f=true:=by
 unfold cC at h
 unfold bJ
 split at h
 ·rename_i fn hf
  split at h
  ·rename_i c hb
   simp only[Bool.and_eq_true] at h
   simp[hf,hb,h.2]
  ·cases h
 ·cases h
theorem dV {P:Program} {T:List ar} (hT:aO P T) (hm:P.follows .mixedOrders=true) {f:FuncId} {sc:bE} {ms:List bN} {args aB:aq} (hc:cC P f sc.er ms args.length=true)
  (F:aZ args.aY->Option (aZ aB.aY)) (hF:∀x y,F x=some y->dK aM T sc ms args aB x=some y):de P f (ar.M ⟨f,args,[],aB,F⟩)/\bJ P f=true:=by
 refine⟨?_,Mq hc⟩
 unfold cC at hc
 split at hc
 ·rename_i fn hf
  split at hc
  ·rename_i c hb
   simp only[Bool.and_eq_true,decide_eq_true_eq] at hc
   refine akR (T:=bT T) hT.tok hm hf hb hc.1.1.1 hc.1.1.2 fun ds rs hM=>?_
   obtain⟨x,y,h1,h2,h3⟩:=ar.LP hM
   subst h1 h3
   exact⟨by rw[DW];exact hc.1.2,alk (hF x y h2)⟩
  ·cases hc
 ·cases hc
theorem vR {P:Program} {T:List ar} (hT:aO P T) (hm:P.follows .mixedOrders=true) {f:FuncId} {sc:bE} {ms:List bN} {args:aq} {mu:aN} {aB:aq} (hc:cC P f sc.er ms args.length=true)
  (F:aZ args.aY->Option (aZ aB.aY)) (hF:∀x y,F x=some y->sx aM T sc ms args mu aB x=some y):nQ P f mu (ar.MM ⟨f,args,mu,aB,F⟩)/\bJ P f=true:=by
 refine⟨?_,Mq hc⟩
 unfold cC at hc
 split at hc
 ·rename_i fn hf
  split at hc
  ·rename_i c hb
   simp only[Bool.and_eq_true,decide_eq_true_eq] at hc
   refine aiQ (T:=bT T) hT.tok hm hf hb hc.1.1.1 hc.1.1.2 fun ds rs cM hM=>?_
   unfold ar.MM at hM
   rw[Option.map_eq_some_iff] at hM
   obtain⟨kJ,h0,NZ⟩:=hM
   obtain⟨x,y,h1,h2,h3⟩:=ar.LP h0
   subst h1 h3
   refine⟨by rw[DW];exact hc.1.2,?_⟩
   rw[<-NZ]
   exact alj (hF x y h2)
  ·cases hc
 ·cases hc
theorem abM {P:Program} {T:List ar} (hT:aO P T) (hm:P.follows .mixedOrders=true) {f:FuncId} {sc:bE} {ms:List bN} {args aB:aq} (hc:cC P f sc.er ms args.length=true)
  (F:aZ args.aY->Option (aZ aB.aY)) (hF:∀x y,F x=some y->Ki aM T sc ms args aB x=some y):yO P f (ar.MV ⟨f,args,[[some .aG]],aB,F⟩)/\bJ P f=true:=by
 refine⟨?_,Mq hc⟩
 unfold cC at hc
 split at hc
 ·rename_i fn hf
  split at hc
  ·rename_i c hb
   simp only[Bool.and_eq_true,decide_eq_true_eq] at hc
   refine amJ (T:=bT T) hT.tok hm hf hb hc.1.1.1 hc.1.1.2 fun ds rs out hM=>?_
   unfold ar.MV at hM
   rw[Option.map_eq_some_iff] at hM
   obtain⟨kJ,h0,NZ⟩:=hM
   obtain⟨x,y,h1,h2,h3⟩:=ar.LP h0
   subst h1 h3
   refine⟨by rw[DW];exact hc.1.2,?_⟩
   rw[<-NZ]
   exact alm (hF x y h2)
  ·cases hc
 ·cases hc
end Go.Am
