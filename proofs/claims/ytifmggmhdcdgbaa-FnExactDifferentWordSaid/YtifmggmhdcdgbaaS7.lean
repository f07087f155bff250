/- S7: typed functions as a whole. No condition. -/
import Derived.Test.YtifmggmhdcdgbaaS6
set_option linter.unusedVariables false
namespace Go.Am
def EG (k:K) (ts:List Ty) (x:Ty.DL ts):SV:=
 match k with
 |.one=>match Ty.cells ts x with
  |[c]=>.one c
  |_=>.one .bg
 |.agg=>.agg (Ty.cells ts x)
 |.ptr=>.one (.bT ts x 0)
theorem aaz (k:K) (ts:List Ty) (x:Ty.DL ts):(EG k ts x).er=xu (k,Ty.aF ts x):=by
 cases k with
 |one=>
  match ts,x with
  |[],x=>rfl
  |[t],x=>rfl
  |t::u::[],x=>rfl
  |t::u::v::ts,x=>rfl
 |agg=>simp only[EG,SV.er,xu,Ty.lC]
 |ptr=>rfl
def EJ:Nat->(as:ao)->aQ as.aP->(Nat->SV)
 |_,[],_=>fun _=>.one .bg
 |k,[a],x=>av (fun _=>.one .bg) k (EG a.1 a.2 x)
 |k,a::b::as,x=>av (EJ (k+1) (b::as) x.2) k (EG a.1 a.2 x.1)
theorem aaS:∀(k:Nat) (as:ao) (x:aQ as.aP),pj (EJ k as x)=si k (cH as x)
 |k,[],x=>rfl
 |k,[a],x=>by
  have e:(EG a.1 a.2 x).er=xu (a.1,Ty.aF a.2 x):=aaz a.1 a.2 x
  simp only[EJ,cH,si,vo]
  rw[e]
  rfl
 |k,a::b::as,x=>by
  have ih:=aaS (k+1) (b::as) x.2
  simp only[EJ,cH,vo,aaz,ih]
  rw[si]
def TK (as:ao) (x:aQ as.aP):af:={env:=EJ 0 as x,h:=fun _=>none,used:=fun n=>Nat.ble aJ n}
theorem anE (as:ao) (x:aQ as.aP):(TK as x).er=DN (cH as x):=by
 simp only[TK,af.er,DN,aaS]
 rfl
section
variable {ρ:Type}
def wR (σ:af):List bx->(List SV->Option ρ)->Option ρ
 |[],k=>k []
 |.tmp t::ms,k=>wR σ ms fun vs=>k (σ.env t::vs)
 |.cell t sz ag::ms,k=>match σ.env t with
  |.one p=>EN σ.h p sz fun cs=>wR σ ms fun vs=>k (y9 ag cs::vs)
  |_=>none
theorem EU {σ:af}:∀{ms:List bx} {k:List SV->Option ρ} {r:ρ},wR σ ms k=some r->∃vs,σ.er.rl ms=some (vs.map SV.er)/\k vs=some r
 |[],k,r,h=>⟨[],rfl,h⟩
 |.tmp t::ms,k,r,h=>by
  simp only[wR] at h
  obtain⟨vs,h1,h2⟩:=EU h
  exact⟨_,by simp only[St.rl,h1];rfl,h2⟩
 |.cell t sz ag::ms,k,r,h=>by
  simp only[wR] at h
  split at h
  ·rename_i p hp
   obtain⟨cs,h1,h2⟩:=TN h
   obtain⟨vs,h3,h4⟩:=EU h2
   have bc:σ.er.env t=.one p.er:=by show(σ.env t).er=_;rw[hp];rfl
   have je:loadAt σ.er.h p.er sz=some (cs.map SC.er):=h1
   exact⟨_,by simp only[St.rl,bc,je,h3,List.map_cons,B1],h4⟩
  ·cases h
def T2 (h:Nat->Option SB) (c:SC) (k:(t:Ty)->t.D->List Nat->Option ρ):Option ρ:=
 match c with
 |.v t x=>ef t.dR (k t x [])
 |.nil ts=>match ts with
  |[]=>none
  |t::us=>k (.list (t::us)) ([]:List (Ty.DL (t::us))) []
 |.sl n sz lo len=>match h n with
  |some (.row true m ts xs)=>ct ts.length sz (ef m.own (ct lo 0 ((cP xs len).U fun ys=>k (.list ts) ys [n])))
  |_=>none
 |_=>none
theorem anO {h:Nat->Option SB} {c:SC} {k:(t:Ty)->t.D->List Nat->Option ρ} {r:ρ} (hx:T2 h c k=some r):
  ∃(t:Ty) (x:t.D) (ns:List Nat),ky (cD h) c.er=some (t.er x,ns)/\k t x ns=some r:=by
 unfold T2 at hx
 split at hx
 ·rename_i t x
  have h1:=(bQ hx).1;replace hx:=(bQ hx).2
  exact⟨t,x,[],by simp only[SC.er,ky,Ty.wM,h1,if_true],hx⟩
 ·split at hx
  ·cases hx
  ·rename_i t us
   exact⟨.list (t::us),[],[],by simp[SC.er,ky,Ty.er],hx⟩
 ·rename_i n sz lo len
  split at hx
  ·rename_i m ts xs hn
   have bk:=(ba hx).1;replace hx:=(ba hx).2;subst bk
   have hm:=(bQ hx).1;replace hx:=(bQ hx).2
   have bk:=(ba hx).1;replace hx:=(ba hx).2;subst bk
   rw[eC] at hx
   obtain⟨ys,hw,hx⟩:=hx
   obtain⟨w1,w2⟩:=abL hw
   refine⟨.list ts,ys,[n],?_,hx⟩
   have bz:m≠ .aE:=by rintro rfl;cases hm
   simp only[SC.er,ky,cD,hn,Option.map_some,SB.er,List.length_map,w1,w2,ne_eq,bz,not_false_eq_true,and_self,if_true,Ty.er]
  ·cases hx
 ·cases hx
def Kr (h:Nat->Option SB):List SC->(List TD->List Nat->Option ρ)->Option ρ
 |[],k=>k [] []
 |c::cs,k=>T2 h c fun t x ns=>Kr h cs fun l jr=>k (⟨t,x⟩::l) (ns++jr)
theorem abg {h:Nat->Option SB}:∀{cs:List SC} {k:List TD->List Nat->Option ρ} {r:ρ},Kr h cs k=some r->
  ∃l ns,sY (cD h) (cs.map SC.er)=some (bV l,ns)/\k l ns=some r
 |[],k,r,hx=>⟨[],[],rfl,hx⟩
 |c::cs,k,r,hx=>by
  simp only[Kr] at hx
  obtain⟨t,x,ns,h1,h2⟩:=anO hx
  obtain⟨l,jr,h3,h4⟩:=abg h2
  exact⟨⟨t,x⟩::l,ns++jr,by simp[sY,h1,h3,bV],h4⟩
def kOf:Bool->K
 |true=>.agg
 |false=>.one
def EV (h:Nat->Option SB):List SV->(List bJ->List Nat->Option ρ)->Option ρ
 |[],k=>k [] []
 |v::vs,k=>match v.cells? with
  |some (ag,cs)=>Kr h cs fun l ns=>EV h vs fun ds jr=>k ((kOf ag,l)::ds) (ns++jr)
  |none=>none
theorem T3 {h:Nat->Option SB}:∀{vs:List SV} {k:List bJ->List Nat->Option ρ} {r:ρ},EV h vs k=some r->
  ∃ds ns,qb (cD h) (vs.map SV.er)=some (ds.map bJ.er,ns)/\k ds ns=some r
 |[],k,r,hx=>⟨[],[],rfl,hx⟩
 |v::vs,k,r,hx=>by
  simp only[EV] at hx
  split at hx
  ·rename_i ag cs hc
   obtain⟨l,ns,h1,h2⟩:=abg hx
   obtain⟨ds,jr,h3,h4⟩:=T3 h2
   refine⟨_,_,?_,h4⟩
   simp only[List.map_cons,qb,SV.lC hc,h1,h3]
   cases ag<;>rfl
  ·cases hx
end
def El:List Nat->Bool
 |[]=>true
 |n::l=> !(l.contains n)&&El l
theorem QW:∀{l:List Nat},El l=true->l.Nodup
 |[],_=>List.nodup_nil
 |n::l,h=>by
  simp only[El,Bool.and_eq_true,Bool.not_eq_true'] at h
  rw[List.nodup_cons]
  refine⟨fun hm=>?_,QW h.2⟩
  have:l.contains n=true:=by simpa using hm
  rw[this] at h
  cases h.1
def Kq (σ:af) (ms:List bx) (aB:ao):Option (aQ aB.aP):=
 wR σ ms fun vs=>EV σ.h vs fun ds ns=>ef (El ns) (pT aB ds)
theorem abf {σ:af} {ms:List bx} {aB:ao} {y:aQ aB.aP} (h:Kq σ ms aB=some y):σ.er.sW ms=some (cH aB y):=by
 unfold Kq at h
 obtain⟨vs,h1,h2⟩:=EU h
 obtain⟨ds,ns,h3,h4⟩:=T3 h2
 have h5:=(bQ h4).1;replace h6:=(bQ h4).2
 have vu:qb σ.er.h (vs.map SV.er)=some (ds.map bJ.er,ns):=h3
 simp only[St.sW,h1,vu,if_pos (QW h5),wv h6]
def cW (N:Nat) (T:List aG) (sc:bt) (ms:List bx) (args aB:ao) (x:aQ args.aP):Option (aQ aB.aP):=
 kA N T sc (TK args x) (fun σ=>Kq σ ms aB) (fun _ _=>none) (fun σ=>Kq σ ms aB)
theorem am6 {T:List aG} {sc:bt} {ms:List bx} {args aB:ao} {x:aQ args.aP} {y:aQ aB.aP} (h:cW aD T sc ms args aB x=some y):
  J1 (cY T) sc.er ms (cH args x)=some (cH aB y):=by
 obtain⟨o,h1,h2⟩:=rp sc h
 rw[anE] at h1
 unfold J1
 rw[h1]
 cases o with
 |fe τ=>
  obtain⟨dI,rfl,h2⟩:=h2
  exact abf h2
 |ret τ=>
  obtain⟨dI,rfl,h2⟩:=h2
  exact abf h2
 |ext i τ=>
  obtain⟨dI,rfl,h2⟩:=h2
  cases h2
theorem CI:∀(as:ao) (x:aQ as.aP),(cH as x).length=as.length
 |[],_=>rfl
 |[a],_=>rfl
 |a::b::as,x=>by simp only[cH,List.length_cons,CI (b::as) x.2]
def oV:Nat->List (Option Mode)->List TD->List SC
 |c,some _::fs,⟨.list ts,xs⟩::l=>.sl (aJ+c) ts.length 0 (J (α:=Ty.DL ts) xs)::oV (c+1) fs l
 |c,some _::fs,⟨.int _,_⟩::l=>.bg::oV (c+1) fs l
 |c,some _::fs,⟨.bool,_⟩::l=>.bg::oV (c+1) fs l
 |c,none::fs,x::l=>.v x.1 x.2::oV c fs l
 |c,[],l=>l.map fun x=>.v x.1 x.2
 |c,_::_,[]=>[]
theorem EE:∀(c:Nat) (fs:List (Option Mode)) (l:List TD),(oV c fs l).map SC.er=fR c fs (bV l)
 |c,some m::fs,⟨.list ts,xs⟩::l=>by
  simp only[oV,bV,List.map_cons,Ty.er,fR,SC.er]
  have:=EE (c+1) fs l
  simp only[bV] at this
  rw[this]
  exact congrArg (fun q=>ah.sl (aJ+c) ts.length 0 q::_) (List.length_map (Ty.aF ts)).symm
 |c,some m::fs,⟨.int k,x⟩::l=>by
  simp only[oV,bV,List.map_cons,Ty.er,fR,SC.er]
  exact congrArg _ (EE (c+1) fs l)
 |c,some m::fs,⟨.bool,x⟩::l=>by
  simp only[oV,bV,List.map_cons,Ty.er,fR,SC.er]
  exact congrArg _ (EE (c+1) fs l)
 |c,none::fs,⟨t,x⟩::l=>by
  simp only[oV,bV,List.map_cons,fR,SC.er]
  exact congrArg _ (EE c fs l)
 |c,[],l=>by
  cases l<;>simp[oV,bV,fR,SC.er]
 |c,some m::fs,[]=>rfl
 |c,none::fs,[]=>rfl
def EF (c:Nat) (s:List (Option Mode)) (d:K×List Ty) (x:Ty.DL d.2):SV:=
 match d.1 with
 |.one=>match oV c s (Ty.gv d.2 x) with
  |[y]=>.one y
  |_=>.one .bg
 |.agg=>.agg (oV c s (Ty.gv d.2 x))
 |.ptr=>.one (.bT d.2 x 0)
theorem aay (c:Nat) (s:List (Option Mode)) (d:K×List Ty) (x:Ty.DL d.2):(EF c s d x).er=rG c s (d.1,Ty.aF d.2 x):=by
 obtain⟨k,ts⟩:=d
 have h:=EE c s (Ty.gv ts x)
 rw[Ty.pg] at h
 cases k with
 |one=>
  simp only[EF,rG,<-h]
  generalize oV c s (Ty.gv ts x)=l
  match l with
  |[]=>rfl
  |[y]=>rfl
  |_::_::_=>rfl
 |agg=>simp only[EF,rG,<-h,SV.er]
 |ptr=>rfl
def EK:Nat->Nat->aY->(as:ao)->aQ as.aP->(Nat->SV)
 |_,_,_,[],_=>fun _=>.one .bg
 |k,c,sig,[a],x=>av (fun _=>.one .bg) k (EF c sig.hd a x)
 |k,c,sig,a::b::as,x=>av (EK (k+1) (c+(dE sig.hd (Ty.gv a.2 x.1)).length) sig.tl (b::as) x.2) k (EF c sig.hd a x.1)
theorem Mm {α β:Type}:∀(s:List (Option Mode)) (l:List α) (l':List β),l.length=l'.length->(dE s l).length=(dE s l').length
 |some m::fs,x::xs,y::ys,h=>by simp only[dE,List.length_cons,Mm fs xs ys (by simpa using h)]
 |none::fs,x::xs,y::ys,h=>by simp only[dE];exact Mm fs xs ys (by simpa using h)
 |[],l,l',h=>by cases l<;>cases l'<;>rfl
 |some m::fs,[],[],h=>rfl
 |none::fs,[],[],h=>rfl
 |_::_,[],_::_,h=>by simp at h
 |_::_,_::_,[],h=>by simp at h
theorem ac8 (ts:List Ty) (x:Ty.DL ts):(Ty.gv ts x).length=(Ty.aF ts x).length:=by
 rw[<-Ty.pg,bV,List.length_map]
theorem Yu (k c:Nat) (sig:aY) (d:Dv) (ds:List Dv):la k c sig (d::ds)=av (la (k+1) (c+(dE sig.hd d.2).length) sig.tl ds) k (rG c sig.hd d):=by
 cases sig with
 |nil=>
  have:(dE (aY.hd []) d.2).length=0:=rfl
  rw[this]
  simp only[la,Nat.add_zero,aY.tl,aY.hd]
 |cons s sig=>rfl
theorem aaQ:∀(k c:Nat) (sig:aY) (as:ao) (x:aQ as.aP),pj (EK k c sig as x)=la k c sig (cH as x)
 |k,c,sig,[],x=>by cases sig<;>rfl
 |k,c,sig,[a],x=>by
  simp only[EK,cH,vo]
  have h:=aay c sig.hd a x
  rw[Yu]
  have e:la (k+1) (c+(dE sig.hd (Ty.aF a.2 x)).length) sig.tl []=vn:=by
   simp only[la]
  rw[e]
  exact congrArg (fun v=>av (pj fun _=>SV.one SC.bg) k v) h
 |k,c,sig,a::b::as,x=>by
  have ih:=aaQ (k+1) (c+(dE sig.hd (Ty.gv a.2 x.1)).length) sig.tl (b::as) x.2
  simp only[EK,cH,vo,aay,ih,Yu (ds:=cH (b::as) x.2)]
  rw[Mm sig.hd (Ty.gv a.2 x.1) (Ty.aF a.2 x.1) (ac8 _ _)]
def BM (sig:aY) (as:ao) (x:aQ as.aP):List (Mode×TD):=dW sig ((nh as x).map (·.2))
theorem TG (sig:aY) (as:ao) (x:aQ as.aP):(BM sig as x).map (fun p=>(p.1,p.2.1.er p.2.2))=dW sig ((cH as x).map (·.2)):=by
 unfold BM
 rw[<-zO,<-HE (fun p:TD=>p.1.er p.2)]
 simp only[List.map_map]
 rfl
def T6:Mode×TD->Option SB
 |(m,⟨.list ts,xs⟩)=>some (.row false m ts xs)
 |_=>none
theorem anQ (p:Mode×TD):(T6 p).map SB.er=lZ (p.1,p.2.1.er p.2.2):=by
 obtain⟨m,t,x⟩:=p
 cases t<;>rfl
def BW:List (Mode×TD)->Nat->Option SB
 |[],_=>none
 |p::_,0=>T6 p
 |_::l,n+1=>BW l n
theorem abj:∀(l:List (Mode×TD)) (n:Nat),BW l n=(l[n]?).bind T6
 |[],n=>by simp[BW]
 |p::l,0=>by simp[BW]
 |p::l,n+1=>by simp[BW,abj l n]
def aaO (fl:List (Mode×TD)):Nat->Option SB:=fun n=>match Nat.ble aJ n with
 |true=>BW fl (Nat.sub n aJ)
 |false=>none
def TL (sig:aY) (as:ao) (x:aQ as.aP):af:={env:=EK 0 0 sig as x,h:=aaO (BM sig as x),used:=fun n=>Nat.ble aJ n}
theorem anC (sig:aY) (as:ao) (x:aQ as.aP):(TL sig as x).er=AJ sig (cH as x):=by
 simp only[TL,af.er,AJ,aaQ]
 congr 1
 funext n
 simp only[cD,aaO]
 cases hb:Nat.ble aJ n with
 |true=>
  rw[if_pos (Nat.le_of_ble_eq_true hb),<-TG,abj]
  simp only[List.getElem?_map]
  cases (BM sig as x)[n - aJ]? with
  |none=>simp
  |some p=>simp[anQ]
 |false=>
  rw[if_neg (fun h=>by rw[Nat.ble_eq_true_of_le h] at hb;cases hb)]
  rfl
def af.iW (σ:af):af:={σ with h:=fun n=>match Nat.ble aJ n with|true=>none|false=>σ.h n}
theorem af.alH (σ:af):σ.iW.er=σ.er.iW:=by
 simp only[af.iW,af.er,St.iW]
 congr 1
 funext n
 simp only[cD]
 cases hb:Nat.ble aJ n with
 |true=>rw[if_pos (Nat.le_of_ble_eq_true hb)];rfl
 |false=>rw[if_neg (fun h=>by rw[Nat.ble_eq_true_of_le h] at hb;cases hb)]
section
variable {ρ:Type}
def TT (σ:af) (q:Nat) (p:Mode×TD) (k:TD->Option ρ):Option ρ:=
 match p with
 |(m,⟨.list ts,xs⟩)=>match σ.h (aJ+q) with
  |some (.row _ m' us ys)=>ef (Mode.beq m' m) (ef (Ty.qv us ts) (ef (Uu m us) ((nR (J ys) (J (α:=Ty.DL ts) xs)).U fun _=>k ⟨.list us,ys⟩)))
  |_=>none
 |_=>none
theorem YF (t:Ty) (x:t.D):(t.er x).pJ= !t.dR:=by cases t<;>rfl
theorem YE:∀(ts:List Ty) (x:Ty.DL ts),(Ty.aF ts x).map C.pJ=ts.map fun t=> !t.dR
 |[],_=>rfl
 |[t],x=>congrArg (fun b=>[b]) (YF t x)
 |t::u::ts,x=>by
  have:=YE (u::ts) x.2
  simp only[List.map_cons] at this
  simp only[Ty.aF,List.map_cons,YF,this]
theorem YG (ts:List Ty) (xs:List (Ty.DL ts)):(List.map (Ty.aF ts) xs).map (fun e=>e.map C.pJ)=List.replicate xs.length (ts.map fun t=> !t.dR):=by
 induction xs with
 |nil=>rfl
 |cons x xs ih=>simp only[List.map_cons,YE,ih,List.length_cons,List.replicate_succ]
theorem anJ {σ:af} {q:Nat} {p:Mode×TD} {k:TD->Option ρ} {r:ρ} (h:TT σ q p k=some r):∃o:TD,Bp σ.er q (p.1,p.2.1.er p.2.2)=some (o.1.er o.2)/\k o=some r:=by
 unfold TT at h
 split at h
 ·rename_i m ts xs
  split at h
  ·rename_i gr m' us ys hn
   have h1:=(bQ h).1;replace h:=(bQ h).2
   have h2:=(bQ h).1;replace h:=(bQ h).2
   have h3:=(bQ h).1;replace h:=(bQ h).2
   rw[eC] at h
   obtain⟨_,hs,h⟩:=h
   have hl:J ys=J (α:=Ty.DL ts) xs:=by
    unfold nR at hs
    split at hs
    ·assumption
    ·cases hs
   have h1:=Mode.beq_eq h1
   have h2:=Ty.rH h2
   subst h1 h2
   refine⟨_,?_,h⟩
   have bh:σ.er.h (aJ+q)=some (.row gr m' us.length (List.map (Ty.aF us) ys)):=by simp[af.er,cD,hn,SB.er]
   have dm:List.length ys=List.length (α:=Ty.DL us) xs:=hl
   have hl1:(List.map (Ty.aF us) ys).length=(List.map (α:=Ty.DL us) (Ty.aF us) xs).length:=(List.length_map _).trans (dm.trans (List.length_map (as:=(xs:List (Ty.DL us))) (Ty.aF us)).symm)
   have Di:(List.map (Ty.aF us) ys).map (fun e=>e.map C.pJ)=(List.map (α:=Ty.DL us) (Ty.aF us) xs).map (fun e=>e.map C.pJ):=
    (YG us ys).trans ((congrArg (fun n=>List.replicate n _) dm).trans (YG us xs).symm)
   simp only[Bp,Ty.er,bh]
   rw[if_pos ⟨trivial,trivial,hl1,WE _ _ _ h3,Di⟩]
  ·cases h
 ·cases h
def Kk (σ:af):Nat->List (Mode×TD)->(List TD->Option ρ)->Option ρ
 |_,[],k=>k []
 |q,p::l,k=>TT σ q p fun o=>Kk σ (q+1) l fun os=>k (o::os)
theorem aa3 {σ:af}:∀{l:List (Mode×TD)} {q:Nat} {k:List TD->Option ρ} {r:ρ},Kk σ q l k=some r->∃os,wD σ.er q (l.map fun p=>(p.1,p.2.1.er p.2.2))=some (bV os)/\k os=some r
 |[],q,k,r,h=>⟨[],rfl,h⟩
 |p::l,q,k,r,h=>by
  simp only[Kk] at h
  obtain⟨o,h1,h2⟩:=anJ h
  obtain⟨os,h3,h4⟩:=aa3 h2
  exact⟨o::os,by simp only[List.map_cons,wD,h1,h3,bV],h4⟩
end
def Ks (σ:af) (ms:List bx) (fl:List (Mode×TD)) (kk:Nat) (aB:ao):Option (aQ aB.aP):=
 wR σ.iW ms fun vs=>EV σ.iW.h vs fun ds ns=>ef (El ns) (ct ds.length kk (Kk σ 0 fl fun os=>pT aB (ds++os.map fun o=>(.one,[o]))))
theorem abh {σ:af} {ms:List bx} {fl:List (Mode×TD)} {kk:Nat} {aB:ao} {y:aQ aB.aP} (h:Ks σ ms fl kk aB=some y):
  σ.er.BC ms (fl.map fun p=>(p.1,p.2.1.er p.2.2))=some (wQ kk (cH aB y)):=by
 unfold Ks at h
 obtain⟨vs,h1,h2⟩:=EU h
 obtain⟨ds,ns,h3,h4⟩:=T3 h2
 have h5:=(bQ h4).1;replace h4:=(bQ h4).2
 have h6:=(ba h4).1;replace h4:=(ba h4).2
 obtain⟨os,h7,h8⟩:=aa3 h4
 have vu:qb σ.iW.er.h (vs.map SV.er)=some (ds.map bJ.er,ns):=h3
 have hr:σ.er.iW.sW ms=some (ds.map bJ.er):=by
  rw[<-af.alH]
  simp only[St.sW,h1,vu,if_pos (QW h5)]
 simp only[St.BC,hr,h7,<-wv h8,Km,<-h6]
 congr 2
 ·rw[List.take_left]
 ·rw[List.drop_left]
  congr 1
  clear h7 h8
  induction os with
  |nil=>rfl
  |cons o os ih=>rw[List.map_cons,List.flatMap_cons,<-ih];rfl
def sZ (N:Nat) (T:List aG) (sc:bt) (ms:List bx) (args:ao) (mu:aY) (aB:ao) (x:aQ args.aP):Option (aQ aB.aP):=
 kA N T sc (TL mu args x) (fun σ=>Ks σ ms (BM mu args x) (aB.length - mu.bB) aB) (fun _ _=>none) (fun σ=>Ks σ ms (BM mu args x) (aB.length - mu.bB) aB)
theorem am5 {T:List aG} {sc:bt} {ms:List bx} {args:ao} {mu:aY} {aB:ao} {x:aQ args.aP} {y:aQ aB.aP} (h:sZ aD T sc ms args mu aB x=some y):
  J2 (cY T) sc.er ms mu (cH args x)=some (wQ (aB.length - mu.bB) (cH aB y)):=by
 obtain⟨o,h1,h2⟩:=rp sc h
 rw[anC] at h1
 unfold J2
 rw[h1]
 cases o with
 |fe τ=>
  obtain⟨dI,rfl,h2⟩:=h2
  simp only[<-TG]
  exact abh h2
 |ret τ=>
  obtain⟨dI,rfl,h2⟩:=h2
  simp only[<-TG]
  exact abh h2
 |ext i τ=>
  obtain⟨dI,rfl,h2⟩:=h2
  cases h2
def ED (k:K) (ts:List Ty) (x:Ty.DL ts):SV:=
 match k with
 |.one=>match Ty.cells ts x with
  |[c]=>.one c
  |_=>.one .bg
 |.agg=>.agg (Ty.cells ts x)
 |.ptr=>.one (.ptr aJ 0 0 0)
theorem aax (k:K) (ts:List Ty) (x:Ty.DL ts):(ED k ts x).er=Cs (k,Ty.aF ts x):=by
 cases k with
 |one=>
  match ts,x with
  |[],x=>rfl
  |[t],x=>rfl
  |t::u::[],x=>rfl
  |t::u::v::ts,x=>rfl
 |agg=>simp only[ED,SV.er,Cs,Ty.lC]
 |ptr=>rfl
def EL:Nat->(as:ao)->aQ as.aP->(Nat->SV)
 |_,[],_=>fun _=>.one .bg
 |k,[a],x=>av (fun _=>.one .bg) k (ED a.1 a.2 x)
 |k,a::b::as,x=>av (EL (k+1) (b::as) x.2) k (ED a.1 a.2 x.1)
theorem aaR:∀(k:Nat) (as:ao) (x:aQ as.aP),pj (EL k as x)=sj k (cH as x)
 |k,[],x=>rfl
 |k,[a],x=>by
  have e:(ED a.1 a.2 x).er=Cs (a.1,Ty.aF a.2 x):=aax a.1 a.2 x
  simp only[EL,cH,sj,vo]
  rw[e]
  rfl
 |k,a::b::as,x=>by
  have ih:=aaR (k+1) (b::as) x.2
  simp only[EL,cH,vo,aax,ih]
  rw[sj]
def qg:(as:ao)->aQ as.aP->Option (List TD)
 |[],_=>none
 |[a],x=>match a.1.sn with
  |true=>some (Ty.gv a.2 x)
  |false=>none
 |a::b::as,x=>match a.1.sn with
  |true=>some (Ty.gv a.2 x.1)
  |false=>qg (b::as) x.2
theorem aab (k:K) (xs:List C) (ds:List Dv):nN ((k,xs)::ds)=match k.sn with|true=>some xs|false=>nN ds:=by cases k<;>rfl
theorem W6 (k:K) (ts:List Ty) (as:ao):z8 ((k,ts)::as)=match k.sn with|true=>true|false=>z8 as:=by cases k<;>rfl
theorem TV:∀(as:ao) (x:aQ as.aP),(qg as x).map bV=nN (cH as x)
 |[],_=>rfl
 |[(k,ts)],x=>by
  simp only[qg,cH,aab]
  cases k.sn with
  |true=>exact congrArg some (Ty.pg ts x)
  |false=>rfl
 |(k,ts)::b::as,x=>by
  simp only[qg,cH,aab]
  cases k.sn with
  |true=>simp only[Option.map_some];rw[Ty.pg]
  |false=>exact TV (b::as) x.2
theorem aa9:∀(as:ao) (x:aQ as.aP),(qg as x).isSome=z8 as
 |[],_=>rfl
 |[(k,ts)],x=>by
  simp only[qg,W6]
  cases k.sn<;>rfl
 |(k,ts)::b::as,x=>by
  simp only[qg]
  rw[W6]
  cases k.sn with
  |true=>rfl
  |false=>exact aa9 (b::as) x.2
def aaT (as:ao) (x:aQ as.aP):Nat->Option SB:=fun n=>match Nat.beq n aJ with
 |true=>match qg as x with
  |some l=>some (.box (l.map fun y=>.v y.1 y.2))
  |none=>none
 |false=>none
def TM (as:ao) (x:aQ as.aP):af:={env:=EL 0 as x,h:=aaT as x,used:=fun n=>Nat.ble aJ n}
theorem anD (as:ao) (x:aQ as.aP):(TM as x).er=DO (cH as x):=by
 simp only[TM,af.er,DO,aaR]
 congr 1
 funext n
 simp only[cD,aaT,nB]
 cases Nat.beq n aJ with
 |false=>rfl
 |true=>
  simp only
  rw[<-TV]
  cases qg as x with
  |none=>rfl
  |some l=>simp only[Option.map_some,SB.er,KG]
section
variable {ρ:Type}
def Kp (h:Nat->Option SB):List SV->(List bJ->Option ρ)->Option ρ
 |[],k=>k []
 |v::vs,k=>match v.cells? with
  |some (ag,cs)=>y8 h cs fun l=>Kp h vs fun ds=>k ((OY ag,l)::ds)
  |none=>none
theorem abe {h:Nat->Option SB}:∀{vs:List SV} {k:List bJ->Option ρ} {r:ρ},Kp h vs k=some r->∃ds,qa (cD h) (vs.map SV.er)=some (ds.map bJ.er)/\k ds=some r
 |[],k,r,hx=>⟨[],rfl,hx⟩
 |v::vs,k,r,hx=>by
  simp only[Kp] at hx
  split at hx
  ·rename_i ag cs hc
   obtain⟨l,h1,h2⟩:=E4 hx
   obtain⟨ds,h3,h4⟩:=abe h2
   refine⟨_,?_,h4⟩
   simp only[List.map_cons,qa,SV.lC hc,h1,h3,bJ.er]
   cases ag<;>rfl
  ·cases hx
def aa8:List SV->Option (Nat×Nat×Nat)
 |[v]=>v.oR
 |_=>none
def T4 (h:Nat->Option SB) (vs:List SV) (k:List bJ->Option ρ):Option ρ:=
 match aa8 vs with
 |some (n,kk,off)=>match J8 h n kk off with
  |some l=>match Nat.ble aJ n with
   |true=>none
   |false=>k [(.ptr,l)]
  |none=>none
 |none=>Kp h vs k
theorem anP {h:Nat->Option SB} {vs:List SV} {k:List bJ->Option ρ} {r:ρ} (hx:T4 h vs k=some r):∃ds,BE (cD h) (vs.map SV.er)=some (ds.map bJ.er)/\k ds=some r:=by
 unfold T4 at hx
 split at hx
 ·rename_i n kk off hp
  have hv:∃sz,vs=[.one (.ptr n kk sz off)]:=by
   unfold aa8 at hp
   split at hp
   ·obtain⟨sz,rfl⟩:=aaa hp
    exact⟨sz,rfl⟩
   ·cases hp
  obtain⟨sz,rfl⟩:=hv
  split at hx
  ·rename_i l hl
   split at hx
   ·cases hx
   ·rename_i hb
    refine⟨_,?_,hx⟩
    have e:=aaA (sz:=sz) hl
    have hn:¬aJ<=n:=fun fI=>by rw[Nat.ble_eq_true_of_le fI] at hb;cases hb
    simp only[List.map_cons,List.map_nil,BE,e]
    rw[if_neg hn]
    rfl
  ·cases hx
 ·rename_i hp
  obtain⟨ds,h1,h2⟩:=abe hx
  refine⟨ds,?_,h2⟩
  unfold BE
  split
  ·rename_i v0 he
   have hv:∃v,vs=[v]/\v0=v.er:=by
    match vs,he with
    |[v],he=>simp at he;exact⟨v,rfl,he.symm⟩
   obtain⟨v,rfl,rfl⟩:=hv
   have bc:v.oR=none:=hp
   rw[Z9 bc]
   exact h1
  ·exact h1
def TU (h:Nat->Option SB) (cur:Option (List TD)) (k:List bJ->Option ρ):Option ρ:=
 match cur with
 |none=>k []
 |some xs=>match h aJ with
  |some (.box cs)=>ct cs.length xs.length (match yV cs with
   |some l=>k [(.ptr,l)]
   |none=>none)
  |_=>none
theorem anK {h:Nat->Option SB} {cur:Option (List TD)} {k:List bJ->Option ρ} {r:ρ} (hx:TU h cur k=some r):
  ∃os:List bJ,Bq (cD h) (cur.map bV)=some (bV (os.flatMap (·.2)))/\os.length=(match cur.isSome with|true=>1|false=>0)/\k os=some r:=by
 unfold TU at hx
 split at hx
 ·exact⟨[],rfl,rfl,hx⟩
 ·rename_i xs
  split at hx
  ·rename_i cs hn
   have he:=(ba hx).1;replace hx:=(ba hx).2
   split at hx
   ·rename_i l hl
    refine⟨[(.ptr,l)],?_,rfl,hx⟩
    simp only[Option.map_some,Bq,cD,hn,SB.er,List.length_map]
    rw[if_pos (by rw[he,bV,List.length_map]),Kh hl]
    simp
   ·cases hx
  ·cases hx
end
def Kt (σ:af) (ms:List bx) (cur:Option (List TD)) (aB:ao):Option (aQ aB.aP):=
 wR σ ms fun vs=>T4 σ.h vs fun ds=>TU σ.h cur fun os=>pT aB (ds++os)
theorem abi {σ:af} {ms:List bx} {args:ao} {x:aQ args.aP} {aB:ao} {y:aQ aB.aP} (h:Kt σ ms (qg args x) aB=some y):
  σ.er.BD ms (cH args x)=some (wQ (aB.length - sS args) (cH aB y)):=by
 unfold Kt at h
 obtain⟨vs,h1,h2⟩:=EU h
 obtain⟨ds,h3,h4⟩:=anP h2
 obtain⟨os,h5,h6,h7⟩:=anK h4
 have h8:=wv h7
 have hlen:aB.length=ds.length+os.length:=by
  have:=congrArg List.length h8
  rw[CI,List.length_map,List.length_append] at this
  exact this.symm
 have pB:sS args=os.length:=by
  rw[h6,aa9]
  unfold sS
  cases z8 args<;>rfl
 have hk:aB.length - sS args=ds.length:=by omega
 have vu:BE σ.er.h (vs.map SV.er)=some (ds.map bJ.er):=h3
 have HP:Bq σ.er.h (nN (cH args x))=some (bV (os.flatMap (·.2))):=by rw[<-TV];exact h5
 simp only[St.BD,h1,vu,HP,hk]
 rw[<-h8,Km,List.take_left,List.drop_left]
def J4 (N:Nat) (T:List aG) (sc:bt) (ms:List bx) (args aB:ao) (x:aQ args.aP):Option (aQ aB.aP):=
 kA N T sc (TM args x) (fun σ=>Kt σ ms (qg args x) aB) (fun _ _=>none) (fun σ=>Kt σ ms (qg args x) aB)
theorem am7 {T:List aG} {sc:bt} {ms:List bx} {args aB:ao} {x:aQ args.aP} {y:aQ aB.aP} (h:J4 aD T sc ms args aB x=some y):
  J3 (cY T) sc.er ms (cH args x)=some (wQ (aB.length - sS args) (cH aB y)):=by
 obtain⟨o,h1,h2⟩:=rp sc h
 rw[anD] at h1
 unfold J3
 rw[h1]
 cases o with
 |fe τ=>
  obtain⟨dI,rfl,h2⟩:=h2
  exact abi h2
 |ret τ=>
  obtain⟨dI,rfl,h2⟩:=h2
  exact abi h2
 |ext i τ=>
  obtain⟨dI,rfl,h2⟩:=h2
  cases h2
def UY (P:Program) (fn:aG):Prop:=(fn.mu.hJ=0->cJ P fn.id fn.M)/\(fn.mu.hJ=1->n4 P fn.id fn.mu fn.MM)/\(fn.mu.hJ=2->xr P fn.id fn.MV)/\bD P fn.id=true
def az (P:Program) (T:List aG):Prop:=∀fn∈T,UY P fn
theorem az.nil {P:Program}:az P []:=fun _ h=>by cases h
theorem az.L8 {P:Program} {fn:aG} {T:List aG} (h:UY P fn) (hT:az P T):az P (fn::T):=by
 intro g hg
 cases hg with
 |head=>exact h
 |tail _ hg=>exact hT g hg
theorem az.cons {P:Program} {f:FuncId} {args aB:ao} {F:aQ args.aP->Option (aQ aB.aP)} {T:List aG} (h:cJ P f (aG.M ⟨f,args,[],aB,F⟩)/\bD P f=true) (hT:az P T):az P (⟨f,args,[],aB,F⟩::T):=
 az.L8 ⟨fun _=>h.1,fun hm=>(by cases hm),fun hm=>(by cases hm),h.2⟩ hT
theorem az.ng {P:Program} {f:FuncId} {args:ao} {s:List (Option Mode)} {mu:aY} {aB:ao} {F:aQ args.aP->Option (aQ aB.aP)} {T:List aG} (h:n4 P f (s::mu) (aG.MM ⟨f,args,s::mu,aB,F⟩)/\bD P f=true) (hT:az P T)
  (hk:aY.hJ (s::mu)=1:=by rfl):az P (⟨f,args,s::mu,aB,F⟩::T):=
 az.L8 ⟨fun hm=>absurd (hk.symm.trans hm) (by decide),fun _=>h.1,fun hm=>absurd (hk.symm.trans hm) (by decide),h.2⟩ hT
theorem az.VJ {P:Program} {f:FuncId} {args:ao} {aB:ao} {F:aQ args.aP->Option (aQ aB.aP)} {T:List aG} (h:xr P f (aG.MV ⟨f,args,[[some .aE]],aB,F⟩)/\bD P f=true) (hT:az P T):az P (⟨f,args,[[some .aE]],aB,F⟩::T):=
 az.L8 ⟨fun hm=>(by cases hm),fun hm=>(by cases hm),fun _=>h.1,h.2⟩ hT
theorem Kz:∀{T:List aG} {f:FuncId} {M:List Dv->Option (List Dv)},be.find (cY T).pure f=some M->∃fn∈T,fn.id=f/\M=fn.M/\fn.mu.hJ=0
 |[],f,M,h=>by simp[cY,be.find] at h
 |g::l,f,M,h=>by
  simp only[cY,List.filterMap_cons] at h
  by_cases hg:g.mu.hJ=0
  ·simp only[hg,be.find] at h
   split at h
   ·rename_i e
    injection h with h
    exact⟨g,by simp,e.symm,h.symm,hg⟩
   ·obtain⟨fn,h1,h2,h3⟩:=Kz (T:=l) h
    exact⟨fn,by simp[h1],h2,h3⟩
  ·split at h
   ·obtain⟨fn,h1,h2,h3⟩:=Kz (T:=l) h
    exact⟨fn,by simp[h1],h2,h3⟩
   ·rename_i z hz
    split at hz
    ·rename_i h0;exact absurd h0 hg
    ·cases hz
theorem Un:∀{T:List aG} {f:FuncId} {sig:aY} {M:List Dv->Option (List Dv×List C)},be.qA (cY T).Bi f=some (sig,M)->∃fn∈T,fn.id=f/\sig=fn.mu/\M=fn.MM/\fn.mu.hJ=1
 |[],f,sig,M,h=>by simp[cY,be.qA] at h
 |g::l,f,sig,M,h=>by
  simp only[cY,List.filterMap_cons] at h
  by_cases hg:g.mu.hJ=1
  ·simp only[hg,be.qA] at h
   split at h
   ·rename_i e
    injection h with h
    injection h with ha hb
    exact⟨g,by simp,e.symm,ha.symm,hb.symm,hg⟩
   ·obtain⟨fn,h1,h2,h3⟩:=Un (T:=l) h
    exact⟨fn,by simp[h1],h2,h3⟩
  ·split at h
   ·obtain⟨fn,h1,h2,h3⟩:=Un (T:=l) h
    exact⟨fn,by simp[h1],h2,h3⟩
   ·rename_i z hz
    split at hz
    ·rename_i h0;exact absurd h0 hg
    ·cases hz
theorem Uo:∀{T:List aG} {f:FuncId} {M:List Dv->Option (List Dv×List C)},be.nk (cY T).vs f=some M->∃fn∈T,fn.id=f/\M=fn.MV/\fn.mu.hJ=2
 |[],f,M,h=>by simp[cY,be.nk] at h
 |g::l,f,M,h=>by
  simp only[cY,List.filterMap_cons] at h
  by_cases hg:g.mu.hJ=2
  ·simp only[hg,be.nk] at h
   split at h
   ·rename_i e
    injection h with h
    exact⟨g,by simp,e.symm,h.symm,hg⟩
   ·obtain⟨fn,h1,h2,h3⟩:=Uo (T:=l) h
    exact⟨fn,by simp[h1],h2,h3⟩
  ·split at h
   ·obtain⟨fn,h1,h2,h3⟩:=Uo (T:=l) h
    exact⟨fn,by simp[h1],h2,h3⟩
   ·rename_i z hz
    split at hz
    ·rename_i h0;exact absurd h0 hg
    ·cases hz
theorem az.tok {P:Program} {T:List aG} (hT:az P T):m8 P (cY T):=by
 refine⟨fun g M hM=>?_,fun g sig M hM=>?_,fun g M hM=>?_,fun g M hM=>?_⟩
 ·obtain⟨xL,h1,h2,h3,h4⟩:=Kz hM
  subst h2 h3
  exact(hT xL h1).1 h4
 ·obtain⟨xL,h1,h2,h3,h4,h5⟩:=Un hM
  subst h2 h3 h4
  exact(hT xL h1).2.1 h5
 ·obtain⟨xL,h1,h2,h3,h4⟩:=Uo hM
  subst h2 h3
  exact(hT xL h1).2.2.1 h4
 ·obtain⟨xL,h1,h2,h3,h4⟩:=Kz hM
  subst h2
  exact(hT xL h1).2.2.2
def bU (P:Program) (f:FuncId) (mc:kI) (ms:List bx) (n:Nat):Bool:=
 match P.funcs[f]? with
 |some fn=>match fn.body with
  |some c=>il P fn.ntmps c mc&&mw P fn.results.toList ms&&decide (n<=fn.ntmps)&&(fn.name != "runtime.NumGoroutine")
  |none=>false
 |none=>false
theorem LY {P:Program} {f:FuncId} {mc:kI} {ms:List bx} {n:Nat} (h:bU P f mc ms n=true):bD P f=true:=by
 unfold bU at h
 unfold bD
 split at h
 ·rename_i fn hf
  split at h
  ·rename_i c hb
   simp only[Bool.and_eq_true] at h
   simp[hf,hb,h.2]
  ·cases h
 ·cases h
theorem c9 {P:Program} {T:List aG} (hT:az P T) (hm:P.follows .mixedOrders=true) {f:FuncId} {sc:bt} {ms:List bx} {args aB:ao} (hc:bU P f sc.er ms args.length=true)
  (F:aQ args.aP->Option (aQ aB.aP)) (hF:∀x y,F x=some y->cW aD T sc ms args aB x=some y):cJ P f (aG.M ⟨f,args,[],aB,F⟩)/\bD P f=true:=by
 refine⟨?_,LY hc⟩
 unfold bU at hc
 split at hc
 ·rename_i fn hf
  split at hc
  ·rename_i c hb
   simp only[Bool.and_eq_true,decide_eq_true_eq] at hc
   refine amD (T:=cY T) hT.tok hm hf hb hc.1.1.1 hc.1.1.2 fun ds rs hM=>?_
   obtain⟨x,y,h1,h2,h3⟩:=aG.Ls hM
   subst h1 h3
   exact⟨by rw[CI];exact hc.1.2,am6 (hF x y h2)⟩
  ·cases hc
 ·cases hc
theorem wA {P:Program} {T:List aG} (hT:az P T) (hm:P.follows .mixedOrders=true) {f:FuncId} {sc:bt} {ms:List bx} {args:ao} {mu:aY} {aB:ao} (hc:bU P f sc.er ms args.length=true)
  (F:aQ args.aP->Option (aQ aB.aP)) (hF:∀x y,F x=some y->sZ aD T sc ms args mu aB x=some y):n4 P f mu (aG.MM ⟨f,args,mu,aB,F⟩)/\bD P f=true:=by
 refine⟨?_,LY hc⟩
 unfold bU at hc
 split at hc
 ·rename_i fn hf
  split at hc
  ·rename_i c hb
   simp only[Bool.and_eq_true,decide_eq_true_eq] at hc
   refine akA (T:=cY T) hT.tok hm hf hb hc.1.1.1 hc.1.1.2 fun ds rs dZ hM=>?_
   unfold aG.MM at hM
   rw[Option.map_eq_some_iff] at hM
   obtain⟨uA,h0,Nk⟩:=hM
   obtain⟨x,y,h1,h2,h3⟩:=aG.Ls h0
   subst h1 h3
   refine⟨by rw[CI];exact hc.1.2,?_⟩
   rw[<-Nk]
   exact am5 (hF x y h2)
  ·cases hc
 ·cases hc
theorem abX {P:Program} {T:List aG} (hT:az P T) (hm:P.follows .mixedOrders=true) {f:FuncId} {sc:bt} {ms:List bx} {args aB:ao} (hc:bU P f sc.er ms args.length=true)
  (F:aQ args.aP->Option (aQ aB.aP)) (hF:∀x y,F x=some y->J4 aD T sc ms args aB x=some y):xr P f (aG.MV ⟨f,args,[[some .aE]],aB,F⟩)/\bD P f=true:=by
 refine⟨?_,LY hc⟩
 unfold bU at hc
 split at hc
 ·rename_i fn hf
  split at hc
  ·rename_i c hb
   simp only[Bool.and_eq_true,decide_eq_true_eq] at hc
   refine aol (T:=cY T) hT.tok hm hf hb hc.1.1.1 hc.1.1.2 fun ds rs out hM=>?_
   unfold aG.MV at hM
   rw[Option.map_eq_some_iff] at hM
   obtain⟨uA,h0,Nk⟩:=hM
   obtain⟨x,y,h1,h2,h3⟩:=aG.Ls h0
   subst h1 h3
   refine⟨by rw[CI];exact hc.1.2,?_⟩
   rw[<-Nk]
   exact am7 (hF x y h2)
  ·cases hc
 ·cases hc
end Go.Am
