/- S7: typed functions as a whole. No condition. -/
import Derived.Test.YtifmggmhdcdgbaaS6
set_option linter.unusedVariables false
namespace Go.Am
def DX (k:K) (ts:List Ty) (x:Ty.DL ts):SV:=
 match k with
 |.one=>match Ty.cells ts x with
  |[c]=>.one c
  |_=>.one .bj
 |.agg=>.agg (Ty.cells ts x)
 |.ptr=>.one (.cf ts x 0)
theorem YW (k:K) (ts:List Ty) (x:Ty.DL ts):(DX k ts x).er=xf (k,Ty.aH ts x):=by
 cases k with
 |one=>
  match ts,x with
  |[],x=>rfl
  |[t],x=>rfl
  |t::u::[],x=>rfl
  |t::u::v::ts,x=>rfl
 |agg=>simp only[DX,SV.er,xf,Ty.mz]
 |ptr=>rfl
def D2:Nat->(as:ao)->aQ as.aP->(Nat->SV)
 |_,[],_=>fun _=>.one .bj
 |k,[a],x=>av (fun _=>.one .bj) k (DX a.1 a.2 x)
 |k,a::b::as,x=>av (D2 (k+1) (b::as) x.2) k (DX a.1 a.2 x.1)
theorem Zf:∀(k:Nat) (as:ao) (x:aQ as.aP),pN (D2 k as x)=sG k (cW as x)
 |k,[],x=>rfl
 |k,[a],x=>by
  have e:(DX a.1 a.2 x).er=xf (a.1,Ty.aH a.2 x):=YW a.1 a.2 x
  simp only[D2,cW,sG,vn]
  rw[e]
  rfl
 |k,a::b::as,x=>by
  have ih:=Zf (k+1) (b::as) x.2
  simp only[D2,cW,vn,YW,ih]
  rw[sG]
def Su (as:ao) (x:aQ as.aP):af:={env:=D2 0 as x,h:=fun _=>none,used:=fun n=>Nat.ble aI n}
theorem aks (as:ao) (x:aQ as.aP):(Su as x).er=Dc (cW as x):=by
 simp only[Su,af.er,Dc,Zf]
 rfl
section
variable {ρ:Type}
def wG (σ:af):List bA->(List SV->Option ρ)->Option ρ
 |[],k=>k []
 |.tmp t::ms,k=>wG σ ms fun vs=>k (σ.env t::vs)
 |.cell t sz ag::ms,k=>match σ.env t with
  |.one p=>I3 σ.h p sz fun cs=>wG σ ms fun vs=>k (BC ag cs::vs)
  |_=>none
theorem Eb {σ:af}:∀{ms:List bA} {k:List SV->Option ρ} {r:ρ},wG σ ms k=some r->∃vs,σ.er.rz ms=some (vs.map SV.er)/\k vs=some r
 |[],k,r,h=>⟨[],rfl,h⟩
 |.tmp t::ms,k,r,h=>by
  simp only[wG] at h
  obtain⟨vs,h1,h2⟩:=Eb h
  exact⟨_,by simp only[St.rz,h1];rfl,h2⟩
 |.cell t sz ag::ms,k,r,h=>by
  simp only[wG] at h
  split at h
  ·rename_i p hp
   obtain⟨cs,h1,h2⟩:=Zj h
   obtain⟨vs,h3,h4⟩:=Eb h2
   have be:σ.er.env t=.one p.er:=by show(σ.env t).er=_;rw[hp];rfl
   have kO:loadAt σ.er.h p.er sz=some (cs.map SC.er):=h1
   exact⟨_,by simp only[St.rz,be,kO,h3,List.map_cons,Eo],h4⟩
  ·cases h
def SN (h:Nat->Option SB) (c:SC) (k:(t:Ty)->t.D->List Nat->Option ρ):Option ρ:=
 match c with
 |.v t x=>eS t.eD (k t x [])
 |.nil ts=>match ts with
  |[]=>none
  |t::us=>k (.list (t::us)) ([]:List (Ty.DL (t::us))) []
 |.sl n sz lo len=>match h n with
  |some (.row true m ts xs)=>cC ts.length sz (eS m.own (cC lo 0 ((ci xs len).U fun ys=>k (.list ts) ys [n])))
  |_=>none
 |_=>none
theorem akE {h:Nat->Option SB} {c:SC} {k:(t:Ty)->t.D->List Nat->Option ρ} {r:ρ} (hx:SN h c k=some r):
  ∃(t:Ty) (x:t.D) (ns:List Nat),ld (cT h) c.er=some (t.er x,ns)/\k t x ns=some r:=by
 unfold SN at hx
 split at hx
 ·rename_i t x
  have h1:=(bY hx).1;replace hx:=(bY hx).2
  exact⟨t,x,[],by simp only[SC.er,ld,Ty.wC,h1,if_true],hx⟩
 ·split at hx
  ·cases hx
  ·rename_i t us
   exact⟨.list (t::us),[],[],by simp[SC.er,ld,Ty.er],hx⟩
 ·rename_i n sz lo len
  split at hx
  ·rename_i m ts xs hn
   have bm:=(ba hx).1;replace hx:=(ba hx).2;subst bm
   have hm:=(bY hx).1;replace hx:=(bY hx).2
   have bm:=(ba hx).1;replace hx:=(ba hx).2;subst bm
   rw[eY] at hx
   obtain⟨ys,hw,hx⟩:=hx
   obtain⟨w1,w2⟩:=Z0 hw
   refine⟨.list ts,ys,[n],?_,hx⟩
   have bE:m≠ .aF:=by rintro rfl;cases hm
   simp only[SC.er,ld,cT,hn,Option.map_some,SB.er,List.length_map,w1,w2,ne_eq,bE,not_false_eq_true,and_self,if_true,Ty.er]
  ·cases hx
 ·cases hx
def Jc (h:Nat->Option SB):List SC->(List TD->List Nat->Option ρ)->Option ρ
 |[],k=>k [] []
 |c::cs,k=>SN h c fun t x ns=>Jc h cs fun l ka=>k (⟨t,x⟩::l) (ns++ka)
theorem ZG {h:Nat->Option SB}:∀{cs:List SC} {k:List TD->List Nat->Option ρ} {r:ρ},Jc h cs k=some r->
  ∃l ns,sU (cT h) (cs.map SC.er)=some (cj l,ns)/\k l ns=some r
 |[],k,r,hx=>⟨[],[],rfl,hx⟩
 |c::cs,k,r,hx=>by
  simp only[Jc] at hx
  obtain⟨t,x,ns,h1,h2⟩:=akE hx
  obtain⟨l,ka,h3,h4⟩:=ZG h2
  exact⟨⟨t,x⟩::l,ns++ka,by simp[sU,h1,h3,cj],h4⟩
def kOf:Bool->K
 |true=>.agg
 |false=>.one
def Ec (h:Nat->Option SB):List SV->(List bR->List Nat->Option ρ)->Option ρ
 |[],k=>k [] []
 |v::vs,k=>match v.cells? with
  |some (ag,cs)=>Jc h cs fun l ns=>Ec h vs fun ds ka=>k ((kOf ag,l)::ds) (ns++ka)
  |none=>none
theorem SO {h:Nat->Option SB}:∀{vs:List SV} {k:List bR->List Nat->Option ρ} {r:ρ},Ec h vs k=some r->
  ∃ds ns,qy (cT h) (vs.map SV.er)=some (ds.map bR.er,ns)/\k ds ns=some r
 |[],k,r,hx=>⟨[],[],rfl,hx⟩
 |v::vs,k,r,hx=>by
  simp only[Ec] at hx
  split at hx
  ·rename_i ag cs hc
   obtain⟨l,ns,h1,h2⟩:=ZG hx
   obtain⟨ds,ka,h3,h4⟩:=SO h2
   refine⟨_,_,?_,h4⟩
   simp only[List.map_cons,qy,SV.mz hc,h1,h3]
   cases ag<;>rfl
  ·cases hx
end
def DE:List Nat->Bool
 |[]=>true
 |n::l=> !(l.contains n)&&DE l
theorem PD:∀{l:List Nat},DE l=true->l.Nodup
 |[],_=>List.nodup_nil
 |n::l,h=>by
  simp only[DE,Bool.and_eq_true,Bool.not_eq_true'] at h
  rw[List.nodup_cons]
  refine⟨fun hm=>?_,PD h.2⟩
  have:l.contains n=true:=by simpa using hm
  rw[this] at h
  cases h.1
def Jb (σ:af) (ms:List bA) (aB:ao):Option (aQ aB.aP):=
 wG σ ms fun vs=>Ec σ.h vs fun ds ns=>eS (DE ns) (qn aB ds)
theorem ZF {σ:af} {ms:List bA} {aB:ao} {y:aQ aB.aP} (h:Jb σ ms aB=some y):σ.er.sT ms=some (cW aB y):=by
 unfold Jb at h
 obtain⟨vs,h1,h2⟩:=Eb h
 obtain⟨ds,ns,h3,h4⟩:=SO h2
 have h5:=(bY h4).1;replace h6:=(bY h4).2
 have vt:qy σ.er.h (vs.map SV.er)=some (ds.map bR.er,ns):=h3
 simp only[St.sT,h1,vt,if_pos (PD h5),wg h6]
def cZ (N:Nat) (T:List aG) (sc:bw) (ms:List bA) (args aB:ao) (x:aQ args.aP):Option (aQ aB.aP):=
 lk N T sc (Su args x) (fun σ=>Jb σ ms aB) (fun _ _=>none) (fun σ=>Jb σ ms aB)
theorem ajY {T:List aG} {sc:bw} {ms:List bA} {args aB:ao} {x:aQ args.aP} {y:aQ aB.aP} (h:cZ aA T sc ms args aB x=some y):
  IH (dm T) sc.er ms (cW args x)=some (cW aB y):=by
 obtain⟨o,h1,h2⟩:=rB sc h
 rw[aks] at h1
 unfold IH
 rw[h1]
 cases o with
 |fC τ=>
  obtain⟨d7,rfl,h2⟩:=h2
  exact ZF h2
 |ret τ=>
  obtain⟨d7,rfl,h2⟩:=h2
  exact ZF h2
 |ext i τ=>
  obtain⟨d7,rfl,h2⟩:=h2
  cases h2
theorem Ca:∀(as:ao) (x:aQ as.aP),(cW as x).length=as.length
 |[],_=>rfl
 |[a],_=>rfl
 |a::b::as,x=>by simp only[cW,List.length_cons,Ca (b::as) x.2]
def pE:Nat->List (Option Mode)->List TD->List SC
 |c,some _::fs,⟨.list ts,xs⟩::l=>.sl (aI+c) ts.length 0 (J (α:=Ty.DL ts) xs)::pE (c+1) fs l
 |c,some _::fs,⟨.int _,_⟩::l=>.bj::pE (c+1) fs l
 |c,some _::fs,⟨.bool,_⟩::l=>.bj::pE (c+1) fs l
 |c,none::fs,x::l=>.v x.1 x.2::pE c fs l
 |c,[],l=>l.map fun x=>.v x.1 x.2
 |c,_::_,[]=>[]
theorem DV:∀(c:Nat) (fs:List (Option Mode)) (l:List TD),(pE c fs l).map SC.er=gv c fs (cj l)
 |c,some m::fs,⟨.list ts,xs⟩::l=>by
  simp only[pE,cj,List.map_cons,Ty.er,gv,SC.er]
  have:=DV (c+1) fs l
  simp only[cj] at this
  rw[this]
  exact congrArg (fun q=>ah.sl (aI+c) ts.length 0 q::_) (List.length_map (Ty.aH ts)).symm
 |c,some m::fs,⟨.int k,x⟩::l=>by
  simp only[pE,cj,List.map_cons,Ty.er,gv,SC.er]
  exact congrArg _ (DV (c+1) fs l)
 |c,some m::fs,⟨.bool,x⟩::l=>by
  simp only[pE,cj,List.map_cons,Ty.er,gv,SC.er]
  exact congrArg _ (DV (c+1) fs l)
 |c,none::fs,⟨t,x⟩::l=>by
  simp only[pE,cj,List.map_cons,gv,SC.er]
  exact congrArg _ (DV c fs l)
 |c,[],l=>by
  cases l<;>simp[pE,cj,gv,SC.er]
 |c,some m::fs,[]=>rfl
 |c,none::fs,[]=>rfl
def DW (c:Nat) (s:List (Option Mode)) (d:K×List Ty) (x:Ty.DL d.2):SV:=
 match d.1 with
 |.one=>match pE c s (Ty.gW d.2 x) with
  |[y]=>.one y
  |_=>.one .bj
 |.agg=>.agg (pE c s (Ty.gW d.2 x))
 |.ptr=>.one (.cf d.2 x 0)
theorem YV (c:Nat) (s:List (Option Mode)) (d:K×List Ty) (x:Ty.DL d.2):(DW c s d x).er=rU c s (d.1,Ty.aH d.2 x):=by
 obtain⟨k,ts⟩:=d
 have h:=DV c s (Ty.gW ts x)
 rw[Ty.pK] at h
 cases k with
 |one=>
  simp only[DW,rU,<-h]
  generalize pE c s (Ty.gW ts x)=l
  match l with
  |[]=>rfl
  |[y]=>rfl
  |_::_::_=>rfl
 |agg=>simp only[DW,rU,<-h,SV.er]
 |ptr=>rfl
def D3:Nat->Nat->aW->(as:ao)->aQ as.aP->(Nat->SV)
 |_,_,_,[],_=>fun _=>.one .bj
 |k,c,sig,[a],x=>av (fun _=>.one .bj) k (DW c sig.hd a x)
 |k,c,sig,a::b::as,x=>av (D3 (k+1) (c+(dU sig.hd (Ty.gW a.2 x.1)).length) sig.tl (b::as) x.2) k (DW c sig.hd a x.1)
theorem Le {α β:Type}:∀(s:List (Option Mode)) (l:List α) (l':List β),l.length=l'.length->(dU s l).length=(dU s l').length
 |some m::fs,x::xs,y::ys,h=>by simp only[dU,List.length_cons,Le fs xs ys (by simpa using h)]
 |none::fs,x::xs,y::ys,h=>by simp only[dU];exact Le fs xs ys (by simpa using h)
 |[],l,l',h=>by cases l<;>cases l'<;>rfl
 |some m::fs,[],[],h=>rfl
 |none::fs,[],[],h=>rfl
 |_::_,[],_::_,h=>by simp at h
 |_::_,_::_,[],h=>by simp at h
theorem abp (ts:List Ty) (x:Ty.DL ts):(Ty.gW ts x).length=(Ty.aH ts x).length:=by
 rw[<-Ty.pK,cj,List.length_map]
theorem WZ (k c:Nat) (sig:aW) (d:Dv) (ds:List Dv):lV k c sig (d::ds)=av (lV (k+1) (c+(dU sig.hd d.2).length) sig.tl ds) k (rU c sig.hd d):=by
 cases sig with
 |nil=>
  have:(dU (aW.hd []) d.2).length=0:=rfl
  rw[this]
  simp only[lV,Nat.add_zero,aW.tl,aW.hd]
 |cons s sig=>rfl
theorem Zd:∀(k c:Nat) (sig:aW) (as:ao) (x:aQ as.aP),pN (D3 k c sig as x)=lV k c sig (cW as x)
 |k,c,sig,[],x=>by cases sig<;>rfl
 |k,c,sig,[a],x=>by
  simp only[D3,cW,vn]
  have h:=YV c sig.hd a x
  rw[WZ]
  have e:lV (k+1) (c+(dU sig.hd (Ty.aH a.2 x)).length) sig.tl []=vm:=by
   simp only[lV]
  rw[e]
  exact congrArg (fun v=>av (pN fun _=>SV.one SC.bj) k v) h
 |k,c,sig,a::b::as,x=>by
  have ih:=Zd (k+1) (c+(dU sig.hd (Ty.gW a.2 x.1)).length) sig.tl (b::as) x.2
  simp only[D3,cW,vn,YV,ih,WZ (ds:=cW (b::as) x.2)]
  rw[Le sig.hd (Ty.gW a.2 x.1) (Ty.aH a.2 x.1) (abp _ _)]
def Bk (sig:aW) (as:ao) (x:aQ as.aP):List (Mode×TD):=eF sig ((nT as x).map (·.2))
theorem Sq (sig:aW) (as:ao) (x:aQ as.aP):(Bk sig as x).map (fun p=>(p.1,p.2.1.er p.2.2))=eF sig ((cW as x).map (·.2)):=by
 unfold Bk
 rw[<-zy,<-GW (fun p:TD=>p.1.er p.2)]
 simp only[List.map_map]
 rfl
def SR:Mode×TD->Option SB
 |(m,⟨.list ts,xs⟩)=>some (.row false m ts xs)
 |_=>none
theorem akG (p:Mode×TD):(SR p).map SB.er=mT (p.1,p.2.1.er p.2.2):=by
 obtain⟨m,t,x⟩:=p
 cases t<;>rfl
def Bx:List (Mode×TD)->Nat->Option SB
 |[],_=>none
 |p::_,0=>SR p
 |_::l,n+1=>Bx l n
theorem ZJ:∀(l:List (Mode×TD)) (n:Nat),Bx l n=(l[n]?).bind SR
 |[],n=>by simp[Bx]
 |p::l,0=>by simp[Bx]
 |p::l,n+1=>by simp[Bx,ZJ l n]
def Zb (fl:List (Mode×TD)):Nat->Option SB:=fun n=>match Nat.ble aI n with
 |true=>Bx fl (Nat.sub n aI)
 |false=>none
def Sv (sig:aW) (as:ao) (x:aQ as.aP):af:={env:=D3 0 0 sig as x,h:=Zb (Bk sig as x),used:=fun n=>Nat.ble aI n}
theorem akq (sig:aW) (as:ao) (x:aQ as.aP):(Sv sig as x).er=Al sig (cW as x):=by
 simp only[Sv,af.er,Al,Zd]
 congr 1
 funext n
 simp only[cT,Zb]
 cases hb:Nat.ble aI n with
 |true=>
  rw[if_pos (Nat.le_of_ble_eq_true hb),<-Sq,ZJ]
  simp only[List.getElem?_map]
  cases (Bk sig as x)[n - aI]? with
  |none=>simp
  |some p=>simp[akG]
 |false=>
  rw[if_neg (fun h=>by rw[Nat.ble_eq_true_of_le h] at hb;cases hb)]
  rfl
def af.jM (σ:af):af:={σ with h:=fun n=>match Nat.ble aI n with|true=>none|false=>σ.h n}
theorem af.aiy (σ:af):σ.jM.er=σ.er.jM:=by
 simp only[af.jM,af.er,St.jM]
 congr 1
 funext n
 simp only[cT]
 cases hb:Nat.ble aI n with
 |true=>rw[if_pos (Nat.le_of_ble_eq_true hb)];rfl
 |false=>rw[if_neg (fun h=>by rw[Nat.ble_eq_true_of_le h] at hb;cases hb)]
section
variable {ρ:Type}
def SE (σ:af) (q:Nat) (p:Mode×TD) (k:TD->Option ρ):Option ρ:=
 match p with
 |(m,⟨.list ts,xs⟩)=>match σ.h (aI+q) with
  |some (.row _ m' us ys)=>eS (Mode.beq m' m) (eS (Ty.qO us ts) (eS (Th m us) ((oD (J ys) (J (α:=Ty.DL ts) xs)).U fun _=>k ⟨.list us,ys⟩)))
  |_=>none
 |_=>none
theorem Xc (t:Ty) (x:t.D):(t.er x).qh= !t.eD:=by cases t<;>rfl
theorem Xb:∀(ts:List Ty) (x:Ty.DL ts),(Ty.aH ts x).map C.qh=ts.map fun t=> !t.eD
 |[],_=>rfl
 |[t],x=>congrArg (fun b=>[b]) (Xc t x)
 |t::u::ts,x=>by
  have:=Xb (u::ts) x.2
  simp only[List.map_cons] at this
  simp only[Ty.aH,List.map_cons,Xc,this]
theorem Xd (ts:List Ty) (xs:List (Ty.DL ts)):(List.map (Ty.aH ts) xs).map (fun e=>e.map C.qh)=List.replicate xs.length (ts.map fun t=> !t.eD):=by
 induction xs with
 |nil=>rfl
 |cons x xs ih=>simp only[List.map_cons,Xb,ih,List.length_cons,List.replicate_succ]
theorem akz {σ:af} {q:Nat} {p:Mode×TD} {k:TD->Option ρ} {r:ρ} (h:SE σ q p k=some r):∃o:TD,AX σ.er q (p.1,p.2.1.er p.2.2)=some (o.1.er o.2)/\k o=some r:=by
 unfold SE at h
 split at h
 ·rename_i m ts xs
  split at h
  ·rename_i gr m' us ys hn
   have h1:=(bY h).1;replace h:=(bY h).2
   have h2:=(bY h).1;replace h:=(bY h).2
   have h3:=(bY h).1;replace h:=(bY h).2
   rw[eY] at h
   obtain⟨_,hs,h⟩:=h
   have hl:J ys=J (α:=Ty.DL ts) xs:=by
    unfold oD at hs
    split at hs
    ·assumption
    ·cases hs
   have h1:=Mode.beq_eq h1
   have h2:=Ty.rW h2
   subst h1 h2
   refine⟨_,?_,h⟩
   have bn:σ.er.h (aI+q)=some (.row gr m' us.length (List.map (Ty.aH us) ys)):=by simp[af.er,cT,hn,SB.er]
   have dC:List.length ys=List.length (α:=Ty.DL us) xs:=hl
   have hl1:(List.map (Ty.aH us) ys).length=(List.map (α:=Ty.DL us) (Ty.aH us) xs).length:=(List.length_map _).trans (dC.trans (List.length_map (as:=(xs:List (Ty.DL us))) (Ty.aH us)).symm)
   have CQ:(List.map (Ty.aH us) ys).map (fun e=>e.map C.qh)=(List.map (α:=Ty.DL us) (Ty.aH us) xs).map (fun e=>e.map C.qh):=
    (Xd us ys).trans ((congrArg (fun n=>List.replicate n _) dC).trans (Xd us xs).symm)
   simp only[AX,Ty.er,bn]
   rw[if_pos ⟨trivial,trivial,hl1,Vo _ _ _ h3,CQ⟩]
  ·cases h
 ·cases h
def I5 (σ:af):Nat->List (Mode×TD)->(List TD->Option ρ)->Option ρ
 |_,[],k=>k []
 |q,p::l,k=>SE σ q p fun o=>I5 σ (q+1) l fun os=>k (o::os)
theorem Zt {σ:af}:∀{l:List (Mode×TD)} {q:Nat} {k:List TD->Option ρ} {r:ρ},I5 σ q l k=some r->∃os,wl σ.er q (l.map fun p=>(p.1,p.2.1.er p.2.2))=some (cj os)/\k os=some r
 |[],q,k,r,h=>⟨[],rfl,h⟩
 |p::l,q,k,r,h=>by
  simp only[I5] at h
  obtain⟨o,h1,h2⟩:=akz h
  obtain⟨os,h3,h4⟩:=Zt h2
  exact⟨o::os,by simp only[List.map_cons,wl,h1,h3,cj],h4⟩
end
def Jd (σ:af) (ms:List bA) (fl:List (Mode×TD)) (kk:Nat) (aB:ao):Option (aQ aB.aP):=
 wG σ.jM ms fun vs=>Ec σ.jM.h vs fun ds ns=>eS (DE ns) (cC ds.length kk (I5 σ 0 fl fun os=>qn aB (ds++os.map fun o=>(.one,[o]))))
theorem ZH {σ:af} {ms:List bA} {fl:List (Mode×TD)} {kk:Nat} {aB:ao} {y:aQ aB.aP} (h:Jd σ ms fl kk aB=some y):
  σ.er.Ba ms (fl.map fun p=>(p.1,p.2.1.er p.2.2))=some (wF kk (cW aB y)):=by
 unfold Jd at h
 obtain⟨vs,h1,h2⟩:=Eb h
 obtain⟨ds,ns,h3,h4⟩:=SO h2
 have h5:=(bY h4).1;replace h4:=(bY h4).2
 have h6:=(ba h4).1;replace h4:=(ba h4).2
 obtain⟨os,h7,h8⟩:=Zt h4
 have vt:qy σ.jM.er.h (vs.map SV.er)=some (ds.map bR.er,ns):=h3
 have hr:σ.er.jM.sT ms=some (ds.map bR.er):=by
  rw[<-af.aiy]
  simp only[St.sT,h1,vt,if_pos (PD h5)]
 simp only[St.Ba,hr,h7,<-wg h8,I7,<-h6]
 congr 2
 ·rw[List.take_left]
 ·rw[List.drop_left]
  congr 1
  clear h7 h8
  induction os with
  |nil=>rfl
  |cons o os ih=>rw[List.map_cons,List.flatMap_cons,<-ih];rfl
def sV (N:Nat) (T:List aG) (sc:bw) (ms:List bA) (args:ao) (mu:aW) (aB:ao) (x:aQ args.aP):Option (aQ aB.aP):=
 lk N T sc (Sv mu args x) (fun σ=>Jd σ ms (Bk mu args x) (aB.length - mu.bH) aB) (fun _ _=>none) (fun σ=>Jd σ ms (Bk mu args x) (aB.length - mu.bH) aB)
theorem ajX {T:List aG} {sc:bw} {ms:List bA} {args:ao} {mu:aW} {aB:ao} {x:aQ args.aP} {y:aQ aB.aP} (h:sV aA T sc ms args mu aB x=some y):
  II (dm T) sc.er ms mu (cW args x)=some (wF (aB.length - mu.bH) (cW aB y)):=by
 obtain⟨o,h1,h2⟩:=rB sc h
 rw[akq] at h1
 unfold II
 rw[h1]
 cases o with
 |fC τ=>
  obtain⟨d7,rfl,h2⟩:=h2
  simp only[<-Sq]
  exact ZH h2
 |ret τ=>
  obtain⟨d7,rfl,h2⟩:=h2
  simp only[<-Sq]
  exact ZH h2
 |ext i τ=>
  obtain⟨d7,rfl,h2⟩:=h2
  cases h2
def DU (k:K) (ts:List Ty) (x:Ty.DL ts):SV:=
 match k with
 |.one=>match Ty.cells ts x with
  |[c]=>.one c
  |_=>.one .bj
 |.agg=>.agg (Ty.cells ts x)
 |.ptr=>.one (.ptr aI 0 0 0)
theorem YU (k:K) (ts:List Ty) (x:Ty.DL ts):(DU k ts x).er=BX (k,Ty.aH ts x):=by
 cases k with
 |one=>
  match ts,x with
  |[],x=>rfl
  |[t],x=>rfl
  |t::u::[],x=>rfl
  |t::u::v::ts,x=>rfl
 |agg=>simp only[DU,SV.er,BX,Ty.mz]
 |ptr=>rfl
def D4:Nat->(as:ao)->aQ as.aP->(Nat->SV)
 |_,[],_=>fun _=>.one .bj
 |k,[a],x=>av (fun _=>.one .bj) k (DU a.1 a.2 x)
 |k,a::b::as,x=>av (D4 (k+1) (b::as) x.2) k (DU a.1 a.2 x.1)
theorem Ze:∀(k:Nat) (as:ao) (x:aQ as.aP),pN (D4 k as x)=sH k (cW as x)
 |k,[],x=>rfl
 |k,[a],x=>by
  have e:(DU a.1 a.2 x).er=BX (a.1,Ty.aH a.2 x):=YU a.1 a.2 x
  simp only[D4,cW,sH,vn]
  rw[e]
  rfl
 |k,a::b::as,x=>by
  have ih:=Ze (k+1) (b::as) x.2
  simp only[D4,cW,vn,YU,ih]
  rw[sH]
def qE:(as:ao)->aQ as.aP->Option (List TD)
 |[],_=>none
 |[a],x=>match a.1.sJ with
  |true=>some (Ty.gW a.2 x)
  |false=>none
 |a::b::as,x=>match a.1.sJ with
  |true=>some (Ty.gW a.2 x.1)
  |false=>qE (b::as) x.2
theorem Yw (k:K) (xs:List C) (ds:List Dv):oz ((k,xs)::ds)=match k.sJ with|true=>some xs|false=>oz ds:=by cases k<;>rfl
theorem VR (k:K) (ts:List Ty) (as:ao):zM ((k,ts)::as)=match k.sJ with|true=>true|false=>zM as:=by cases k<;>rfl
theorem SG:∀(as:ao) (x:aQ as.aP),(qE as x).map cj=oz (cW as x)
 |[],_=>rfl
 |[(k,ts)],x=>by
  simp only[qE,cW,Yw]
  cases k.sJ with
  |true=>exact congrArg some (Ty.pK ts x)
  |false=>rfl
 |(k,ts)::b::as,x=>by
  simp only[qE,cW,Yw]
  cases k.sJ with
  |true=>simp only[Option.map_some];rw[Ty.pK]
  |false=>exact SG (b::as) x.2
theorem Zz:∀(as:ao) (x:aQ as.aP),(qE as x).isSome=zM as
 |[],_=>rfl
 |[(k,ts)],x=>by
  simp only[qE,VR]
  cases k.sJ<;>rfl
 |(k,ts)::b::as,x=>by
  simp only[qE]
  rw[VR]
  cases k.sJ with
  |true=>rfl
  |false=>exact Zz (b::as) x.2
def Zg (as:ao) (x:aQ as.aP):Nat->Option SB:=fun n=>match Nat.beq n aI with
 |true=>match qE as x with
  |some l=>some (.box (l.map fun y=>.v y.1 y.2))
  |none=>none
 |false=>none
def Sw (as:ao) (x:aQ as.aP):af:={env:=D4 0 as x,h:=Zg as x,used:=fun n=>Nat.ble aI n}
theorem akr (as:ao) (x:aQ as.aP):(Sw as x).er=Dd (cW as x):=by
 simp only[Sw,af.er,Dd,Ze]
 congr 1
 funext n
 simp only[cT,Zg,od]
 cases Nat.beq n aI with
 |false=>rfl
 |true=>
  simp only
  rw[<-SG]
  cases qE as x with
  |none=>rfl
  |some l=>simp only[Option.map_some,SB.er,To]
section
variable {ρ:Type}
def Ja (h:Nat->Option SB):List SV->(List bR->Option ρ)->Option ρ
 |[],k=>k []
 |v::vs,k=>match v.cells? with
  |some (ag,cs)=>yJ h cs fun l=>Ja h vs fun ds=>k ((NR ag,l)::ds)
  |none=>none
theorem ZE {h:Nat->Option SB}:∀{vs:List SV} {k:List bR->Option ρ} {r:ρ},Ja h vs k=some r->∃ds,qx (cT h) (vs.map SV.er)=some (ds.map bR.er)/\k ds=some r
 |[],k,r,hx=>⟨[],rfl,hx⟩
 |v::vs,k,r,hx=>by
  simp only[Ja] at hx
  split at hx
  ·rename_i ag cs hc
   obtain⟨l,h1,h2⟩:=Ei hx
   obtain⟨ds,h3,h4⟩:=ZE h2
   refine⟨_,?_,h4⟩
   simp only[List.map_cons,qx,SV.mz hc,h1,h3,bR.er]
   cases ag<;>rfl
  ·cases hx
def Zy:List SV->Option (Nat×Nat×Nat)
 |[v]=>v.pA
 |_=>none
def SP (h:Nat->Option SB) (vs:List SV) (k:List bR->Option ρ):Option ρ:=
 match Zy vs with
 |some (n,kk,off)=>match IQ h n kk off with
  |some l=>match Nat.ble aI n with
   |true=>none
   |false=>k [(.ptr,l)]
  |none=>none
 |none=>Ja h vs k
theorem akF {h:Nat->Option SB} {vs:List SV} {k:List bR->Option ρ} {r:ρ} (hx:SP h vs k=some r):∃ds,Bc (cT h) (vs.map SV.er)=some (ds.map bR.er)/\k ds=some r:=by
 unfold SP at hx
 split at hx
 ·rename_i n kk off hp
  have hv:∃sz,vs=[.one (.ptr n kk sz off)]:=by
   unfold Zy at hp
   split at hp
   ·obtain⟨sz,rfl⟩:=Yv hp
    exact⟨sz,rfl⟩
   ·cases hp
  obtain⟨sz,rfl⟩:=hv
  split at hx
  ·rename_i l hl
   split at hx
   ·cases hx
   ·rename_i hb
    refine⟨_,?_,hx⟩
    have e:=YX (sz:=sz) hl
    have hn:¬aI<=n:=fun gi=>by rw[Nat.ble_eq_true_of_le gi] at hb;cases hb
    simp only[List.map_cons,List.map_nil,Bc,e]
    rw[if_neg hn]
    rfl
  ·cases hx
 ·rename_i hp
  obtain⟨ds,h1,h2⟩:=ZE hx
  refine⟨ds,?_,h2⟩
  unfold Bc
  split
  ·rename_i v0 he
   have hv:∃v,vs=[v]/\v0=v.er:=by
    match vs,he with
    |[v],he=>simp at he;exact⟨v,rfl,he.symm⟩
   obtain⟨v,rfl,rfl⟩:=hv
   have be:v.pA=none:=hp
   rw[Yu be]
   exact h1
  ·exact h1
def SF (h:Nat->Option SB) (cur:Option (List TD)) (k:List bR->Option ρ):Option ρ:=
 match cur with
 |none=>k []
 |some xs=>match h aI with
  |some (.box cs)=>cC cs.length xs.length (match yE cs with
   |some l=>k [(.ptr,l)]
   |none=>none)
  |_=>none
theorem akA {h:Nat->Option SB} {cur:Option (List TD)} {k:List bR->Option ρ} {r:ρ} (hx:SF h cur k=some r):
  ∃os:List bR,AY (cT h) (cur.map cj)=some (cj (os.flatMap (·.2)))/\os.length=(match cur.isSome with|true=>1|false=>0)/\k os=some r:=by
 unfold SF at hx
 split at hx
 ·exact⟨[],rfl,rfl,hx⟩
 ·rename_i xs
  split at hx
  ·rename_i cs hn
   have he:=(ba hx).1;replace hx:=(ba hx).2
   split at hx
   ·rename_i l hl
    refine⟨[(.ptr,l)],?_,rfl,hx⟩
    simp only[Option.map_some,AY,cT,hn,SB.er,List.length_map]
    rw[if_pos (by rw[he,cj,List.length_map]),I1 hl]
    simp
   ·cases hx
  ·cases hx
end
def Je (σ:af) (ms:List bA) (cur:Option (List TD)) (aB:ao):Option (aQ aB.aP):=
 wG σ ms fun vs=>SP σ.h vs fun ds=>SF σ.h cur fun os=>qn aB (ds++os)
theorem ZI {σ:af} {ms:List bA} {args:ao} {x:aQ args.aP} {aB:ao} {y:aQ aB.aP} (h:Je σ ms (qE args x) aB=some y):
  σ.er.Bb ms (cW args x)=some (wF (aB.length - sQ args) (cW aB y)):=by
 unfold Je at h
 obtain⟨vs,h1,h2⟩:=Eb h
 obtain⟨ds,h3,h4⟩:=akF h2
 obtain⟨os,h5,h6,h7⟩:=akA h4
 have h8:=wg h7
 have hlen:aB.length=ds.length+os.length:=by
  have:=congrArg List.length h8
  rw[Ca,List.length_map,List.length_append] at this
  exact this.symm
 have pZ:sQ args=os.length:=by
  rw[h6,Zz]
  unfold sQ
  cases zM args<;>rfl
 have hk:aB.length - sQ args=ds.length:=by omega
 have vt:Bc σ.er.h (vs.map SV.er)=some (ds.map bR.er):=h3
 have G9:AY σ.er.h (oz (cW args x))=some (cj (os.flatMap (·.2))):=by rw[<-SG];exact h5
 simp only[St.Bb,h1,vt,G9,hk]
 rw[<-h8,I7,List.take_left,List.drop_left]
def IK (N:Nat) (T:List aG) (sc:bw) (ms:List bA) (args aB:ao) (x:aQ args.aP):Option (aQ aB.aP):=
 lk N T sc (Sw args x) (fun σ=>Je σ ms (qE args x) aB) (fun _ _=>none) (fun σ=>Je σ ms (qE args x) aB)
theorem ajZ {T:List aG} {sc:bw} {ms:List bA} {args aB:ao} {x:aQ args.aP} {y:aQ aB.aP} (h:IK aA T sc ms args aB x=some y):
  IJ (dm T) sc.er ms (cW args x)=some (wF (aB.length - sQ args) (cW aB y)):=by
 obtain⟨o,h1,h2⟩:=rB sc h
 rw[akr] at h1
 unfold IJ
 rw[h1]
 cases o with
 |fC τ=>
  obtain⟨d7,rfl,h2⟩:=h2
  exact ZI h2
 |ret τ=>
  obtain⟨d7,rfl,h2⟩:=h2
  exact ZI h2
 |ext i τ=>
  obtain⟨d7,rfl,h2⟩:=h2
  cases h2
def TO (P:Program) (fn:aG):Prop:=(fn.mu.iL=0->cJ P fn.id fn.M)/\(fn.mu.iL=1->oK P fn.id fn.mu fn.MM)/\(fn.mu.iL=2->xc P fn.id fn.MV)/\bF P fn.id=true
def az (P:Program) (T:List aG):Prop:=∀fn∈T,TO P fn
theorem az.nil {P:Program}:az P []:=fun _ h=>by cases h
theorem az.KX {P:Program} {fn:aG} {T:List aG} (h:TO P fn) (hT:az P T):az P (fn::T):=by
 intro g hg
 cases hg with
 |head=>exact h
 |tail _ hg=>exact hT g hg
theorem az.cons {P:Program} {f:FuncId} {args aB:ao} {F:aQ args.aP->Option (aQ aB.aP)} {T:List aG} (h:cJ P f (aG.M ⟨f,args,[],aB,F⟩)/\bF P f=true) (hT:az P T):az P (⟨f,args,[],aB,F⟩::T):=
 az.KX ⟨fun _=>h.1,fun hm=>(by cases hm),fun hm=>(by cases hm),h.2⟩ hT
theorem az.nS {P:Program} {f:FuncId} {args:ao} {s:List (Option Mode)} {mu:aW} {aB:ao} {F:aQ args.aP->Option (aQ aB.aP)} {T:List aG} (h:oK P f (s::mu) (aG.MM ⟨f,args,s::mu,aB,F⟩)/\bF P f=true) (hT:az P T)
  (hk:aW.iL (s::mu)=1:=by rfl):az P (⟨f,args,s::mu,aB,F⟩::T):=
 az.KX ⟨fun hm=>absurd (hk.symm.trans hm) (by decide),fun _=>h.1,fun hm=>absurd (hk.symm.trans hm) (by decide),h.2⟩ hT
theorem az.Uv {P:Program} {f:FuncId} {args:ao} {aB:ao} {F:aQ args.aP->Option (aQ aB.aP)} {T:List aG} (h:xc P f (aG.MV ⟨f,args,[[some .aF]],aB,F⟩)/\bF P f=true) (hT:az P T):az P (⟨f,args,[[some .aF]],aB,F⟩::T):=
 az.KX ⟨fun hm=>(by cases hm),fun hm=>(by cases hm),fun _=>h.1,h.2⟩ hT
theorem Jl:∀{T:List aG} {f:FuncId} {M:List Dv->Option (List Dv)},bh.find (dm T).pure f=some M->∃fn∈T,fn.id=f/\M=fn.M/\fn.mu.iL=0
 |[],f,M,h=>by simp[dm,bh.find] at h
 |g::l,f,M,h=>by
  simp only[dm,List.filterMap_cons] at h
  by_cases hg:g.mu.iL=0
  ·simp only[hg,bh.find] at h
   split at h
   ·rename_i e
    injection h with h
    exact⟨g,by simp,e.symm,h.symm,hg⟩
   ·obtain⟨fn,h1,h2,h3⟩:=Jl (T:=l) h
    exact⟨fn,by simp[h1],h2,h3⟩
  ·split at h
   ·obtain⟨fn,h1,h2,h3⟩:=Jl (T:=l) h
    exact⟨fn,by simp[h1],h2,h3⟩
   ·rename_i z hz
    split at hz
    ·rename_i h0;exact absurd h0 hg
    ·cases hz
theorem Ta:∀{T:List aG} {f:FuncId} {sig:aW} {M:List Dv->Option (List Dv×List C)},bh.qT (dm T).AP f=some (sig,M)->∃fn∈T,fn.id=f/\sig=fn.mu/\M=fn.MM/\fn.mu.iL=1
 |[],f,sig,M,h=>by simp[dm,bh.qT] at h
 |g::l,f,sig,M,h=>by
  simp only[dm,List.filterMap_cons] at h
  by_cases hg:g.mu.iL=1
  ·simp only[hg,bh.qT] at h
   split at h
   ·rename_i e
    injection h with h
    injection h with ha hb
    exact⟨g,by simp,e.symm,ha.symm,hb.symm,hg⟩
   ·obtain⟨fn,h1,h2,h3⟩:=Ta (T:=l) h
    exact⟨fn,by simp[h1],h2,h3⟩
  ·split at h
   ·obtain⟨fn,h1,h2,h3⟩:=Ta (T:=l) h
    exact⟨fn,by simp[h1],h2,h3⟩
   ·rename_i z hz
    split at hz
    ·rename_i h0;exact absurd h0 hg
    ·cases hz
theorem Tb:∀{T:List aG} {f:FuncId} {M:List Dv->Option (List Dv×List C)},bh.nW (dm T).vs f=some M->∃fn∈T,fn.id=f/\M=fn.MV/\fn.mu.iL=2
 |[],f,M,h=>by simp[dm,bh.nW] at h
 |g::l,f,M,h=>by
  simp only[dm,List.filterMap_cons] at h
  by_cases hg:g.mu.iL=2
  ·simp only[hg,bh.nW] at h
   split at h
   ·rename_i e
    injection h with h
    exact⟨g,by simp,e.symm,h.symm,hg⟩
   ·obtain⟨fn,h1,h2,h3⟩:=Tb (T:=l) h
    exact⟨fn,by simp[h1],h2,h3⟩
  ·split at h
   ·obtain⟨fn,h1,h2,h3⟩:=Tb (T:=l) h
    exact⟨fn,by simp[h1],h2,h3⟩
   ·rename_i z hz
    split at hz
    ·rename_i h0;exact absurd h0 hg
    ·cases hz
theorem az.tok {P:Program} {T:List aG} (hT:az P T):nN P (dm T):=by
 refine⟨fun g M hM=>?_,fun g sig M hM=>?_,fun g M hM=>?_,fun g M hM=>?_⟩
 ·obtain⟨xw,h1,h2,h3,h4⟩:=Jl hM
  subst h2 h3
  exact(hT xw h1).1 h4
 ·obtain⟨xw,h1,h2,h3,h4,h5⟩:=Ta hM
  subst h2 h3 h4
  exact(hT xw h1).2.1 h5
 ·obtain⟨xw,h1,h2,h3,h4⟩:=Tb hM
  subst h2 h3
  exact(hT xw h1).2.2.1 h4
 ·obtain⟨xw,h1,h2,h3,h4⟩:=Jl hM
  subst h2
  exact(hT xw h1).2.2.2
def bW (P:Program) (f:FuncId) (mc:lz) (ms:List bA) (n:Nat):Bool:=
 match P.funcs[f]? with
 |some fn=>match fn.body with
  |some c=>ja P fn.ntmps c mc&&m9 P fn.results.toList ms&&decide (n<=fn.ntmps)&&(fn.name != "runtime.NumGoroutine")
  |none=>false
 |none=>false
theorem KP {P:Program} {f:FuncId} {mc:lz} {ms:List bA} {n:Nat} (h:bW P f mc ms n=true):bF P f=true:=by
 unfold bW at h
 unfold bF
 split at h
 ·rename_i fn hf
  split at h
  ·rename_i c hb
   simp only[Bool.and_eq_true] at h
   simp[hf,hb,h.2]
  ·cases h
 ·cases h
theorem dd {P:Program} {T:List aG} (hT:az P T) (hm:P.follows .mixedOrders=true) {f:FuncId} {sc:bw} {ms:List bA} {args aB:ao} (hc:bW P f sc.er ms args.length=true)
  (F:aQ args.aP->Option (aQ aB.aP)) (hF:∀x y,F x=some y->cZ aA T sc ms args aB x=some y):cJ P f (aG.M ⟨f,args,[],aB,F⟩)/\bF P f=true:=by
 refine⟨?_,KP hc⟩
 unfold bW at hc
 split at hc
 ·rename_i fn hf
  split at hc
  ·rename_i c hb
   simp only[Bool.and_eq_true,decide_eq_true_eq] at hc
   refine ajw (T:=dm T) hT.tok hm hf hb hc.1.1.1 hc.1.1.2 fun ds rs hM=>?_
   obtain⟨x,y,h1,h2,h3⟩:=aG.Kk hM
   subst h1 h3
   exact⟨by rw[Ca];exact hc.1.2,ajY (hF x y h2)⟩
  ·cases hc
 ·cases hc
theorem wi {P:Program} {T:List aG} (hT:az P T) (hm:P.follows .mixedOrders=true) {f:FuncId} {sc:bw} {ms:List bA} {args:ao} {mu:aW} {aB:ao} (hc:bW P f sc.er ms args.length=true)
  (F:aQ args.aP->Option (aQ aB.aP)) (hF:∀x y,F x=some y->sV aA T sc ms args mu aB x=some y):oK P f mu (aG.MM ⟨f,args,mu,aB,F⟩)/\bF P f=true:=by
 refine⟨?_,KP hc⟩
 unfold bW at hc
 split at hc
 ·rename_i fn hf
  split at hc
  ·rename_i c hb
   simp only[Bool.and_eq_true,decide_eq_true_eq] at hc
   refine aho (T:=dm T) hT.tok hm hf hb hc.1.1.1 hc.1.1.2 fun ds rs eJ hM=>?_
   unfold aG.MM at hM
   rw[Option.map_eq_some_iff] at hM
   obtain⟨uH,h0,Me⟩:=hM
   obtain⟨x,y,h1,h2,h3⟩:=aG.Kk h0
   subst h1 h3
   refine⟨by rw[Ca];exact hc.1.2,?_⟩
   rw[<-Me]
   exact ajX (hF x y h2)
  ·cases hc
 ·cases hc
theorem aah {P:Program} {T:List aG} (hT:az P T) (hm:P.follows .mixedOrders=true) {f:FuncId} {sc:bw} {ms:List bA} {args aB:ao} (hc:bW P f sc.er ms args.length=true)
  (F:aQ args.aP->Option (aQ aB.aP)) (hF:∀x y,F x=some y->IK aA T sc ms args aB x=some y):xc P f (aG.MV ⟨f,args,[[some .aF]],aB,F⟩)/\bF P f=true:=by
 refine⟨?_,KP hc⟩
 unfold bW at hc
 split at hc
 ·rename_i fn hf
  split at hc
  ·rename_i c hb
   simp only[Bool.and_eq_true,decide_eq_true_eq] at hc
   refine alb (T:=dm T) hT.tok hm hf hb hc.1.1.1 hc.1.1.2 fun ds rs out hM=>?_
   unfold aG.MV at hM
   rw[Option.map_eq_some_iff] at hM
   obtain⟨uH,h0,Me⟩:=hM
   obtain⟨x,y,h1,h2,h3⟩:=aG.Kk h0
   subst h1 h3
   refine⟨by rw[Ca];exact hc.1.2,?_⟩
   rw[<-Me]
   exact ajZ (hF x y h2)
  ·cases hc
 ·cases hc
end Go.Am
