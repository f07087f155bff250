/- S7: typed functions as a whole. No condition. -/
import Derived.Test.YtifmggmhdcdgbaaS6
set_option linter.unusedVariables false
namespace Go.Am
def DU (k:K) (ts:List Ty) (x:Ty.DL ts):SV:=
 match k with
 |.one=>match Ty.cells ts x with
  |[c]=>.one c
  |_=>.one .bf
 |.agg=>.agg (Ty.cells ts x)
 |.ptr=>.one (.cd ts x 0)
theorem YP (k:K) (ts:List Ty) (x:Ty.DL ts):(DU k ts x).er=wR (k,Ty.aD ts x):=by
 cases k with
 |one=>
  match ts,x with
  |[],x=>rfl
  |[t],x=>rfl
  |t::u::[],x=>rfl
  |t::u::v::ts,x=>rfl
 |agg=>simp only[DU,SV.er,wR,Ty.lI]
 |ptr=>rfl
def DX:Nat->(as:av)->be as.aZ->(Nat->SV)
 |_,[],_=>fun _=>.one .bf
 |k,[a],x=>au (fun _=>.one .bf) k (DU a.1 a.2 x)
 |k,a::b::as,x=>au (DX (k+1) (b::as) x.2) k (DU a.1 a.2 x.1)
theorem Y4:∀(k:Nat) (as:av) (x:be as.aZ),o7 (DX k as x)=sa k (cQ as x)
 |k,[],x=>rfl
 |k,[a],x=>by
  have e:(DU a.1 a.2 x).er=wR (a.1,Ty.aD a.2 x):=YP a.1 a.2 x
  simp only[DX,cQ,sa,uQ]
  rw[e]
  rfl
 |k,a::b::as,x=>by
  have ih:=Y4 (k+1) (b::as) x.2
  simp only[DX,cQ,uQ,YP,ih]
  rw[sa]
def Rs (as:av) (x:be as.aZ):ah:={env:=DX 0 as x,h:=fun _=>none,used:=fun n=>Nat.ble aF n}
theorem aj7 (as:av) (x:be as.aZ):(Rs as x).er=Dd (cQ as x):=by
 simp only[Rs,ah.er,Dd,Y4]
 rfl
section
variable {ρ:Type}
def wg (σ:ah):List bV->(List SV->Option ρ)->Option ρ
 |[],k=>k []
 |.tmp t::ms,k=>wg σ ms fun vs=>k (σ.env t::vs)
 |.cell t sz ag::ms,k=>match σ.env t with
  |.one p=>D3 σ.h p sz fun cs=>wg σ ms fun vs=>k (yN ag cs::vs)
  |_=>none
theorem Ea {σ:ah}:∀{ms:List bV} {k:List SV->Option ρ} {r:ρ},wg σ ms k=some r->∃vs,σ.er.qV ms=some (vs.map SV.er)/\k vs=some r
 |[],k,r,h=>⟨[],rfl,h⟩
 |.tmp t::ms,k,r,h=>by
  simp only[wg] at h
  obtain⟨vs,h1,h2⟩:=Ea h
  exact⟨_,by simp only[St.qV,h1];rfl,h2⟩
 |.cell t sz ag::ms,k,r,h=>by
  simp only[wg] at h
  split at h
  ·rename_i p hp
   obtain⟨cs,h1,h2⟩:=Rw h
   obtain⟨vs,h3,h4⟩:=Ea h2
   have aX:σ.er.env t=.one p.er:=by show(σ.env t).er=_;rw[hp];rfl
   have iB:loadAt σ.er.h p.er sz=some (cs.map SC.er):=h1
   exact⟨_,by simp only[St.qV,aX,iB,h3,List.map_cons,Bw],h4⟩
  ·cases h
def RR (h:Nat->Option SB) (c:SC) (k:(t:Ty)->t.D->List Nat->Option ρ):Option ρ:=
 match c with
 |.v t x=>eB t.dT (k t x [])
 |.nil ts=>match ts with
  |[]=>none
  |t::us=>k (.list (t::us)) ([]:List (Ty.DL (t::us))) []
 |.sl n sz lo len=>match h n with
  |some (.row true m ts xs)=>cE ts.length sz (eB m.own (cE lo 0 ((dc xs len).ab fun ys=>k (.list ts) ys [n])))
  |_=>none
 |_=>none
theorem ako {h:Nat->Option SB} {c:SC} {k:(t:Ty)->t.D->List Nat->Option ρ} {r:ρ} (hx:RR h c k=some r):
  ∃(t:Ty) (x:t.D) (ns:List Nat),kC (cL h) c.er=some (t.er x,ns)/\k t x ns=some r:=by
 unfold RR at hx
 split at hx
 ·rename_i t x
  have h1:=(bX hx).1;replace hx:=(bX hx).2
  exact⟨t,x,[],by simp only[SC.er,kC,Ty.v8,h1,if_true],hx⟩
 ·split at hx
  ·cases hx
  ·rename_i t us
   exact⟨.list (t::us),[],[],by simp[SC.er,kC,Ty.er],hx⟩
 ·rename_i n sz lo len
  split at hx
  ·rename_i m ts xs hn
   have bq:=(aW hx).1;replace hx:=(aW hx).2;subst bq
   have hm:=(bX hx).1;replace hx:=(bX hx).2
   have bq:=(aW hx).1;replace hx:=(aW hx).2;subst bq
   rw[eN] at hx
   obtain⟨ys,hw,hx⟩:=hx
   obtain⟨w1,w2⟩:=ZF hw
   refine⟨.list ts,ys,[n],?_,hx⟩
   have bI:m≠ .aA:=by rintro rfl;cases hm
   simp only[SC.er,kC,cL,hn,Option.map_some,SB.er,List.length_map,w1,w2,ne_eq,bI,not_false_eq_true,and_self,if_true,Ty.er]
  ·cases hx
 ·cases hx
def IV (h:Nat->Option SB):List SC->(List TD->List Nat->Option ρ)->Option ρ
 |[],k=>k [] []
 |c::cs,k=>RR h c fun t x ns=>IV h cs fun l jB=>k (⟨t,x⟩::l) (ns++jB)
theorem Zs {h:Nat->Option SB}:∀{cs:List SC} {k:List TD->List Nat->Option ρ} {r:ρ},IV h cs k=some r->
  ∃l ns,sD (cL h) (cs.map SC.er)=some (cj l,ns)/\k l ns=some r
 |[],k,r,hx=>⟨[],[],rfl,hx⟩
 |c::cs,k,r,hx=>by
  simp only[IV] at hx
  obtain⟨t,x,ns,h1,h2⟩:=ako hx
  obtain⟨l,jB,h3,h4⟩:=Zs h2
  exact⟨⟨t,x⟩::l,ns++jB,by simp[sD,h1,h3,cj],h4⟩
def kOf:Bool->K
 |true=>.agg
 |false=>.one
def Eb (h:Nat->Option SB):List SV->(List bR->List Nat->Option ρ)->Option ρ
 |[],k=>k [] []
 |v::vs,k=>match v.cells? with
  |some (ag,cs)=>IV h cs fun l ns=>Eb h vs fun ds jB=>k ((kOf ag,l)::ds) (ns++jB)
  |none=>none
theorem RS {h:Nat->Option SB}:∀{vs:List SV} {k:List bR->List Nat->Option ρ} {r:ρ},Eb h vs k=some r->
  ∃ds ns,pQ (cL h) (vs.map SV.er)=some (ds.map bR.er,ns)/\k ds ns=some r
 |[],k,r,hx=>⟨[],[],rfl,hx⟩
 |v::vs,k,r,hx=>by
  simp only[Eb] at hx
  split at hx
  ·rename_i ag cs hc
   obtain⟨l,ns,h1,h2⟩:=Zs hx
   obtain⟨ds,jB,h3,h4⟩:=RS h2
   refine⟨_,_,?_,h4⟩
   simp only[List.map_cons,pQ,SV.lI hc,h1,h3]
   cases ag<;>rfl
  ·cases hx
end
def DB:List Nat->Bool
 |[]=>true
 |n::l=> !(l.contains n)&&DB l
theorem Pl:∀{l:List Nat},DB l=true->l.Nodup
 |[],_=>List.nodup_nil
 |n::l,h=>by
  simp only[DB,Bool.and_eq_true,Bool.not_eq_true'] at h
  rw[List.nodup_cons]
  refine⟨fun hm=>?_,Pl h.2⟩
  have:l.contains n=true:=by simpa using hm
  rw[this] at h
  cases h.1
def IU (σ:ah) (ms:List bV) (aH:av):Option (be aH.aZ):=
 wg σ ms fun vs=>Eb σ.h vs fun ds ns=>eB (DB ns) (pI aH ds)
theorem Zr {σ:ah} {ms:List bV} {aH:av} {y:be aH.aZ} (h:IU σ ms aH=some y):σ.er.sC ms=some (cQ aH y):=by
 unfold IU at h
 obtain⟨vs,h1,h2⟩:=Ea h
 obtain⟨ds,ns,h3,h4⟩:=RS h2
 have h5:=(bX h4).1;replace h6:=(bX h4).2
 have uY:pQ σ.er.h (vs.map SV.er)=some (ds.map bR.er,ns):=h3
 simp only[St.sC,h1,uY,if_pos (Pl h5),vK h6]
def gd (N:Nat) (T:List aJ) (sc:bT) (ms:List bV) (args aH:av) (x:be args.aZ):Option (be aH.aZ):=
 kF N T sc (Rs args x) (fun σ=>IU σ ms aH) (fun _ _=>none) (fun σ=>IU σ ms aH)
theorem ajw {T:List aJ} {sc:bT} {ms:List bV} {args aH:av} {x:be args.aZ} {y:be aH.aZ} (h:gd aN T sc ms args aH x=some y):
  Ir (de T) sc.er ms (cQ args x)=some (cQ aH y):=by
 obtain⟨o,h1,h2⟩:=qZ sc h
 rw[aj7] at h1
 unfold Ir
 rw[h1]
 cases o with
 |ft τ=>
  obtain⟨dN,rfl,h2⟩:=h2
  exact Zr h2
 |ret τ=>
  obtain⟨dN,rfl,h2⟩:=h2
  exact Zr h2
 |ext i τ=>
  obtain⟨dN,rfl,h2⟩:=h2
  cases h2
theorem Ch:∀(as:av) (x:be as.aZ),(cQ as x).length=as.length
 |[],_=>rfl
 |[a],_=>rfl
 |a::b::as,x=>by simp only[cQ,List.length_cons,Ch (b::as) x.2]
def oK:Nat->List (Option Mode)->List TD->List SC
 |c,some _::fs,⟨.list ts,xs⟩::l=>.sl (aF+c) ts.length 0 (aa (α:=Ty.DL ts) xs)::oK (c+1) fs l
 |c,some _::fs,⟨.int _,_⟩::l=>.bf::oK (c+1) fs l
 |c,some _::fs,⟨.bool,_⟩::l=>.bf::oK (c+1) fs l
 |c,none::fs,x::l=>.v x.1 x.2::oK c fs l
 |c,[],l=>l.map fun x=>.v x.1 x.2
 |c,_::_,[]=>[]
theorem DS:∀(c:Nat) (fs:List (Option Mode)) (l:List TD),(oK c fs l).map SC.er=fS c fs (cj l)
 |c,some m::fs,⟨.list ts,xs⟩::l=>by
  simp only[oK,cj,List.map_cons,Ty.er,fS,SC.er]
  have:=DS (c+1) fs l
  simp only[cj] at this
  rw[this]
  exact congrArg (fun q=>ai.sl (aF+c) ts.length 0 q::_) (List.length_map (Ty.aD ts)).symm
 |c,some m::fs,⟨.int k,x⟩::l=>by
  simp only[oK,cj,List.map_cons,Ty.er,fS,SC.er]
  exact congrArg _ (DS (c+1) fs l)
 |c,some m::fs,⟨.bool,x⟩::l=>by
  simp only[oK,cj,List.map_cons,Ty.er,fS,SC.er]
  exact congrArg _ (DS (c+1) fs l)
 |c,none::fs,⟨t,x⟩::l=>by
  simp only[oK,cj,List.map_cons,fS,SC.er]
  exact congrArg _ (DS c fs l)
 |c,[],l=>by
  cases l<;>simp[oK,cj,fS,SC.er]
 |c,some m::fs,[]=>rfl
 |c,none::fs,[]=>rfl
def DT (c:Nat) (s:List (Option Mode)) (d:K×List Ty) (x:Ty.DL d.2):SV:=
 match d.1 with
 |.one=>match oK c s (Ty.gy d.2 x) with
  |[y]=>.one y
  |_=>.one .bf
 |.agg=>.agg (oK c s (Ty.gy d.2 x))
 |.ptr=>.one (.cd d.2 x 0)
theorem YO (c:Nat) (s:List (Option Mode)) (d:K×List Ty) (x:Ty.DL d.2):(DT c s d x).er=rv c s (d.1,Ty.aD d.2 x):=by
 obtain⟨k,ts⟩:=d
 have h:=DS c s (Ty.gy ts x)
 rw[Ty.oY] at h
 cases k with
 |one=>
  simp only[DT,rv,<-h]
  generalize oK c s (Ty.gy ts x)=l
  match l with
  |[]=>rfl
  |[y]=>rfl
  |_::_::_=>rfl
 |agg=>simp only[DT,rv,<-h,SV.er]
 |ptr=>rfl
def DY:Nat->Nat->bo->(as:av)->be as.aZ->(Nat->SV)
 |_,_,_,[],_=>fun _=>.one .bf
 |k,c,sig,[a],x=>au (fun _=>.one .bf) k (DT c sig.hd a x)
 |k,c,sig,a::b::as,x=>au (DY (k+1) (c+(dJ sig.hd (Ty.gy a.2 x.1)).length) sig.tl (b::as) x.2) k (DT c sig.hd a x.1)
theorem KF {α β:Type}:∀(s:List (Option Mode)) (l:List α) (l':List β),l.length=l'.length->(dJ s l).length=(dJ s l').length
 |some m::fs,x::xs,y::ys,h=>by simp only[dJ,List.length_cons,KF fs xs ys (by simpa using h)]
 |none::fs,x::xs,y::ys,h=>by simp only[dJ];exact KF fs xs ys (by simpa using h)
 |[],l,l',h=>by cases l<;>cases l'<;>rfl
 |some m::fs,[],[],h=>rfl
 |none::fs,[],[],h=>rfl
 |_::_,[],_::_,h=>by simp at h
 |_::_,_::_,[],h=>by simp at h
theorem aa6 (ts:List Ty) (x:Ty.DL ts):(Ty.gy ts x).length=(Ty.aD ts x).length:=by
 rw[<-Ty.oY,cj,List.length_map]
theorem WH (k c:Nat) (sig:bo) (d:Dv) (ds:List Dv):lk k c sig (d::ds)=au (lk (k+1) (c+(dJ sig.hd d.2).length) sig.tl ds) k (rv c sig.hd d):=by
 cases sig with
 |nil=>
  have:(dJ (bo.hd []) d.2).length=0:=rfl
  rw[this]
  simp only[lk,Nat.add_zero,bo.tl,bo.hd]
 |cons s sig=>rfl
theorem Y2:∀(k c:Nat) (sig:bo) (as:av) (x:be as.aZ),o7 (DY k c sig as x)=lk k c sig (cQ as x)
 |k,c,sig,[],x=>by cases sig<;>rfl
 |k,c,sig,[a],x=>by
  simp only[DY,cQ,uQ]
  have h:=YO c sig.hd a x
  rw[WH]
  have e:lk (k+1) (c+(dJ sig.hd (Ty.aD a.2 x)).length) sig.tl []=uP:=by
   simp only[lk]
  rw[e]
  exact congrArg (fun v=>au (o7 fun _=>SV.one SC.bf) k v) h
 |k,c,sig,a::b::as,x=>by
  have ih:=Y2 (k+1) (c+(dJ sig.hd (Ty.gy a.2 x.1)).length) sig.tl (b::as) x.2
  simp only[DY,cQ,uQ,YO,ih,WH (ds:=cQ (b::as) x.2)]
  rw[KF sig.hd (Ty.gy a.2 x.1) (Ty.aD a.2 x.1) (aa6 _ _)]
def Bi (sig:bo) (as:av) (x:be as.aZ):List (Mode×TD):=dW sig ((nf as x).map (·.2))
theorem Ro (sig:bo) (as:av) (x:be as.aZ):(Bi sig as x).map (fun p=>(p.1,p.2.1.er p.2.2))=dW sig ((cQ as x).map (·.2)):=by
 unfold Bi
 rw[<-zt,<-Gy (fun p:TD=>p.1.er p.2)]
 simp only[List.map_map]
 rfl
def RW:Mode×TD->Option SB
 |(m,⟨.list ts,xs⟩)=>some (.row false m ts xs)
 |_=>none
theorem akq (p:Mode×TD):(RW p).map SB.er=mg (p.1,p.2.1.er p.2.2):=by
 obtain⟨m,t,x⟩:=p
 cases t<;>rfl
def Bq:List (Mode×TD)->Nat->Option SB
 |[],_=>none
 |p::_,0=>RW p
 |_::l,n+1=>Bq l n
theorem Zv:∀(l:List (Mode×TD)) (n:Nat),Bq l n=(l[n]?).bind RW
 |[],n=>by simp[Bq]
 |p::l,0=>by simp[Bq]
 |p::l,n+1=>by simp[Bq,Zv l n]
def Y0 (fl:List (Mode×TD)):Nat->Option SB:=fun n=>match Nat.ble aF n with
 |true=>Bq fl (Nat.sub n aF)
 |false=>none
def Rt (sig:bo) (as:av) (x:be as.aZ):ah:={env:=DY 0 0 sig as x,h:=Y0 (Bi sig as x),used:=fun n=>Nat.ble aF n}
theorem aj5 (sig:bo) (as:av) (x:be as.aZ):(Rt sig as x).er=Ah sig (cQ as x):=by
 simp only[Rt,ah.er,Ah,Y2]
 congr 1
 funext n
 simp only[cL,Y0]
 cases hb:Nat.ble aF n with
 |true=>
  rw[if_pos (Nat.le_of_ble_eq_true hb),<-Ro,Zv]
  simp only[List.getElem?_map]
  cases (Bi sig as x)[n - aF]? with
  |none=>simp
  |some p=>simp[akq]
 |false=>
  rw[if_neg (fun h=>by rw[Nat.ble_eq_true_of_le h] at hb;cases hb)]
  rfl
def ah.ja (σ:ah):ah:={σ with h:=fun n=>match Nat.ble aF n with|true=>none|false=>σ.h n}
theorem ah.ah8 (σ:ah):σ.ja.er=σ.er.ja:=by
 simp only[ah.ja,ah.er,St.ja]
 congr 1
 funext n
 simp only[cL]
 cases hb:Nat.ble aF n with
 |true=>rw[if_pos (Nat.le_of_ble_eq_true hb)];rfl
 |false=>rw[if_neg (fun h=>by rw[Nat.ble_eq_true_of_le h] at hb;cases hb)]
section
variable {ρ:Type}
def RD (σ:ah) (q:Nat) (p:Mode×TD) (k:TD->Option ρ):Option ρ:=
 match p with
 |(m,⟨.list ts,xs⟩)=>match σ.h (aF+q) with
  |some (.row _ m' us ys)=>eB (Mode.beq m' m) (eB (Ty.qk us ts) (eB (Sj m us) ((yy (aa ys) (aa (α:=Ty.DL ts) xs)).ab fun _=>k ⟨.list us,ys⟩)))
  |_=>none
 |_=>none
theorem WR (t:Ty) (x:t.D):(t.er x).pB= !t.dT:=by cases t<;>rfl
theorem WQ:∀(ts:List Ty) (x:Ty.DL ts),(Ty.aD ts x).map C.pB=ts.map fun t=> !t.dT
 |[],_=>rfl
 |[t],x=>congrArg (fun b=>[b]) (WR t x)
 |t::u::ts,x=>by
  have:=WQ (u::ts) x.2
  simp only[List.map_cons] at this
  simp only[Ty.aD,List.map_cons,WR,this]
theorem WS (ts:List Ty) (xs:List (Ty.DL ts)):(List.map (Ty.aD ts) xs).map (fun e=>e.map C.pB)=List.replicate xs.length (ts.map fun t=> !t.dT):=by
 induction xs with
 |nil=>rfl
 |cons x xs ih=>simp only[List.map_cons,WQ,ih,List.length_cons,List.replicate_succ]
theorem akj {σ:ah} {q:Nat} {p:Mode×TD} {k:TD->Option ρ} {r:ρ} (h:RD σ q p k=some r):∃o:TD,AY σ.er q (p.1,p.2.1.er p.2.2)=some (o.1.er o.2)/\k o=some r:=by
 unfold RD at h
 split at h
 ·rename_i m ts xs
  split at h
  ·rename_i gr m' us ys hn
   have h1:=(bX h).1;replace h:=(bX h).2
   have h2:=(bX h).1;replace h:=(bX h).2
   have h3:=(bX h).1;replace h:=(bX h).2
   rw[eN] at h
   obtain⟨_,hs,h⟩:=h
   have hl:aa ys=aa (α:=Ty.DL ts) xs:=by
    unfold yy at hs
    split at hs
    ·assumption
    ·cases hs
   have h1:=Mode.beq_eq h1
   have h2:=Ty.rz h2
   subst h1 h2
   refine⟨_,?_,h⟩
   have bk:σ.er.h (aF+q)=some (.row gr m' us.length (List.map (Ty.aD us) ys)):=by simp[ah.er,cL,hn,SB.er]
   have dq:List.length ys=List.length (α:=Ty.DL us) xs:=hl
   have Vy:(List.map (Ty.aD us) ys).length=(List.map (α:=Ty.DL us) (Ty.aD us) xs).length:=(List.length_map _).trans (dq.trans (List.length_map (as:=(xs:List (Ty.DL us))) (Ty.aD us)).symm)
   have zN:(List.map (Ty.aD us) ys).map (fun e=>e.map C.pB)=(List.map (α:=Ty.DL us) (Ty.aD us) xs).map (fun e=>e.map C.pB):=
    (WS us ys).trans ((congrArg (fun n=>List.replicate n _) dq).trans (WS us xs).symm)
   simp only[AY,Ty.er,bk]
   rw[if_pos ⟨trivial,trivial,Vy,UJ _ _ _ h3,zN⟩]
  ·cases h
 ·cases h
def IJ (σ:ah):Nat->List (Mode×TD)->(List TD->Option ρ)->Option ρ
 |_,[],k=>k []
 |q,p::l,k=>RD σ q p fun o=>IJ σ (q+1) l fun os=>k (o::os)
theorem Zf {σ:ah}:∀{l:List (Mode×TD)} {q:Nat} {k:List TD->Option ρ} {r:ρ},IJ σ q l k=some r->∃os,vQ σ.er q (l.map fun p=>(p.1,p.2.1.er p.2.2))=some (cj os)/\k os=some r
 |[],q,k,r,h=>⟨[],rfl,h⟩
 |p::l,q,k,r,h=>by
  simp only[IJ] at h
  obtain⟨o,h1,h2⟩:=akj h
  obtain⟨os,h3,h4⟩:=Zf h2
  exact⟨o::os,by simp only[List.map_cons,vQ,h1,h3,cj],h4⟩
end
def IW (σ:ah) (ms:List bV) (fl:List (Mode×TD)) (kk:Nat) (aH:av):Option (be aH.aZ):=
 wg σ.ja ms fun vs=>Eb σ.ja.h vs fun ds ns=>eB (DB ns) (cE ds.length kk (IJ σ 0 fl fun os=>pI aH (ds++os.map fun o=>(.one,[o]))))
theorem Zt {σ:ah} {ms:List bV} {fl:List (Mode×TD)} {kk:Nat} {aH:av} {y:be aH.aZ} (h:IW σ ms fl kk aH=some y):
  σ.er.Ba ms (fl.map fun p=>(p.1,p.2.1.er p.2.2))=some (wc kk (cQ aH y)):=by
 unfold IW at h
 obtain⟨vs,h1,h2⟩:=Ea h
 obtain⟨ds,ns,h3,h4⟩:=RS h2
 have h5:=(bX h4).1;replace h4:=(bX h4).2
 have h6:=(aW h4).1;replace h4:=(aW h4).2
 obtain⟨os,h7,h8⟩:=Zf h4
 have uY:pQ σ.ja.er.h (vs.map SV.er)=some (ds.map bR.er,ns):=h3
 have hr:σ.er.ja.sC ms=some (ds.map bR.er):=by
  rw[<-ah.ah8]
  simp only[St.sC,h1,uY,if_pos (Pl h5)]
 simp only[St.Ba,hr,h7,<-vK h8,IL,<-h6]
 congr 2
 ·rw[List.take_left]
 ·rw[List.drop_left]
  congr 1
  clear h7 h8
  induction os with
  |nil=>rfl
  |cons o os ih=>rw[List.map_cons,List.flatMap_cons,<-ih];rfl
def DP (N:Nat) (T:List aJ) (sc:bT) (ms:List bV) (args:av) (mu:bo) (aH:av) (x:be args.aZ):Option (be aH.aZ):=
 kF N T sc (Rt mu args x) (fun σ=>IW σ ms (Bi mu args x) (aH.length - mu.nd) aH) (fun _ _=>none) (fun σ=>IW σ ms (Bi mu args x) (aH.length - mu.nd) aH)
theorem ajv {T:List aJ} {sc:bT} {ms:List bV} {args:av} {mu:bo} {aH:av} {x:be args.aZ} {y:be aH.aZ} (h:DP aN T sc ms args mu aH x=some y):
  Is (de T) sc.er ms mu (cQ args x)=some (wc (aH.length - mu.nd) (cQ aH y)):=by
 obtain⟨o,h1,h2⟩:=qZ sc h
 rw[aj5] at h1
 unfold Is
 rw[h1]
 cases o with
 |ft τ=>
  obtain⟨dN,rfl,h2⟩:=h2
  simp only[<-Ro]
  exact Zt h2
 |ret τ=>
  obtain⟨dN,rfl,h2⟩:=h2
  simp only[<-Ro]
  exact Zt h2
 |ext i τ=>
  obtain⟨dN,rfl,h2⟩:=h2
  cases h2
def DR (k:K) (ts:List Ty) (x:Ty.DL ts):SV:=
 match k with
 |.one=>match Ty.cells ts x with
  |[c]=>.one c
  |_=>.one .bf
 |.agg=>.agg (Ty.cells ts x)
 |.ptr=>.one (.ptr aF 0 0 0)
theorem YN (k:K) (ts:List Ty) (x:Ty.DL ts):(DR k ts x).er=BW (k,Ty.aD ts x):=by
 cases k with
 |one=>
  match ts,x with
  |[],x=>rfl
  |[t],x=>rfl
  |t::u::[],x=>rfl
  |t::u::v::ts,x=>rfl
 |agg=>simp only[DR,SV.er,BW,Ty.lI]
 |ptr=>rfl
def DZ:Nat->(as:av)->be as.aZ->(Nat->SV)
 |_,[],_=>fun _=>.one .bf
 |k,[a],x=>au (fun _=>.one .bf) k (DR a.1 a.2 x)
 |k,a::b::as,x=>au (DZ (k+1) (b::as) x.2) k (DR a.1 a.2 x.1)
theorem Y3:∀(k:Nat) (as:av) (x:be as.aZ),o7 (DZ k as x)=sb k (cQ as x)
 |k,[],x=>rfl
 |k,[a],x=>by
  have e:(DR a.1 a.2 x).er=BW (a.1,Ty.aD a.2 x):=YN a.1 a.2 x
  simp only[DZ,cQ,sb,uQ]
  rw[e]
  rfl
 |k,a::b::as,x=>by
  have ih:=Y3 (k+1) (b::as) x.2
  simp only[DZ,cQ,uQ,YN,ih]
  rw[sb]
def pY:(as:av)->be as.aZ->Option (List TD)
 |[],_=>none
 |[a],x=>match a.1.se with
  |true=>some (Ty.gy a.2 x)
  |false=>none
 |a::b::as,x=>match a.1.se with
  |true=>some (Ty.gy a.2 x.1)
  |false=>pY (b::as) x.2
theorem Ym (k:K) (xs:List C) (ds:List Dv):nF ((k,xs)::ds)=match k.se with|true=>some xs|false=>nF ds:=by cases k<;>rfl
theorem Vi (k:K) (ts:List Ty) (as:av):zF ((k,ts)::as)=match k.se with|true=>true|false=>zF as:=by cases k<;>rfl
theorem RG:∀(as:av) (x:be as.aZ),(pY as x).map cj=nF (cQ as x)
 |[],_=>rfl
 |[(k,ts)],x=>by
  simp only[pY,cQ,Ym]
  cases k.se with
  |true=>exact congrArg some (Ty.oY ts x)
  |false=>rfl
 |(k,ts)::b::as,x=>by
  simp only[pY,cQ,Ym]
  cases k.se with
  |true=>simp only[Option.map_some];rw[Ty.oY]
  |false=>exact RG (b::as) x.2
theorem Zl:∀(as:av) (x:be as.aZ),(pY as x).isSome=zF as
 |[],_=>rfl
 |[(k,ts)],x=>by
  simp only[pY,Vi]
  cases k.se<;>rfl
 |(k,ts)::b::as,x=>by
  simp only[pY]
  rw[Vi]
  cases k.se with
  |true=>rfl
  |false=>exact Zl (b::as) x.2
def Y5 (as:av) (x:be as.aZ):Nat->Option SB:=fun n=>match Nat.beq n aF with
 |true=>match pY as x with
  |some l=>some (.box (l.map fun y=>.v y.1 y.2))
  |none=>none
 |false=>none
def Ru (as:av) (x:be as.aZ):ah:={env:=DZ 0 as x,h:=Y5 as x,used:=fun n=>Nat.ble aF n}
theorem aj6 (as:av) (x:be as.aZ):(Ru as x).er=De (cQ as x):=by
 simp only[Ru,ah.er,De,Y3]
 congr 1
 funext n
 simp only[cL,Y5,nA]
 cases Nat.beq n aF with
 |false=>rfl
 |true=>
  simp only
  rw[<-RG]
  cases pY as x with
  |none=>rfl
  |some l=>simp only[Option.map_some,SB.er,Jd]
section
variable {ρ:Type}
def IQ (h:Nat->Option SB):List SV->(List bR->Option ρ)->Option ρ
 |[],k=>k []
 |v::vs,k=>match v.cells? with
  |some (ag,cs)=>yK h cs fun l=>IQ h vs fun ds=>k ((Nt ag,l)::ds)
  |none=>none
theorem Zq {h:Nat->Option SB}:∀{vs:List SV} {k:List bR->Option ρ} {r:ρ},IQ h vs k=some r->∃ds,pP (cL h) (vs.map SV.er)=some (ds.map bR.er)/\k ds=some r
 |[],k,r,hx=>⟨[],rfl,hx⟩
 |v::vs,k,r,hx=>by
  simp only[IQ] at hx
  split at hx
  ·rename_i ag cs hc
   obtain⟨l,h1,h2⟩:=Ei hx
   obtain⟨ds,h3,h4⟩:=Zq h2
   refine⟨_,?_,h4⟩
   simp only[List.map_cons,pP,SV.lI hc,h1,h3,bR.er]
   cases ag<;>rfl
  ·cases hx
def Zk:List SV->Option (Nat×Nat×Nat)
 |[v]=>v.oF
 |_=>none
def RT (h:Nat->Option SB) (vs:List SV) (k:List bR->Option ρ):Option ρ:=
 match Zk vs with
 |some (n,kk,off)=>match Ix h n kk off with
  |some l=>match Nat.ble aF n with
   |true=>none
   |false=>k [(.ptr,l)]
  |none=>none
 |none=>IQ h vs k
theorem akp {h:Nat->Option SB} {vs:List SV} {k:List bR->Option ρ} {r:ρ} (hx:RT h vs k=some r):∃ds,Bc (cL h) (vs.map SV.er)=some (ds.map bR.er)/\k ds=some r:=by
 unfold RT at hx
 split at hx
 ·rename_i n kk off hp
  have hv:∃sz,vs=[.one (.ptr n kk sz off)]:=by
   unfold Zk at hp
   split at hp
   ·obtain⟨sz,rfl⟩:=Yl hp
    exact⟨sz,rfl⟩
   ·cases hp
  obtain⟨sz,rfl⟩:=hv
  split at hx
  ·rename_i l hl
   split at hx
   ·cases hx
   ·rename_i hb
    refine⟨_,?_,hx⟩
    have e:=YQ (sz:=sz) hl
    have hn:¬aF<=n:=fun gE=>by rw[Nat.ble_eq_true_of_le gE] at hb;cases hb
    simp only[List.map_cons,List.map_nil,Bc,e]
    rw[if_neg hn]
    rfl
  ·cases hx
 ·rename_i hp
  obtain⟨ds,h1,h2⟩:=Zq hx
  refine⟨ds,?_,h2⟩
  unfold Bc
  split
  ·rename_i v0 he
   have hv:∃v,vs=[v]/\v0=v.er:=by
    match vs,he with
    |[v],he=>simp at he;exact⟨v,rfl,he.symm⟩
   obtain⟨v,rfl,rfl⟩:=hv
   have aX:v.oF=none:=hp
   rw[Yk aX]
   exact h1
  ·exact h1
def RE (h:Nat->Option SB) (cur:Option (List TD)) (k:List bR->Option ρ):Option ρ:=
 match cur with
 |none=>k []
 |some xs=>match h aF with
  |some (.box cs)=>cE cs.length xs.length (match yB cs with
   |some l=>k [(.ptr,l)]
   |none=>none)
  |_=>none
theorem akk {h:Nat->Option SB} {cur:Option (List TD)} {k:List bR->Option ρ} {r:ρ} (hx:RE h cur k=some r):
  ∃os:List bR,AZ (cL h) (cur.map cj)=some (cj (os.flatMap (·.2)))/\os.length=(match cur.isSome with|true=>1|false=>0)/\k os=some r:=by
 unfold RE at hx
 split at hx
 ·exact⟨[],rfl,rfl,hx⟩
 ·rename_i xs
  split at hx
  ·rename_i cs hn
   have he:=(aW hx).1;replace hx:=(aW hx).2
   split at hx
   ·rename_i l hl
    refine⟨[(.ptr,l)],?_,rfl,hx⟩
    simp only[Option.map_some,AZ,cL,hn,SB.er,List.length_map]
    rw[if_pos (by rw[he,cj,List.length_map]),IF hl]
    simp
   ·cases hx
  ·cases hx
end
def IX (σ:ah) (ms:List bV) (cur:Option (List TD)) (aH:av):Option (be aH.aZ):=
 wg σ ms fun vs=>RT σ.h vs fun ds=>RE σ.h cur fun os=>pI aH (ds++os)
theorem Zu {σ:ah} {ms:List bV} {args:av} {x:be args.aZ} {aH:av} {y:be aH.aZ} (h:IX σ ms (pY args x) aH=some y):
  σ.er.Bb ms (cQ args x)=some (wc (aH.length - sx args) (cQ aH y)):=by
 unfold IX at h
 obtain⟨vs,h1,h2⟩:=Ea h
 obtain⟨ds,h3,h4⟩:=akp h2
 obtain⟨os,h5,h6,h7⟩:=akk h4
 have h8:=vK h7
 have hlen:aH.length=ds.length+os.length:=by
  have:=congrArg List.length h8
  rw[Ch,List.length_map,List.length_append] at this
  exact this.symm
 have tx:sx args=os.length:=by
  rw[h6,Zl]
  unfold sx
  cases zF args<;>rfl
 have hk:aH.length - sx args=ds.length:=by omega
 have uY:Bc σ.er.h (vs.map SV.er)=some (ds.map bR.er):=h3
 have GJ:AZ σ.er.h (nF (cQ args x))=some (cj (os.flatMap (·.2))):=by rw[<-RG];exact h5
 simp only[St.Bb,h1,uY,GJ,hk]
 rw[<-h8,IL,List.take_left,List.drop_left]
def nJ (N:Nat) (T:List aJ) (sc:bT) (ms:List bV) (args aH:av) (x:be args.aZ):Option (be aH.aZ):=
 kF N T sc (Ru args x) (fun σ=>IX σ ms (pY args x) aH) (fun _ _=>none) (fun σ=>IX σ ms (pY args x) aH)
theorem ajx {T:List aJ} {sc:bT} {ms:List bV} {args aH:av} {x:be args.aZ} {y:be aH.aZ} (h:nJ aN T sc ms args aH x=some y):
  It (de T) sc.er ms (cQ args x)=some (wc (aH.length - sx args) (cQ aH y)):=by
 obtain⟨o,h1,h2⟩:=qZ sc h
 rw[aj6] at h1
 unfold It
 rw[h1]
 cases o with
 |ft τ=>
  obtain⟨dN,rfl,h2⟩:=h2
  exact Zu h2
 |ret τ=>
  obtain⟨dN,rfl,h2⟩:=h2
  exact Zu h2
 |ext i τ=>
  obtain⟨dN,rfl,h2⟩:=h2
  cases h2
def SU (P:Program) (fn:aJ):Prop:=(fn.mu.ii=0->ff P fn.id fn.M)/\(fn.mu.ii=1->uA P fn.id fn.mu fn.MM)/\(fn.mu.ii=2->kP P fn.id fn.MV)/\cg P fn.id=true
def aI (P:Program) (T:List aJ):Prop:=∀fn∈T,SU P fn
theorem aI.nil {P:Program}:aI P []:=fun _ h=>by cases h
theorem aI.Kn {P:Program} {fn:aJ} {T:List aJ} (h:SU P fn) (hT:aI P T):aI P (fn::T):=by
 intro g hg
 cases hg with
 |head=>exact h
 |tail _ hg=>exact hT g hg
theorem aI.cons {P:Program} {f:FuncId} {args aH:av} {F:be args.aZ->Option (be aH.aZ)} {T:List aJ} (h:ff P f (aJ.M ⟨f,args,[],aH,F⟩)/\cg P f=true) (hT:aI P T):aI P (⟨f,args,[],aH,F⟩::T):=
 aI.Kn ⟨fun _=>h.1,fun hm=>(by cases hm),fun hm=>(by cases hm),h.2⟩ hT
theorem aI.ta {P:Program} {f:FuncId} {args:av} {s:List (Option Mode)} {mu:bo} {aH:av} {F:be args.aZ->Option (be aH.aZ)} {T:List aJ} (h:uA P f (s::mu) (aJ.MM ⟨f,args,s::mu,aH,F⟩)/\cg P f=true) (hT:aI P T)
  (hk:bo.ii (s::mu)=1:=by rfl):aI P (⟨f,args,s::mu,aH,F⟩::T):=
 aI.Kn ⟨fun hm=>absurd (hk.symm.trans hm) (by decide),fun _=>h.1,fun hm=>absurd (hk.symm.trans hm) (by decide),h.2⟩ hT
theorem aI.jI {P:Program} {f:FuncId} {args:av} {aH:av} {F:be args.aZ->Option (be aH.aZ)} {T:List aJ} (h:kP P f (aJ.MV ⟨f,args,[[some .aA]],aH,F⟩)/\cg P f=true) (hT:aI P T):aI P (⟨f,args,[[some .aA]],aH,F⟩::T):=
 aI.Kn ⟨fun hm=>(by cases hm),fun hm=>(by cases hm),fun _=>h.1,h.2⟩ hT
theorem I6:∀{T:List aJ} {f:FuncId} {M:List Dv->Option (List Dv)},bg.find (de T).pure f=some M->∃fn∈T,fn.id=f/\M=fn.M/\fn.mu.ii=0
 |[],f,M,h=>by simp[de,bg.find] at h
 |g::l,f,M,h=>by
  simp only[de,List.filterMap_cons] at h
  by_cases hg:g.mu.ii=0
  ·simp only[hg,bg.find] at h
   split at h
   ·rename_i e
    injection h with h
    exact⟨g,by simp,e.symm,h.symm,hg⟩
   ·obtain⟨fn,h1,h2,h3⟩:=I6 (T:=l) h
    exact⟨fn,by simp[h1],h2,h3⟩
  ·split at h
   ·obtain⟨fn,h1,h2,h3⟩:=I6 (T:=l) h
    exact⟨fn,by simp[h1],h2,h3⟩
   ·rename_i z hz
    split at hz
    ·rename_i h0;exact absurd h0 hg
    ·cases hz
theorem Sc:∀{T:List aJ} {f:FuncId} {sig:bo} {M:List Dv->Option (List Dv×List C)},bg.qt (de T).AP f=some (sig,M)->∃fn∈T,fn.id=f/\sig=fn.mu/\M=fn.MM/\fn.mu.ii=1
 |[],f,sig,M,h=>by simp[de,bg.qt] at h
 |g::l,f,sig,M,h=>by
  simp only[de,List.filterMap_cons] at h
  by_cases hg:g.mu.ii=1
  ·simp only[hg,bg.qt] at h
   split at h
   ·rename_i e
    injection h with h
    injection h with ha hb
    exact⟨g,by simp,e.symm,ha.symm,hb.symm,hg⟩
   ·obtain⟨fn,h1,h2,h3⟩:=Sc (T:=l) h
    exact⟨fn,by simp[h1],h2,h3⟩
  ·split at h
   ·obtain⟨fn,h1,h2,h3⟩:=Sc (T:=l) h
    exact⟨fn,by simp[h1],h2,h3⟩
   ·rename_i z hz
    split at hz
    ·rename_i h0;exact absurd h0 hg
    ·cases hz
theorem Sd:∀{T:List aJ} {f:FuncId} {M:List Dv->Option (List Dv×List C)},bg.ni (de T).vs f=some M->∃fn∈T,fn.id=f/\M=fn.MV/\fn.mu.ii=2
 |[],f,M,h=>by simp[de,bg.ni] at h
 |g::l,f,M,h=>by
  simp only[de,List.filterMap_cons] at h
  by_cases hg:g.mu.ii=2
  ·simp only[hg,bg.ni] at h
   split at h
   ·rename_i e
    injection h with h
    exact⟨g,by simp,e.symm,h.symm,hg⟩
   ·obtain⟨fn,h1,h2,h3⟩:=Sd (T:=l) h
    exact⟨fn,by simp[h1],h2,h3⟩
  ·split at h
   ·obtain⟨fn,h1,h2,h3⟩:=Sd (T:=l) h
    exact⟨fn,by simp[h1],h2,h3⟩
   ·rename_i z hz
    split at hz
    ·rename_i h0;exact absurd h0 hg
    ·cases hz
theorem aI.tok {P:Program} {T:List aJ} (hT:aI P T):m7 P (de T):=by
 refine⟨fun g M hM=>?_,fun g sig M hM=>?_,fun g M hM=>?_,fun g M hM=>?_⟩
 ·obtain⟨xi,h1,h2,h3,h4⟩:=I6 hM
  subst h2 h3
  exact(hT xi h1).1 h4
 ·obtain⟨xi,h1,h2,h3,h4,h5⟩:=Sc hM
  subst h2 h3 h4
  exact(hT xi h1).2.1 h5
 ·obtain⟨xi,h1,h2,h3,h4⟩:=Sd hM
  subst h2 h3
  exact(hT xi h1).2.2.1 h4
 ·obtain⟨xi,h1,h2,h3,h4⟩:=I6 hM
  subst h2
  exact(hT xi h1).2.2.2
def dh (P:Program) (f:FuncId) (mc:kN) (ms:List bV) (n:Nat):Bool:=
 match P.funcs[f]? with
 |some fn=>match fn.body with
  |some c=>iz P fn.ntmps c mc&&mw P fn.results.toList ms&&decide (n<=fn.ntmps)&&(fn.name != "runtime.NumGoroutine")
  |none=>false
 |none=>false
theorem Kj {P:Program} {f:FuncId} {mc:kN} {ms:List bV} {n:Nat} (h:dh P f mc ms n=true):cg P f=true:=by
 unfold dh at h
 unfold cg
 split at h
 ·rename_i fn hf
  split at h
  ·rename_i c hb
   simp only[Bool.and_eq_true] at h
   simp[hf,hb,h.2]
  ·cases h
 ·cases h
theorem gN {P:Program} {T:List aJ} (hT:aI P T) (hm:P.follows .mixedOrders=true) {f:FuncId} {sc:bT} {ms:List bV} {args aH:av} (hc:dh P f sc.er ms args.length=true)
  (F:be args.aZ->Option (be aH.aZ)) (hF:∀x y,F x=some y->gd aN T sc ms args aH x=some y):ff P f (aJ.M ⟨f,args,[],aH,F⟩)/\cg P f=true:=by
 refine⟨?_,Kj hc⟩
 unfold dh at hc
 split at hc
 ·rename_i fn hf
  split at hc
  ·rename_i c hb
   simp only[Bool.and_eq_true,decide_eq_true_eq] at hc
   refine aiY (T:=de T) hT.tok hm hf hb hc.1.1.1 hc.1.1.2 fun ds rs hM=>?_
   obtain⟨x,y,h1,h2,h3⟩:=aJ.JK hM
   subst h1 h3
   exact⟨by rw[Ch];exact hc.1.2,ajw (hF x y h2)⟩
  ·cases hc
 ·cases hc
theorem Ph {P:Program} {T:List aJ} (hT:aI P T) (hm:P.follows .mixedOrders=true) {f:FuncId} {sc:bT} {ms:List bV} {args:av} {mu:bo} {aH:av} (hc:dh P f sc.er ms args.length=true)
  (F:be args.aZ->Option (be aH.aZ)) (hF:∀x y,F x=some y->DP aN T sc ms args mu aH x=some y):uA P f mu (aJ.MM ⟨f,args,mu,aH,F⟩)/\cg P f=true:=by
 refine⟨?_,Kj hc⟩
 unfold dh at hc
 split at hc
 ·rename_i fn hf
  split at hc
  ·rename_i c hb
   simp only[Bool.and_eq_true,decide_eq_true_eq] at hc
   refine ahk (T:=de T) hT.tok hm hf hb hc.1.1.1 hc.1.1.2 fun ds rs d7 hM=>?_
   unfold aJ.MM at hM
   rw[Option.map_eq_some_iff] at hM
   obtain⟨t9,h0,Ln⟩:=hM
   obtain⟨x,y,h1,h2,h3⟩:=aJ.JK h0
   subst h1 h3
   refine⟨by rw[Ch];exact hc.1.2,?_⟩
   rw[<-Ln]
   exact ajv (hF x y h2)
  ·cases hc
 ·cases hc
theorem qd {P:Program} {T:List aJ} (hT:aI P T) (hm:P.follows .mixedOrders=true) {f:FuncId} {sc:bT} {ms:List bV} {args aH:av} (hc:dh P f sc.er ms args.length=true)
  (F:be args.aZ->Option (be aH.aZ)) (hF:∀x y,F x=some y->nJ aN T sc ms args aH x=some y):kP P f (aJ.MV ⟨f,args,[[some .aA]],aH,F⟩)/\cg P f=true:=by
 refine⟨?_,Kj hc⟩
 unfold dh at hc
 split at hc
 ·rename_i fn hf
  split at hc
  ·rename_i c hb
   simp only[Bool.and_eq_true,decide_eq_true_eq] at hc
   refine alc (T:=de T) hT.tok hm hf hb hc.1.1.1 hc.1.1.2 fun ds rs out hM=>?_
   unfold aJ.MV at hM
   rw[Option.map_eq_some_iff] at hM
   obtain⟨t9,h0,Ln⟩:=hM
   obtain⟨x,y,h1,h2,h3⟩:=aJ.JK h0
   subst h1 h3
   refine⟨by rw[Ch];exact hc.1.2,?_⟩
   rw[<-Ln]
   exact ajx (hF x y h2)
  ·cases hc
 ·cases hc
end Go.Am
