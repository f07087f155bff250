/- S7: typed functions as a whole. No condition. -/
import Derived.Test.YtbgmbplglejidaaS6
import Derived.Test.YtbgmbplglejidaaAmY
set_option linter.unusedVariables false
namespace Go.Am
def EU (k:K) (ts:List Ty) (x:Ty.DL ts):SV:=
 match k with
 |.one=>match Ty.cells ts x with
  |[c]=>.one c
  |_=>.one .bm
 |.agg=>.agg (Ty.cells ts x)
 |.ptr=>.one (.cu ts x 0)
theorem abD (k:K) (ts:List Ty) (x:Ty.DL ts):(EU k ts x).er=xF (k,Ty.aH ts x):=by
 cases k with
 |one=>
  match ts,x with
  |[],x=>rfl
  |[t],x=>rfl
  |t::u::[],x=>rfl
  |t::u::v::ts,x=>rfl
 |agg=>simp only[EU,SV.er,xF,Ty.lx]
 |ptr=>rfl
def EZ:Nat->(as:ak)->aQ as.aP->(Nat->SV)
 |_,[],_=>fun _=>.one .bm
 |k,[a],x=>au (fun _=>.one .bm) k (EU a.1 a.2 x)
 |k,a::b::as,x=>au (EZ (k+1) (b::as) x.2) k (EU a.1 a.2 x.1)
theorem abT:∀(k:Nat) (as:ak) (x:aQ as.aP),pW (EZ k as x)=sV k (c9 as x)
 |k,[],x=>rfl
 |k,[a],x=>by
  have e:(EU a.1 a.2 x).er=xF (a.1,Ty.aH a.2 x):=abD a.1 a.2 x
  simp only[EZ,c9,sV,vK]
  rw[e]
  rfl
 |k,a::b::as,x=>by
  have ih:=abT (k+1) (b::as) x.2
  simp only[EZ,c9,vK,abD,ih]
  rw[sV]
def Un (as:ak) (x:aQ as.aP):af:={env:=EZ 0 as x,h:=fun _=>none,used:=fun n=>Nat.ble aK n}
theorem aot (as:ak) (x:aQ as.aP):(Un as x).er=Ec (c9 as x):=by
 simp only[Un,af.er,Ec,abT]
 rfl
section
variable {ρ:Type}
def xa (σ:af):List bA->(List SV->Option ρ)->Option ρ
 |[],k=>k []
 |.tmp t::ms,k=>xa σ ms fun vs=>k (σ.env t::vs)
 |.cell t sz ag::ms,k=>match σ.env t with
  |.one p=>E5 σ.h p sz fun cs=>xa σ ms fun vs=>k (zu ag cs::vs)
  |_=>none
theorem Fc {σ:af}:∀{ms:List bA} {k:List SV->Option ρ} {r:ρ},xa σ ms k=some r->∃vs,σ.er.rU ms=some (vs.map SV.er)/\k vs=some r
 |[],k,r,h=>⟨[],rfl,h⟩
 |.tmp t::ms,k,r,h=>by
  simp only[xa] at h
  obtain⟨vs,h1,h2⟩:=Fc h
  exact⟨_,by simp only[St.rU,h1];rfl,h2⟩
 |.cell t sz ag::ms,k,r,h=>by
  simp only[xa] at h
  split at h
  ·rename_i p hp
   obtain⟨cs,h1,h2⟩:=Uu h
   obtain⟨vs,h3,h4⟩:=Fc h2
   have bi:σ.er.env t=.one p.er:=by show(σ.env t).er=_;rw[hp];rfl
   have jO:loadAt σ.er.h p.er sz=some (cs.map SC.er):=h1
   exact⟨_,by simp only[St.rU,bi,jO,h3,List.map_cons,Cr],h4⟩
  ·cases h
def UP (h:Nat->Option SB) (c:SC) (k:(t:Ty)->t.D->List Nat->Option ρ):Option ρ:=
 match c with
 |.v t x=>e7 t.eN (k t x [])
 |.nil ts=>match ts with
  |[]=>none
  |t::us=>k (.list (t::us)) ([]:List (Ty.DL (t::us))) []
 |.sl n sz lo len=>match h n with
  |some (.row true m ts xs)=>cJ ts.length sz (e7 m.own (cJ lo 0 ((dP xs len).aa fun ys=>k (.list ts) ys [n])))
  |_=>none
 |_=>none
theorem aoP {h:Nat->Option SB} {c:SC} {k:(t:Ty)->t.D->List Nat->Option ρ} {r:ρ} (hx:UP h c k=some r):
  ∃(t:Ty) (x:t.D) (ns:List Nat),kR (cU h) c.er=some (t.er x,ns)/\k t x ns=some r:=by
 unfold UP at hx
 split at hx
 ·rename_i t x
  have h1:=(cm hx).1;replace hx:=(cm hx).2
  exact⟨t,x,[],by simp only[SC.er,kR,Ty.wX,h1,if_true],hx⟩
 ·split at hx
  ·cases hx
  ·rename_i t us
   exact⟨.list (t::us),[],[],by simp[SC.er,kR,Ty.er],hx⟩
 ·rename_i n sz lo len
  split at hx
  ·rename_i m ts xs hn
   have bq:=(bg hx).1;replace hx:=(bg hx).2;subst bq
   have hm:=(cm hx).1;replace hx:=(cm hx).2
   have bq:=(bg hx).1;replace hx:=(bg hx).2;subst bq
   rw[eP] at hx
   obtain⟨ys,hw,hx⟩:=hx
   obtain⟨w1,w2⟩:=acL hw
   refine⟨.list ts,ys,[n],?_,hx⟩
   have bJ:m≠ .aD:=by rintro rfl;cases hm
   simp only[SC.er,kR,cU,hn,Option.map_some,SB.er,List.length_map,w1,w2,ne_eq,bJ,not_false_eq_true,and_self,if_true,Ty.er]
  ·cases hx
 ·cases hx
def Kj (h:Nat->Option SB):List SC->(List TD->List Nat->Option ρ)->Option ρ
 |[],k=>k [] []
 |c::cs,k=>UP h c fun t x ns=>Kj h cs fun l jW=>k (⟨t,x⟩::l) (ns++jW)
theorem acu {h:Nat->Option SB}:∀{cs:List SC} {k:List TD->List Nat->Option ρ} {r:ρ},Kj h cs k=some r->
  ∃l ns,te (cU h) (cs.map SC.er)=some (cD l,ns)/\k l ns=some r
 |[],k,r,hx=>⟨[],[],rfl,hx⟩
 |c::cs,k,r,hx=>by
  simp only[Kj] at hx
  obtain⟨t,x,ns,h1,h2⟩:=aoP hx
  obtain⟨l,jW,h3,h4⟩:=acu h2
  exact⟨⟨t,x⟩::l,ns++jW,by simp[te,h1,h3,cD],h4⟩
def kOf:Bool->K
 |true=>.agg
 |false=>.one
def Fe (h:Nat->Option SB):List SV->(List bT->List Nat->Option ρ)->Option ρ
 |[],k=>k [] []
 |v::vs,k=>match v.cells? with
  |some (ag,cs)=>Kj h cs fun l ns=>Fe h vs fun ds jW=>k ((kOf ag,l)::ds) (ns++jW)
  |none=>none
theorem UQ {h:Nat->Option SB}:∀{vs:List SV} {k:List bT->List Nat->Option ρ} {r:ρ},Fe h vs k=some r->
  ∃ds ns,qG (cU h) (vs.map SV.er)=some (ds.map bT.er,ns)/\k ds ns=some r
 |[],k,r,hx=>⟨[],[],rfl,hx⟩
 |v::vs,k,r,hx=>by
  simp only[Fe] at hx
  split at hx
  ·rename_i ag cs hc
   obtain⟨l,ns,h1,h2⟩:=acu hx
   obtain⟨ds,jW,h3,h4⟩:=UQ h2
   refine⟨_,_,?_,h4⟩
   simp only[List.map_cons,qG,SV.lx hc,h1,h3]
   cases ag<;>rfl
  ·cases hx
end
def Ez:List Nat->Bool
 |[]=>true
 |n::l=> !(l.contains n)&&Ez l
theorem Q6:∀{l:List Nat},Ez l=true->l.Nodup
 |[],_=>List.nodup_nil
 |n::l,h=>by
  simp only[Ez,Bool.and_eq_true,Bool.not_eq_true'] at h
  rw[List.nodup_cons]
  refine⟨fun hm=>?_,Q6 h.2⟩
  have:l.contains n=true:=by simpa using hm
  rw[this] at h
  cases h.1
def Ki (σ:af) (ms:List bA) (aA:ak):Option (aQ aA.aP):=
 xa σ ms fun vs=>Fe σ.h vs fun ds ns=>e7 (Ez ns) (n8 aA ds)
theorem acs {σ:af} {ms:List bA} {aA:ak} {y:aQ aA.aP} (h:Ki σ ms aA=some y):σ.er.td ms=some (c9 aA y):=by
 unfold Ki at h
 obtain⟨vs,h1,h2⟩:=Fc h
 obtain⟨ds,ns,h3,h4⟩:=UQ h2
 have h5:=(cm h4).1;replace h6:=(cm h4).2
 have vQ:qG σ.er.h (vs.map SV.er)=some (ds.map bT.er,ns):=h3
 simp only[St.td,h1,vQ,if_pos (Q6 h5),s8 h6]
def dH (N:Nat) (T:List ar) (sc:bw) (ms:List bA) (args aA:ak) (x:aQ args.aP):Option (aQ aA.aP):=
 kT N T sc (Un args x) (fun σ=>Ki σ ms aA) (fun _ _=>none) (fun σ=>Ki σ ms aA)
theorem anO {T:List ar} {sc:bw} {ms:List bA} {args aA:ak} {x:aQ args.aP} {y:aQ aA.aP} (h:dH ax T sc ms args aA x=some y):
  JS (cL T) sc.er ms (c9 args x)=some (c9 aA y):=by
 obtain⟨o,h1,h2⟩:=rY sc h
 rw[aot] at h1
 unfold JS
 rw[h1]
 cases o with
 |fG τ=>
  obtain⟨eB,rfl,h2⟩:=h2
  exact acs h2
 |ret τ=>
  obtain⟨eB,rfl,h2⟩:=h2
  exact acs h2
 |ext i τ=>
  obtain⟨eB,rfl,h2⟩:=h2
  cases h2
theorem Dc:∀(as:ak) (x:aQ as.aP),(c9 as x).length=as.length
 |[],_=>rfl
 |[a],_=>rfl
 |a::b::as,x=>by simp only[c9,List.length_cons,Dc (b::as) x.2]
def pG:Nat->List (Option Mode)->List TD->List SC
 |c,some _::fs,⟨.list ts,xs⟩::l=>.sl (aK+c) ts.length 0 (J (α:=Ty.DL ts) xs)::pG (c+1) fs l
 |c,some _::fs,⟨.int _,_⟩::l=>.bm::pG (c+1) fs l
 |c,some _::fs,⟨.bool,_⟩::l=>.bm::pG (c+1) fs l
 |c,none::fs,x::l=>.v x.1 x.2::pG c fs l
 |c,[],l=>l.map fun x=>.v x.1 x.2
 |c,_::_,[]=>[]
theorem ES:∀(c:Nat) (fs:List (Option Mode)) (l:List TD),(pG c fs l).map SC.er=gv c fs (cD l)
 |c,some m::fs,⟨.list ts,xs⟩::l=>by
  simp only[pG,cD,List.map_cons,Ty.er,gv,SC.er]
  have:=ES (c+1) fs l
  simp only[cD] at this
  rw[this]
  exact congrArg (fun q=>ah.sl (aK+c) ts.length 0 q::_) (List.length_map (Ty.aH ts)).symm
 |c,some m::fs,⟨.int k,x⟩::l=>by
  simp only[pG,cD,List.map_cons,Ty.er,gv,SC.er]
  exact congrArg _ (ES (c+1) fs l)
 |c,some m::fs,⟨.bool,x⟩::l=>by
  simp only[pG,cD,List.map_cons,Ty.er,gv,SC.er]
  exact congrArg _ (ES (c+1) fs l)
 |c,none::fs,⟨t,x⟩::l=>by
  simp only[pG,cD,List.map_cons,gv,SC.er]
  exact congrArg _ (ES c fs l)
 |c,[],l=>by
  cases l<;>simp[pG,cD,gv,SC.er]
 |c,some m::fs,[]=>rfl
 |c,none::fs,[]=>rfl
def ET (c:Nat) (s:List (Option Mode)) (d:K×List Ty) (x:Ty.DL d.2):SV:=
 match d.1 with
 |.one=>match pG c s (Ty.gT d.2 x) with
  |[y]=>.one y
  |_=>.one .bm
 |.agg=>.agg (pG c s (Ty.gT d.2 x))
 |.ptr=>.one (.cu d.2 x 0)
theorem abC (c:Nat) (s:List (Option Mode)) (d:K×List Ty) (x:Ty.DL d.2):(ET c s d x).er=sf c s (d.1,Ty.aH d.2 x):=by
 obtain⟨k,ts⟩:=d
 have h:=ES c s (Ty.gT ts x)
 rw[Ty.pS] at h
 cases k with
 |one=>
  simp only[ET,sf,<-h]
  generalize pG c s (Ty.gT ts x)=l
  match l with
  |[]=>rfl
  |[y]=>rfl
  |_::_::_=>rfl
 |agg=>simp only[ET,sf,<-h,SV.er]
 |ptr=>rfl
def E0:Nat->Nat->aN->(as:ak)->aQ as.aP->(Nat->SV)
 |_,_,_,[],_=>fun _=>.one .bm
 |k,c,sig,[a],x=>au (fun _=>.one .bm) k (ET c sig.hd a x)
 |k,c,sig,a::b::as,x=>au (E0 (k+1) (c+(eo sig.hd (Ty.gT a.2 x.1)).length) sig.tl (b::as) x.2) k (ET c sig.hd a x.1)
theorem MC {α β:Type}:∀(s:List (Option Mode)) (l:List α) (l':List β),l.length=l'.length->(eo s l).length=(eo s l').length
 |some m::fs,x::xs,y::ys,h=>by simp only[eo,List.length_cons,MC fs xs ys (by simpa using h)]
 |none::fs,x::xs,y::ys,h=>by simp only[eo];exact MC fs xs ys (by simpa using h)
 |[],l,l',h=>by cases l<;>cases l'<;>rfl
 |some m::fs,[],[],h=>rfl
 |none::fs,[],[],h=>rfl
 |_::_,[],_::_,h=>by simp at h
 |_::_,_::_,[],h=>by simp at h
theorem aer (ts:List Ty) (x:Ty.DL ts):(Ty.gT ts x).length=(Ty.aH ts x).length:=by
 rw[<-Ty.pS,cD,List.length_map]
theorem Zy (k c:Nat) (sig:aN) (d:Dv) (ds:List Dv):lK k c sig (d::ds)=au (lK (k+1) (c+(eo sig.hd d.2).length) sig.tl ds) k (sf c sig.hd d):=by
 cases sig with
 |nil=>
  have:(eo (aN.hd []) d.2).length=0:=rfl
  rw[this]
  simp only[lK,Nat.add_zero,aN.tl,aN.hd]
 |cons s sig=>rfl
theorem abR:∀(k c:Nat) (sig:aN) (as:ak) (x:aQ as.aP),pW (E0 k c sig as x)=lK k c sig (c9 as x)
 |k,c,sig,[],x=>by cases sig<;>rfl
 |k,c,sig,[a],x=>by
  simp only[E0,c9,vK]
  have h:=abC c sig.hd a x
  rw[Zy]
  have e:lK (k+1) (c+(eo sig.hd (Ty.aH a.2 x)).length) sig.tl []=vJ:=by
   simp only[lK]
  rw[e]
  exact congrArg (fun v=>au (pW fun _=>SV.one SC.bm) k v) h
 |k,c,sig,a::b::as,x=>by
  have ih:=abR (k+1) (c+(eo sig.hd (Ty.gT a.2 x.1)).length) sig.tl (b::as) x.2
  simp only[E0,c9,vK,abC,ih,Zy (ds:=c9 (b::as) x.2)]
  rw[MC sig.hd (Ty.gT a.2 x.1) (Ty.aH a.2 x.1) (aer _ _)]
def B9 (sig:aN) (as:ak) (x:aQ as.aP):List (Mode×TD):=eC sig ((kC as x).map (·.2))
theorem Uk (sig:aN) (as:ak) (x:aQ as.aP):(B9 sig as x).map (fun p=>(p.1,p.2.1.er p.2.2))=eC sig ((c9 as x).map (·.2)):=by
 unfold B9
 rw[<-vI,<-Io (fun p:TD=>p.1.er p.2)]
 simp only[List.map_map]
 rfl
def UT:Mode×TD->Option SB
 |(m,⟨.list ts,xs⟩)=>some (.row false m ts xs)
 |_=>none
theorem aoR (p:Mode×TD):(UT p).map SB.er=mU (p.1,p.2.1.er p.2.2):=by
 obtain⟨m,t,x⟩:=p
 cases t<;>rfl
def Co:List (Mode×TD)->Nat->Option SB
 |[],_=>none
 |p::_,0=>UT p
 |_::l,n+1=>Co l n
theorem acx:∀(l:List (Mode×TD)) (n:Nat),Co l n=(l[n]?).bind UT
 |[],n=>by simp[Co]
 |p::l,0=>by simp[Co]
 |p::l,n+1=>by simp[Co,acx l n]
def abP (fl:List (Mode×TD)):Nat->Option SB:=fun n=>match Nat.ble aK n with
 |true=>Co fl (Nat.sub n aK)
 |false=>none
def Uo (sig:aN) (as:ak) (x:aQ as.aP):af:={env:=E0 0 0 sig as x,h:=abP (B9 sig as x),used:=fun n=>Nat.ble aK n}
theorem aor (sig:aN) (as:ak) (x:aQ as.aP):(Uo sig as x).er=Bt sig (c9 as x):=by
 simp only[Uo,af.er,Bt,abR]
 congr 1
 funext n
 simp only[cU,abP]
 cases hb:Nat.ble aK n with
 |true=>
  rw[if_pos (Nat.le_of_ble_eq_true hb),<-Uk,acx]
  simp only[List.getElem?_map]
  cases (B9 sig as x)[n - aK]? with
  |none=>simp
  |some p=>simp[aoR]
 |false=>
  rw[if_neg (fun h=>by rw[Nat.ble_eq_true_of_le h] at hb;cases hb)]
  rfl
def af.jG (σ:af):af:={σ with h:=fun n=>match Nat.ble aK n with|true=>none|false=>σ.h n}
theorem af.alO (σ:af):σ.jG.er=σ.er.jG:=by
 simp only[af.jG,af.er,St.jG]
 congr 1
 funext n
 simp only[cU]
 cases hb:Nat.ble aK n with
 |true=>rw[if_pos (Nat.le_of_ble_eq_true hb)];rfl
 |false=>rw[if_neg (fun h=>by rw[Nat.ble_eq_true_of_le h] at hb;cases hb)]
section
variable {ρ:Type}
def UE (σ:af) (q:Nat) (p:Mode×TD) (k:TD->Option ρ):Option ρ:=
 match p with
 |(m,⟨.list ts,xs⟩)=>match σ.h (aK+q) with
  |some (.row _ m' us ys)=>e7 (Mode.beq m' m) (e7 (Ty.q8 us ts) (e7 (Vi m us) ((pF (J ys) (J (α:=Ty.DL ts) xs)).aa fun _=>k ⟨.list us,ys⟩)))
  |_=>none
 |_=>none
theorem ZI (t:Ty) (x:t.D):(t.er x).qq= !t.eN:=by cases t<;>rfl
theorem ZH:∀(ts:List Ty) (x:Ty.DL ts),(Ty.aH ts x).map C.qq=ts.map fun t=> !t.eN
 |[],_=>rfl
 |[t],x=>congrArg (fun b=>[b]) (ZI t x)
 |t::u::ts,x=>by
  have:=ZH (u::ts) x.2
  simp only[List.map_cons] at this
  simp only[Ty.aH,List.map_cons,ZI,this]
theorem ZJ (ts:List Ty) (xs:List (Ty.DL ts)):(List.map (Ty.aH ts) xs).map (fun e=>e.map C.qq)=List.replicate xs.length (ts.map fun t=> !t.eN):=by
 induction xs with
 |nil=>rfl
 |cons x xs ih=>simp only[List.map_cons,ZH,ih,List.length_cons,List.replicate_succ]
theorem aoK {σ:af} {q:Nat} {p:Mode×TD} {k:TD->Option ρ} {r:ρ} (h:UE σ q p k=some r):∃o:TD,BT σ.er q (p.1,p.2.1.er p.2.2)=some (o.1.er o.2)/\k o=some r:=by
 unfold UE at h
 split at h
 ·rename_i m ts xs
  split at h
  ·rename_i gr m' us ys hn
   have h1:=(cm h).1;replace h:=(cm h).2
   have h2:=(cm h).1;replace h:=(cm h).2
   have h3:=(cm h).1;replace h:=(cm h).2
   rw[eP] at h
   obtain⟨_,hs,h⟩:=h
   have hl:J ys=J (α:=Ty.DL ts) xs:=by
    unfold pF at hs
    split at hs
    ·assumption
    ·cases hs
   have h1:=Mode.beq_eq h1
   have h2:=Ty.si h2
   subst h1 h2
   refine⟨_,?_,h⟩
   have bj:σ.er.h (aK+q)=some (.row gr m' us.length (List.map (Ty.aH us) ys)):=by simp[af.er,cU,hn,SB.er]
   have dw:List.length ys=List.length (α:=Ty.DL us) xs:=hl
   have hl1:(List.map (Ty.aH us) ys).length=(List.map (α:=Ty.DL us) (Ty.aH us) xs).length:=(List.length_map _).trans (dw.trans (List.length_map (as:=(xs:List (Ty.DL us))) (Ty.aH us)).symm)
   have yo:(List.map (Ty.aH us) ys).map (fun e=>e.map C.qq)=(List.map (α:=Ty.DL us) (Ty.aH us) xs).map (fun e=>e.map C.qq):=
    (ZJ us ys).trans ((congrArg (fun n=>List.replicate n _) dw).trans (ZJ us xs).symm)
   simp only[BT,Ty.er,bj]
   rw[if_pos ⟨trivial,trivial,hl1,XX _ _ _ h3,yo⟩]
  ·cases h
 ·cases h
def Ke (σ:af):Nat->List (Mode×TD)->(List TD->Option ρ)->Option ρ
 |_,[],k=>k []
 |q,p::l,k=>UE σ q p fun o=>Ke σ (q+1) l fun os=>k (o::os)
theorem acd {σ:af}:∀{l:List (Mode×TD)} {q:Nat} {k:List TD->Option ρ} {r:ρ},Ke σ q l k=some r->∃os,wN σ.er q (l.map fun p=>(p.1,p.2.1.er p.2.2))=some (cD os)/\k os=some r
 |[],q,k,r,h=>⟨[],rfl,h⟩
 |p::l,q,k,r,h=>by
  simp only[Ke] at h
  obtain⟨o,h1,h2⟩:=aoK h
  obtain⟨os,h3,h4⟩:=acd h2
  exact⟨o::os,by simp only[List.map_cons,wN,h1,h3,cD],h4⟩
end
def Kk (σ:af) (ms:List bA) (fl:List (Mode×TD)) (kk:Nat) (aA:ak):Option (aQ aA.aP):=
 xa σ.jG ms fun vs=>Fe σ.jG.h vs fun ds ns=>e7 (Ez ns) (cJ ds.length kk (Ke σ 0 fl fun os=>n8 aA (ds++os.map fun o=>(.one,[o]))))
theorem acv {σ:af} {ms:List bA} {fl:List (Mode×TD)} {kk:Nat} {aA:ak} {y:aQ aA.aP} (h:Kk σ ms fl kk aA=some y):
  σ.er.B2 ms (fl.map fun p=>(p.1,p.2.1.er p.2.2))=some (w9 kk (c9 aA y)):=by
 unfold Kk at h
 obtain⟨vs,h1,h2⟩:=Fc h
 obtain⟨ds,ns,h3,h4⟩:=UQ h2
 have h5:=(cm h4).1;replace h4:=(cm h4).2
 have h6:=(bg h4).1;replace h4:=(bg h4).2
 obtain⟨os,h7,h8⟩:=acd h4
 have vQ:qG σ.jG.er.h (vs.map SV.er)=some (ds.map bT.er,ns):=h3
 have hr:σ.er.jG.td ms=some (ds.map bT.er):=by
  rw[<-af.alO]
  simp only[St.td,h1,vQ,if_pos (Q6 h5)]
 simp only[St.B2,hr,h7,<-s8 h8,E9,<-h6]
 congr 2
 ·rw[List.take_left]
 ·rw[List.drop_left]
  congr 1
  clear h7 h8
  induction os with
  |nil=>rfl
  |cons o os ih=>rw[List.map_cons,List.flatMap_cons,<-ih];rfl
def u0 (N:Nat) (T:List ar) (sc:bw) (ms:List bA) (args:ak) (mu:aN) (aA:ak) (x:aQ args.aP):Option (aQ aA.aP):=
 kT N T sc (Uo mu args x) (fun σ=>Kk σ ms (B9 mu args x) (aA.length - mu.gL) aA) (fun _ _=>none) (fun σ=>Kk σ ms (B9 mu args x) (aA.length - mu.gL) aA)
theorem anN {T:List ar} {sc:bw} {ms:List bA} {args:ak} {mu:aN} {aA:ak} {x:aQ args.aP} {y:aQ aA.aP} (h:u0 ax T sc ms args mu aA x=some y):
  JT (cL T) sc.er ms mu (c9 args x)=some (w9 (aA.length - mu.gL) (c9 aA y)):=by
 obtain⟨o,h1,h2⟩:=rY sc h
 rw[aor] at h1
 unfold JT
 rw[h1]
 cases o with
 |fG τ=>
  obtain⟨eB,rfl,h2⟩:=h2
  simp only[<-Uk]
  exact acv h2
 |ret τ=>
  obtain⟨eB,rfl,h2⟩:=h2
  simp only[<-Uk]
  exact acv h2
 |ext i τ=>
  obtain⟨eB,rfl,h2⟩:=h2
  cases h2
def ER (k:K) (ts:List Ty) (x:Ty.DL ts):SV:=
 match k with
 |.one=>match Ty.cells ts x with
  |[c]=>.one c
  |_=>.one .bm
 |.agg=>.agg (Ty.cells ts x)
 |.ptr=>.one (.ptr aK 0 0 0)
theorem abB (k:K) (ts:List Ty) (x:Ty.DL ts):(ER k ts x).er=CS (k,Ty.aH ts x):=by
 cases k with
 |one=>
  match ts,x with
  |[],x=>rfl
  |[t],x=>rfl
  |t::u::[],x=>rfl
  |t::u::v::ts,x=>rfl
 |agg=>simp only[ER,SV.er,CS,Ty.lx]
 |ptr=>rfl
def E1:Nat->(as:ak)->aQ as.aP->(Nat->SV)
 |_,[],_=>fun _=>.one .bm
 |k,[a],x=>au (fun _=>.one .bm) k (ER a.1 a.2 x)
 |k,a::b::as,x=>au (E1 (k+1) (b::as) x.2) k (ER a.1 a.2 x.1)
theorem abS:∀(k:Nat) (as:ak) (x:aQ as.aP),pW (E1 k as x)=sW k (c9 as x)
 |k,[],x=>rfl
 |k,[a],x=>by
  have e:(ER a.1 a.2 x).er=CS (a.1,Ty.aH a.2 x):=abB a.1 a.2 x
  simp only[E1,c9,sW,vK]
  rw[e]
  rfl
 |k,a::b::as,x=>by
  have ih:=abS (k+1) (b::as) x.2
  simp only[E1,c9,vK,abB,ih]
  rw[sW]
def qM:(as:ak)->aQ as.aP->Option (List TD)
 |[],_=>none
 |[a],x=>match a.1.sY with
  |true=>some (Ty.gT a.2 x)
  |false=>none
 |a::b::as,x=>match a.1.sY with
  |true=>some (Ty.gT a.2 x.1)
  |false=>qM (b::as) x.2
theorem aa3 (k:K) (xs:List C) (ds:List Dv):oe ((k,xs)::ds)=match k.sY with|true=>some xs|false=>oe ds:=by cases k<;>rfl
theorem Yx (k:K) (ts:List Ty) (as:ak):AS ((k,ts)::as)=match k.sY with|true=>true|false=>AS as:=by cases k<;>rfl
theorem UH:∀(as:ak) (x:aQ as.aP),(qM as x).map cD=oe (c9 as x)
 |[],_=>rfl
 |[(k,ts)],x=>by
  simp only[qM,c9,aa3]
  cases k.sY with
  |true=>exact congrArg some (Ty.pS ts x)
  |false=>rfl
 |(k,ts)::b::as,x=>by
  simp only[qM,c9,aa3]
  cases k.sY with
  |true=>simp only[Option.map_some];rw[Ty.pS]
  |false=>exact UH (b::as) x.2
theorem ack:∀(as:ak) (x:aQ as.aP),(qM as x).isSome=AS as
 |[],_=>rfl
 |[(k,ts)],x=>by
  simp only[qM,Yx]
  cases k.sY<;>rfl
 |(k,ts)::b::as,x=>by
  simp only[qM]
  rw[Yx]
  cases k.sY with
  |true=>rfl
  |false=>exact ack (b::as) x.2
def abU (as:ak) (x:aQ as.aP):Nat->Option SB:=fun n=>match Nat.beq n aK with
 |true=>match qM as x with
  |some l=>some (.box (l.map fun y=>.v y.1 y.2))
  |none=>none
 |false=>none
def Up (as:ak) (x:aQ as.aP):af:={env:=E1 0 as x,h:=abU as x,used:=fun n=>Nat.ble aK n}
theorem aos (as:ak) (x:aQ as.aP):(Up as x).er=Ed (c9 as x):=by
 simp only[Up,af.er,Ed,abS]
 congr 1
 funext n
 simp only[cU,abU,n6]
 cases Nat.beq n aK with
 |false=>rfl
 |true=>
  simp only
  rw[<-UH]
  cases qM as x with
  |none=>rfl
  |some l=>simp only[Option.map_some,SB.er,KE]
section
variable {ρ:Type}
def Kh (h:Nat->Option SB):List SV->(List bT->Option ρ)->Option ρ
 |[],k=>k []
 |v::vs,k=>match v.cells? with
  |some (ag,cs)=>zq h cs fun l=>Kh h vs fun ds=>k ((Jh ag,l)::ds)
  |none=>none
theorem acr {h:Nat->Option SB}:∀{vs:List SV} {k:List bT->Option ρ} {r:ρ},Kh h vs k=some r->∃ds,qF (cU h) (vs.map SV.er)=some (ds.map bT.er)/\k ds=some r
 |[],k,r,hx=>⟨[],rfl,hx⟩
 |v::vs,k,r,hx=>by
  simp only[Kh] at hx
  split at hx
  ·rename_i ag cs hc
   obtain⟨l,h1,h2⟩:=Fk hx
   obtain⟨ds,h3,h4⟩:=acr h2
   refine⟨_,?_,h4⟩
   simp only[List.map_cons,qF,SV.lx hc,h1,h3,bT.er]
   cases ag<;>rfl
  ·cases hx
def acj:List SV->Option (Nat×Nat×Nat)
 |[v]=>v.pB
 |_=>none
def UR (h:Nat->Option SB) (vs:List SV) (k:List bT->Option ρ):Option ρ:=
 match acj vs with
 |some (n,kk,off)=>match JY h n kk off with
  |some l=>match Nat.ble aK n with
   |true=>none
   |false=>k [(.ptr,l)]
  |none=>none
 |none=>Kh h vs k
theorem aoQ {h:Nat->Option SB} {vs:List SV} {k:List bT->Option ρ} {r:ρ} (hx:UR h vs k=some r):∃ds,B4 (cU h) (vs.map SV.er)=some (ds.map bT.er)/\k ds=some r:=by
 unfold UR at hx
 split at hx
 ·rename_i n kk off hp
  have hv:∃sz,vs=[.one (.ptr n kk sz off)]:=by
   unfold acj at hp
   split at hp
   ·obtain⟨sz,rfl⟩:=aa2 hp
    exact⟨sz,rfl⟩
   ·cases hp
  obtain⟨sz,rfl⟩:=hv
  split at hx
  ·rename_i l hl
   split at hx
   ·cases hx
   ·rename_i hb
    refine⟨_,?_,hx⟩
    have e:=abE (sz:=sz) hl
    have hn:¬aK<=n:=fun iY=>by rw[Nat.ble_eq_true_of_le iY] at hb;cases hb
    simp only[List.map_cons,List.map_nil,B4,e]
    rw[if_neg hn]
    rfl
  ·cases hx
 ·rename_i hp
  obtain⟨ds,h1,h2⟩:=acr hx
  refine⟨ds,?_,h2⟩
  unfold B4
  split
  ·rename_i v0 he
   have hv:∃v,vs=[v]/\v0=v.er:=by
    match vs,he with
    |[v],he=>simp at he;exact⟨v,rfl,he.symm⟩
   obtain⟨v,rfl,rfl⟩:=hv
   have bi:v.pB=none:=hp
   rw[aa1 bi]
   exact h1
  ·exact h1
def UF (h:Nat->Option SB) (cur:Option (List TD)) (k:List bT->Option ρ):Option ρ:=
 match cur with
 |none=>k []
 |some xs=>match h aK with
  |some (.box cs)=>cJ cs.length xs.length (match w4 cs with
   |some l=>k [(.ptr,l)]
   |none=>none)
  |_=>none
theorem aoL {h:Nat->Option SB} {cur:Option (List TD)} {k:List bT->Option ρ} {r:ρ} (hx:UF h cur k=some r):
  ∃os:List bT,BU (cU h) (cur.map cD)=some (cD (os.flatMap (·.2)))/\os.length=(match cur.isSome with|true=>1|false=>0)/\k os=some r:=by
 unfold UF at hx
 split at hx
 ·exact⟨[],rfl,rfl,hx⟩
 ·rename_i xs
  split at hx
  ·rename_i cs hn
   have he:=(bg hx).1;replace hx:=(bg hx).2
   split at hx
   ·rename_i l hl
    refine⟨[(.ptr,l)],?_,rfl,hx⟩
    simp only[Option.map_some,BU,cU,hn,SB.er,List.length_map]
    rw[if_pos (by rw[he,cD,List.length_map]),EY hl]
    simp
   ·cases hx
  ·cases hx
end
def Kl (σ:af) (ms:List bA) (cur:Option (List TD)) (aA:ak):Option (aQ aA.aP):=
 xa σ ms fun vs=>UR σ.h vs fun ds=>UF σ.h cur fun os=>n8 aA (ds++os)
theorem acw {σ:af} {ms:List bA} {args:ak} {x:aQ args.aP} {aA:ak} {y:aQ aA.aP} (h:Kl σ ms (qM args x) aA=some y):
  σ.er.B3 ms (c9 args x)=some (w9 (aA.length - pt args) (c9 aA y)):=by
 unfold Kl at h
 obtain⟨vs,h1,h2⟩:=Fc h
 obtain⟨ds,h3,h4⟩:=aoQ h2
 obtain⟨os,h5,h6,h7⟩:=aoL h4
 have h8:=s8 h7
 have hlen:aA.length=ds.length+os.length:=by
  have:=congrArg List.length h8
  rw[Dc,List.length_map,List.length_append] at this
  exact this.symm
 have uj:pt args=os.length:=by
  rw[h6,ack]
  unfold pt
  cases AS args<;>rfl
 have hk:aA.length - pt args=ds.length:=by omega
 have vQ:B4 σ.er.h (vs.map SV.er)=some (ds.map bT.er):=h3
 have Iy:BU σ.er.h (oe (c9 args x))=some (cD (os.flatMap (·.2))):=by rw[<-UH];exact h5
 simp only[St.B3,h1,vQ,Iy,hk]
 rw[<-h8,E9,List.take_left,List.drop_left]
def lU (N:Nat) (T:List ar) (sc:bw) (ms:List bA) (args aA:ak) (x:aQ args.aP):Option (aQ aA.aP):=
 kT N T sc (Up args x) (fun σ=>Kl σ ms (qM args x) aA) (fun _ _=>none) (fun σ=>Kl σ ms (qM args x) aA)
theorem anP {T:List ar} {sc:bw} {ms:List bA} {args aA:ak} {x:aQ args.aP} {y:aQ aA.aP} (h:lU ax T sc ms args aA x=some y):
  JU (cL T) sc.er ms (c9 args x)=some (w9 (aA.length - pt args) (c9 aA y)):=by
 obtain⟨o,h1,h2⟩:=rY sc h
 rw[aos] at h1
 unfold JU
 rw[h1]
 cases o with
 |fG τ=>
  obtain⟨eB,rfl,h2⟩:=h2
  exact acw h2
 |ret τ=>
  obtain⟨eB,rfl,h2⟩:=h2
  exact acw h2
 |ext i τ=>
  obtain⟨eB,rfl,h2⟩:=h2
  cases h2
def VU (P:Program) (fn:ar):Prop:=(fn.mu.fO=0->dh P fn.id fn.M)/\(fn.mu.fO=1->pM P fn.id fn.mu fn.MM)/\(fn.mu.fO=2->jM P fn.id fn.MV)/\(fn.mu.fO=3->VW P fn.id fn.mu.tl fn.MW)/\bC P fn.id=true
def aw (P:Program) (T:List ar):Prop:=∀fn∈T,VU P fn
theorem aw.nil {P:Program}:aw P []:=fun _ h=>by cases h
theorem aw.Mn {P:Program} {fn:ar} {T:List ar} (h:VU P fn) (hT:aw P T):aw P (fn::T):=by
 intro g hg
 cases hg with
 |head=>exact h
 |tail _ hg=>exact hT g hg
theorem aw.cons {P:Program} {f:FuncId} {args aA:ak} {F:aQ args.aP->Option (aQ aA.aP)} {T:List ar} (h:dh P f (ar.M ⟨f,args,[],aA,F⟩)/\bC P f=true) (hT:aw P T):aw P (⟨f,args,[],aA,F⟩::T):=
 aw.Mn ⟨fun _=>h.1,fun hm=>(by cases hm),fun hm=>(by cases hm),fun hm=>(by cases hm),h.2⟩ hT
theorem aw.rb {P:Program} {f:FuncId} {args:ak} {s:List (Option Mode)} {mu:aN} {aA:ak} {F:aQ args.aP->Option (aQ aA.aP)} {T:List ar} (h:pM P f (s::mu) (ar.MM ⟨f,args,s::mu,aA,F⟩)/\bC P f=true) (hT:aw P T)
  (hk:aN.fO (s::mu)=1:=by rfl):aw P (⟨f,args,s::mu,aA,F⟩::T):=
 aw.Mn ⟨fun hm=>absurd (hk.symm.trans hm) (by decide),fun _=>h.1,fun hm=>absurd (hk.symm.trans hm) (by decide),fun hm=>absurd (hk.symm.trans hm) (by decide),h.2⟩ hT
theorem aw.io {P:Program} {f:FuncId} {args:ak} {aA:ak} {F:aQ args.aP->Option (aQ aA.aP)} {T:List ar} (h:jM P f (ar.MV ⟨f,args,[[some .aD]],aA,F⟩)/\bC P f=true) (hT:aw P T):aw P (⟨f,args,[[some .aD]],aA,F⟩::T):=
 aw.Mn ⟨fun hm=>(by cases hm),fun hm=>(by cases hm),fun _=>h.1,fun hm=>(by cases hm),h.2⟩ hT
theorem Kt:∀{T:List ar} {f:FuncId} {M:List Dv->Option (List Dv)},aO.find (cL T).pure f=some M->∃fn∈T,fn.id=f/\M=fn.M/\fn.mu.fO=0
 |[],f,M,h=>by simp[cL,aO.find] at h
 |g::l,f,M,h=>by
  simp only[cL,List.filterMap_cons] at h
  by_cases hg:g.mu.fO=0
  ·simp only[hg,aO.find] at h
   split at h
   ·rename_i e
    injection h with h
    exact⟨g,by simp,e.symm,h.symm,hg⟩
   ·obtain⟨fn,h1,h2,h3⟩:=Kt (T:=l) h
    exact⟨fn,by simp[h1],h2,h3⟩
  ·split at h
   ·obtain⟨fn,h1,h2,h3⟩:=Kt (T:=l) h
    exact⟨fn,by simp[h1],h2,h3⟩
   ·rename_i z hz
    split at hz
    ·rename_i h0;exact absurd h0 hg
    ·cases hz
theorem U7:∀{T:List ar} {f:FuncId} {sig:aN} {M:List Dv->Option (List Dv×List C)},aO.rl (cL T).BN f=some (sig,M)->∃fn∈T,fn.id=f/\sig=fn.mu/\M=fn.MM/\fn.mu.fO=1
 |[],f,sig,M,h=>by simp[cL,aO.rl] at h
 |g::l,f,sig,M,h=>by
  simp only[cL,List.filterMap_cons] at h
  by_cases hg:g.mu.fO=1
  ·simp only[hg,aO.rl] at h
   split at h
   ·rename_i e
    injection h with h
    injection h with ha hb
    exact⟨g,by simp,e.symm,ha.symm,hb.symm,hg⟩
   ·obtain⟨fn,h1,h2,h3⟩:=U7 (T:=l) h
    exact⟨fn,by simp[h1],h2,h3⟩
  ·split at h
   ·obtain⟨fn,h1,h2,h3⟩:=U7 (T:=l) h
    exact⟨fn,by simp[h1],h2,h3⟩
   ·rename_i z hz
    split at hz
    ·rename_i h0;exact absurd h0 hg
    ·cases hz
theorem U8:∀{T:List ar} {f:FuncId} {M:List Dv->Option (List Dv×List C)},aO.j8 (cL T).vs f=some M->∃fn∈T,fn.id=f/\M=fn.MV/\fn.mu.fO=2
 |[],f,M,h=>by simp[cL,aO.j8] at h
 |g::l,f,M,h=>by
  simp only[cL,List.filterMap_cons] at h
  by_cases hg:g.mu.fO=2
  ·simp only[hg,aO.j8] at h
   split at h
   ·rename_i e
    injection h with h
    exact⟨g,by simp,e.symm,h.symm,hg⟩
   ·obtain⟨fn,h1,h2,h3⟩:=U8 (T:=l) h
    exact⟨fn,by simp[h1],h2,h3⟩
  ·split at h
   ·obtain⟨fn,h1,h2,h3⟩:=U8 (T:=l) h
    exact⟨fn,by simp[h1],h2,h3⟩
   ·rename_i z hz
    split at hz
    ·rename_i h0;exact absurd h0 hg
    ·cases hz
theorem U9:∀{T:List ar} {f:FuncId} {sig:aN} {M:List Dv->Option (Nat×Nat)},aO.rm (cL T).ws f=some (sig,M)->∃fn∈T,fn.id=f/\sig=fn.mu.tl/\M=fn.MW/\fn.mu.fO=3
 |[],f,sig,M,h=>by simp[cL,aO.rm] at h
 |g::l,f,sig,M,h=>by
  simp only[cL,List.filterMap_cons] at h
  by_cases hg:g.mu.fO=3
  ·simp only[hg,aO.rm] at h
   split at h
   ·rename_i e
    injection h with h
    injection h with ha hb
    exact⟨g,by simp,e.symm,ha.symm,hb.symm,hg⟩
   ·obtain⟨fn,h1,h2,h3⟩:=U9 (T:=l) h
    exact⟨fn,by simp[h1],h2,h3⟩
  ·split at h
   ·obtain⟨fn,h1,h2,h3⟩:=U9 (T:=l) h
    exact⟨fn,by simp[h1],h2,h3⟩
   ·rename_i z hz
    split at hz
    ·rename_i h0;exact absurd h0 hg
    ·cases hz
theorem aw.tok {P:Program} {T:List ar} (hT:aw P T):nH P (cL T):=by
 refine⟨fun g M hM=>?_,fun g sig M hM=>?_,fun g M hM=>?_,fun g sig M hM=>?_,fun g M hM=>?_⟩
 ·obtain⟨tO,h1,h2,h3,h4⟩:=Kt hM
  subst h2 h3
  exact(hT tO h1).1 h4
 ·obtain⟨tO,h1,h2,h3,h4,h5⟩:=U7 hM
  subst h2 h3 h4
  exact(hT tO h1).2.1 h5
 ·obtain⟨tO,h1,h2,h3,h4⟩:=U8 hM
  subst h2 h3
  exact(hT tO h1).2.2.1 h4
 ·obtain⟨tO,h1,h2,h3,h4,h5⟩:=U9 hM
  subst h2 h3 h4
  exact(hT tO h1).2.2.2.1 h5
 ·obtain⟨tO,h1,h2,h3,h4⟩:=Kt hM
  subst h2
  exact(hT tO h1).2.2.2.2
def cb (P:Program) (f:FuncId) (mc:lg) (ms:List bA) (n:Nat):Bool:=
 match P.funcs[f]? with
 |some fn=>match fn.body with
  |some c=>iV P fn.ntmps c mc&&m6 P fn.results.toList ms&&decide (n<=fn.ntmps)&&(fn.name != "runtime.NumGoroutine")
  |none=>false
 |none=>false
theorem Mi {P:Program} {f:FuncId} {mc:lg} {ms:List bA} {n:Nat} (h:cb P f mc ms n=true):bC P f=true:=by
 unfold cb at h
 unfold bC
 split at h
 ·rename_i fn hf
  split at h
  ·rename_i c hb
   simp only[Bool.and_eq_true] at h
   simp[hf,hb,h.2]
  ·cases h
 ·cases h
theorem dS {P:Program} {T:List ar} (hT:aw P T) (hm:P.follows .mixedOrders=true) {f:FuncId} {sc:bw} {ms:List bA} {args aA:ak} (hc:cb P f sc.er ms args.length=true)
  (F:aQ args.aP->Option (aQ aA.aP)) (hF:∀x y,F x=some y->dH ax T sc ms args aA x=some y):dh P f (ar.M ⟨f,args,[],aA,F⟩)/\bC P f=true:=by
 refine⟨?_,Mi hc⟩
 unfold cb at hc
 split at hc
 ·rename_i fn hf
  split at hc
  ·rename_i c hb
   simp only[Bool.and_eq_true,decide_eq_true_eq] at hc
   refine am8 (T:=cL T) hT.tok hm hf hb hc.1.1.1 hc.1.1.2 fun ds rs hM=>?_
   obtain⟨x,y,h1,h2,h3⟩:=ar.F8 hM
   subst h1 h3
   exact⟨by rw[Dc];exact hc.1.2,anO (hF x y h2)⟩
  ·cases hc
 ·cases hc
theorem yU {P:Program} {T:List ar} (hT:aw P T) (hm:P.follows .mixedOrders=true) {f:FuncId} {sc:bw} {ms:List bA} {args:ak} {mu:aN} {aA:ak} (hc:cb P f sc.er ms args.length=true)
  (F:aQ args.aP->Option (aQ aA.aP)) (hF:∀x y,F x=some y->u0 ax T sc ms args mu aA x=some y):pM P f mu (ar.MM ⟨f,args,mu,aA,F⟩)/\bC P f=true:=by
 refine⟨?_,Mi hc⟩
 unfold cb at hc
 split at hc
 ·rename_i fn hf
  split at hc
  ·rename_i c hb
   simp only[Bool.and_eq_true,decide_eq_true_eq] at hc
   refine akA (T:=cL T) hT.tok hm hf hb hc.1.1.1 hc.1.1.2 fun ds rs eV hM=>?_
   unfold ar.MM at hM
   rw[Option.map_eq_some_iff] at hM
   obtain⟨uZ,h0,NM⟩:=hM
   obtain⟨x,y,h1,h2,h3⟩:=ar.F8 h0
   subst h1 h3
   refine⟨by rw[Dc];exact hc.1.2,?_⟩
   rw[<-NM]
   exact anN (hF x y h2)
  ·cases hc
 ·cases hc
theorem nD {P:Program} {T:List ar} (hT:aw P T) (hm:P.follows .mixedOrders=true) {f:FuncId} {sc:bw} {ms:List bA} {args aA:ak} (hc:cb P f sc.er ms args.length=true)
  (F:aQ args.aP->Option (aQ aA.aP)) (hF:∀x y,F x=some y->lU ax T sc ms args aA x=some y):jM P f (ar.MV ⟨f,args,[[some .aD]],aA,F⟩)/\bC P f=true:=by
 refine⟨?_,Mi hc⟩
 unfold cb at hc
 split at hc
 ·rename_i fn hf
  split at hc
  ·rename_i c hb
   simp only[Bool.and_eq_true,decide_eq_true_eq] at hc
   refine apx (T:=cL T) hT.tok hm hf hb hc.1.1.1 hc.1.1.2 fun ds rs out hM=>?_
   unfold ar.MV at hM
   rw[Option.map_eq_some_iff] at hM
   obtain⟨uZ,h0,NM⟩:=hM
   obtain⟨x,y,h1,h2,h3⟩:=ar.F8 h0
   subst h1 h3
   refine⟨by rw[Dc];exact hc.1.2,?_⟩
   rw[<-NM]
   exact anP (hF x y h2)
  ·cases hc
 ·cases hc
end Go.Am
