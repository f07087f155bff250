/- S7: typed functions as a whole. No condition. -/
import Derived.Test.YtbgmbplglejidaaS6
import Derived.Test.YtbgmbplglejidaaAmY
set_option linter.unusedVariables false
namespace Go.Am
def Gg (k:K) (ts:List Ty) (x:Ty.DL ts):SV:=
 match k with
 |.one=>match Ty.cells ts x with
  |[c]=>.one c
  |_=>.one .bq
 |.agg=>.agg (Ty.cells ts x)
 |.ptr=>.one (.cH ts x 0)
theorem adh (k:K) (ts:List Ty) (x:Ty.DL ts):(Gg k ts x).er=yt (k,Ty.aI ts x):=by
 cases k with
 |one=>
  match ts,x with
  |[],x=>rfl
  |[t],x=>rfl
  |t::u::[],x=>rfl
  |t::u::v::ts,x=>rfl
 |agg=>simp only[Gg,SV.er,yt,Ty.mA]
 |ptr=>rfl
def Gm:Nat->(as:ao)->aV as.aU->(Nat->SV)
 |_,[],_=>fun _=>.one .bq
 |k,[a],x=>aA (fun _=>.one .bq) k (Gg a.1 a.2 x)
 |k,a::b::as,x=>aA (Gm (k+1) (b::as) x.2) k (Gg a.1 a.2 x.1)
theorem ady:∀(k:Nat) (as:ao) (x:aV as.aU),qK (Gm k as x)=tH k (dg as x)
 |k,[],x=>rfl
 |k,[a],x=>by
  have e:(Gg a.1 a.2 x).er=yt (a.1,Ty.aI a.2 x):=adh a.1 a.2 x
  simp only[Gm,dg,tH,wH]
  rw[e]
  rfl
 |k,a::b::as,x=>by
  have ih:=ady (k+1) (b::as) x.2
  simp only[Gm,dg,wH,adh,ih]
  rw[tH]
def Wc (as:ao) (x:aV as.aU):ah:={env:=Gm 0 as x,h:=fun _=>none,used:=fun n=>Nat.ble aK n}
theorem arX (as:ao) (x:aV as.aU):(Wc as x).er=FC (dg as x):=by
 simp only[Wc,ah.er,FC,ady]
 rfl
section
variable {ρ:Type}
def xU (σ:ah):List bD->(List SV->Option ρ)->Option ρ
 |[],k=>k []
 |.tmp t::ms,k=>xU σ ms fun vs=>k (σ.env t::vs)
 |.cell t sz ag::ms,k=>match σ.env t with
  |.one p=>Gt σ.h p sz fun cs=>xU σ ms fun vs=>k (AF ag cs::vs)
  |_=>none
theorem GA {σ:ah}:∀{ms:List bD} {k:List SV->Option ρ} {r:ρ},xU σ ms k=some r->∃vs,σ.er.sG ms=some (vs.map SV.er)/\k vs=some r
 |[],k,r,h=>⟨[],rfl,h⟩
 |.tmp t::ms,k,r,h=>by
  simp only[xU] at h
  obtain⟨vs,h1,h2⟩:=GA h
  exact⟨_,by simp only[St.sG,h1];rfl,h2⟩
 |.cell t sz ag::ms,k,r,h=>by
  simp only[xU] at h
  split at h
  ·rename_i p hp
   obtain⟨cs,h1,h2⟩:=Wj h
   obtain⟨vs,h3,h4⟩:=GA h2
   have bg:σ.er.env t=.one p.er:=by show(σ.env t).er=_;rw[hp];rfl
   have kq:loadAt σ.er.h p.er sz=some (cs.map SC.er):=h1
   exact⟨_,by simp only[St.sG,bg,kq,h3,List.map_cons,DI],h4⟩
  ·cases h
def WD (h:Nat->Option SB) (c:SC) (k:(t:Ty)->t.D->List Nat->Option ρ):Option ρ:=
 match c with
 |.v t x=>fi t.eV (k t x [])
 |.nil ts=>match ts with
  |[]=>none
  |t::us=>k (.list (t::us)) ([]:List (Ty.DL (t::us))) []
 |.sl n sz lo len=>match h n with
  |some (.row true m ts xs)=>cW ts.length sz (fi m.own (cW lo 0 ((dw xs len).ab fun ys=>k (.list ts) ys [n])))
  |_=>none
 |_=>none
theorem asl {h:Nat->Option SB} {c:SC} {k:(t:Ty)->t.D->List Nat->Option ρ} {r:ρ} (hx:WD h c k=some r):
  ∃(t:Ty) (x:t.D) (ns:List Nat),lU (dc h) c.er=some (t.er x,ns)/\k t x ns=some r:=by
 unfold WD at hx
 split at hx
 ·rename_i t x
  have h1:=(cB hx).1;replace hx:=(cB hx).2
  exact⟨t,x,[],by simp only[SC.er,lU,Ty.xO,h1,if_true],hx⟩
 ·split at hx
  ·cases hx
  ·rename_i t us
   exact⟨.list (t::us),[],[],by simp[SC.er,lU,Ty.er],hx⟩
 ·rename_i n sz lo len
  split at hx
  ·rename_i m ts xs hn
   have bw:=(bi hx).1;replace hx:=(bi hx).2;subst bw
   have hm:=(cB hx).1;replace hx:=(cB hx).2
   have bw:=(bi hx).1;replace hx:=(bi hx).2;subst bw
   rw[eZ] at hx
   obtain⟨ys,hw,hx⟩:=hx
   obtain⟨w1,w2⟩:=aev hw
   refine⟨.list ts,ys,[n],?_,hx⟩
   have bO:m≠ .aG:=by rintro rfl;cases hm
   simp only[SC.er,lU,dc,hn,Option.map_some,SB.er,List.length_map,w1,w2,ne_eq,bO,not_false_eq_true,and_self,if_true,Ty.er]
  ·cases hx
 ·cases hx
def LM (h:Nat->Option SB):List SC->(List TD->List Nat->Option ρ)->Option ρ
 |[],k=>k [] []
 |c::cs,k=>WD h c fun t x ns=>LM h cs fun l kH=>k (⟨t,x⟩::l) (ns++kH)
theorem aec {h:Nat->Option SB}:∀{cs:List SC} {k:List TD->List Nat->Option ρ} {r:ρ},LM h cs k=some r->
  ∃l ns,tZ (dc h) (cs.map SC.er)=some (cQ l,ns)/\k l ns=some r
 |[],k,r,hx=>⟨[],[],rfl,hx⟩
 |c::cs,k,r,hx=>by
  simp only[LM] at hx
  obtain⟨t,x,ns,h1,h2⟩:=asl hx
  obtain⟨l,kH,h3,h4⟩:=aec h2
  exact⟨⟨t,x⟩::l,ns++kH,by simp[tZ,h1,h3,cQ],h4⟩
def kOf:Bool->K
 |true=>.agg
 |false=>.one
def GC (h:Nat->Option SB):List SV->(List bX->List Nat->Option ρ)->Option ρ
 |[],k=>k [] []
 |v::vs,k=>match v.cells? with
  |some (ag,cs)=>LM h cs fun l ns=>GC h vs fun ds kH=>k ((kOf ag,l)::ds) (ns++kH)
  |none=>none
theorem WE {h:Nat->Option SB}:∀{vs:List SV} {k:List bX->List Nat->Option ρ} {r:ρ},GC h vs k=some r->
  ∃ds ns,rv (dc h) (vs.map SV.er)=some (ds.map bX.er,ns)/\k ds ns=some r
 |[],k,r,hx=>⟨[],[],rfl,hx⟩
 |v::vs,k,r,hx=>by
  simp only[GC] at hx
  split at hx
  ·rename_i ag cs hc
   obtain⟨l,ns,h1,h2⟩:=aec hx
   obtain⟨ds,kH,h3,h4⟩:=WE h2
   refine⟨_,_,?_,h4⟩
   simp only[List.map_cons,rv,SV.mA hc,h1,h3]
   cases ag<;>rfl
  ·cases hx
end
def FW:List Nat->Bool
 |[]=>true
 |n::l=> !(l.contains n)&&FW l
theorem S6:∀{l:List Nat},FW l=true->l.Nodup
 |[],_=>List.nodup_nil
 |n::l,h=>by
  simp only[FW,Bool.and_eq_true,Bool.not_eq_true'] at h
  rw[List.nodup_cons]
  refine⟨fun hm=>?_,S6 h.2⟩
  have:l.contains n=true:=by simpa using hm
  rw[this] at h
  cases h.1
def LK (σ:ah) (ms:List bD) (aF:ao):Option (aV aF.aU):=
 xU σ ms fun vs=>GC σ.h vs fun ds ns=>fi (FW ns) (o8 aF ds)
theorem aeb {σ:ah} {ms:List bD} {aF:ao} {y:aV aF.aU} (h:LK σ ms aF=some y):σ.er.tY ms=some (dg aF y):=by
 unfold LK at h
 obtain⟨vs,h1,h2⟩:=GA h
 obtain⟨ds,ns,h3,h4⟩:=WE h2
 have h5:=(cB h4).1;replace h6:=(cB h4).2
 have wN:rv σ.er.h (vs.map SV.er)=some (ds.map bX.er,ns):=h3
 simp only[St.tY,h1,wN,if_pos (S6 h5),tS h6]
def dH (N:Nat) (T:List az) (sc:bz) (ms:List bD) (args aF:ao) (x:aV args.aU):Option (aV aF.aU):=
 lW N T sc (Wc args x) (fun σ=>LK σ ms aF) (fun _ _=>none) (fun σ=>LK σ ms aF)
theorem ard {T:List az} {sc:bz} {ms:List bD} {args aF:ao} {x:aV args.aU} {y:aV aF.aU} (h:dH aC T sc ms args aF x=some y):
  Lh (cX T) sc.er ms (dg args x)=some (dg aF y):=by
 obtain⟨o,h1,h2⟩:=sJ sc h
 rw[arX] at h1
 unfold Lh
 rw[h1]
 cases o with
 |fR τ=>
  obtain⟨eI,rfl,h2⟩:=h2
  exact aeb h2
 |ret τ=>
  obtain⟨eI,rfl,h2⟩:=h2
  exact aeb h2
 |ext i τ=>
  obtain⟨eI,rfl,h2⟩:=h2
  cases h2
theorem EC:∀(as:ao) (x:aV as.aU),(dg as x).length=as.length
 |[],_=>rfl
 |[a],_=>rfl
 |a::b::as,x=>by simp only[dg,List.length_cons,EC (b::as) x.2]
def qn:Nat->List (Option Mode)->List TD->List SC
 |c,some _::fs,⟨.list ts,xs⟩::l=>.sl (aK+c) ts.length 0 (aa (α:=Ty.DL ts) xs)::qn (c+1) fs l
 |c,some _::fs,⟨.int _,_⟩::l=>.bq::qn (c+1) fs l
 |c,some _::fs,⟨.bool,_⟩::l=>.bq::qn (c+1) fs l
 |c,none::fs,x::l=>.v x.1 x.2::qn c fs l
 |c,[],l=>l.map fun x=>.v x.1 x.2
 |c,_::_,[]=>[]
theorem Ge:∀(c:Nat) (fs:List (Option Mode)) (l:List TD),(qn c fs l).map SC.er=gO c fs (cQ l)
 |c,some m::fs,⟨.list ts,xs⟩::l=>by
  simp only[qn,cQ,List.map_cons,Ty.er,gO,SC.er]
  have:=Ge (c+1) fs l
  simp only[cQ] at this
  rw[this]
  exact congrArg (fun q=>aj.sl (aK+c) ts.length 0 q::_) (List.length_map (Ty.aI ts)).symm
 |c,some m::fs,⟨.int k,x⟩::l=>by
  simp only[qn,cQ,List.map_cons,Ty.er,gO,SC.er]
  exact congrArg _ (Ge (c+1) fs l)
 |c,some m::fs,⟨.bool,x⟩::l=>by
  simp only[qn,cQ,List.map_cons,Ty.er,gO,SC.er]
  exact congrArg _ (Ge (c+1) fs l)
 |c,none::fs,⟨t,x⟩::l=>by
  simp only[qn,cQ,List.map_cons,gO,SC.er]
  exact congrArg _ (Ge c fs l)
 |c,[],l=>by
  cases l<;>simp[qn,cQ,gO,SC.er]
 |c,some m::fs,[]=>rfl
 |c,none::fs,[]=>rfl
def Gf (c:Nat) (s:List (Option Mode)) (d:K×List Ty) (x:Ty.DL d.2):SV:=
 match d.1 with
 |.one=>match qn c s (Ty.iq d.2 x) with
  |[y]=>.one y
  |_=>.one .bq
 |.agg=>.agg (qn c s (Ty.iq d.2 x))
 |.ptr=>.one (.cH d.2 x 0)
theorem adg (c:Nat) (s:List (Option Mode)) (d:K×List Ty) (x:Ty.DL d.2):(Gf c s d x).er=sZ c s (d.1,Ty.aI d.2 x):=by
 obtain⟨k,ts⟩:=d
 have h:=Ge c s (Ty.iq ts x)
 rw[Ty.qG] at h
 cases k with
 |one=>
  simp only[Gf,sZ,<-h]
  generalize qn c s (Ty.iq ts x)=l
  match l with
  |[]=>rfl
  |[y]=>rfl
  |_::_::_=>rfl
 |agg=>simp only[Gf,sZ,<-h,SV.er]
 |ptr=>rfl
def Gn:Nat->Nat->aQ->(as:ao)->aV as.aU->(Nat->SV)
 |_,_,_,[],_=>fun _=>.one .bq
 |k,c,sig,[a],x=>aA (fun _=>.one .bq) k (Gf c sig.hd a x)
 |k,c,sig,a::b::as,x=>aA (Gn (k+1) (c+(eC sig.hd (Ty.iq a.2 x.1)).length) sig.tl (b::as) x.2) k (Gf c sig.hd a x.1)
theorem N2 {α β:Type}:∀(s:List (Option Mode)) (l:List α) (l':List β),l.length=l'.length->(eC s l).length=(eC s l').length
 |some m::fs,x::xs,y::ys,h=>by simp only[eC,List.length_cons,N2 fs xs ys (by simpa using h)]
 |none::fs,x::xs,y::ys,h=>by simp only[eC];exact N2 fs xs ys (by simpa using h)
 |[],l,l',h=>by cases l<;>cases l'<;>rfl
 |some m::fs,[],[],h=>rfl
 |none::fs,[],[],h=>rfl
 |_::_,[],_::_,h=>by simp at h
 |_::_,_::_,[],h=>by simp at h
theorem af9 (ts:List Ty) (x:Ty.DL ts):(Ty.iq ts x).length=(Ty.aI ts x).length:=by
 rw[<-Ty.qG,cQ,List.length_map]
theorem aa8 (k c:Nat) (sig:aQ) (d:Dv) (ds:List Dv):mM k c sig (d::ds)=aA (mM (k+1) (c+(eC sig.hd d.2).length) sig.tl ds) k (sZ c sig.hd d):=by
 cases sig with
 |nil=>
  have:(eC (aQ.hd []) d.2).length=0:=rfl
  rw[this]
  simp only[mM,Nat.add_zero,aQ.tl,aQ.hd]
 |cons s sig=>rfl
theorem adw:∀(k c:Nat) (sig:aQ) (as:ao) (x:aV as.aU),qK (Gn k c sig as x)=mM k c sig (dg as x)
 |k,c,sig,[],x=>by cases sig<;>rfl
 |k,c,sig,[a],x=>by
  simp only[Gn,dg,wH]
  have h:=adg c sig.hd a x
  rw[aa8]
  have e:mM (k+1) (c+(eC sig.hd (Ty.aI a.2 x)).length) sig.tl []=wG:=by
   simp only[mM]
  rw[e]
  exact congrArg (fun v=>aA (qK fun _=>SV.one SC.bq) k v) h
 |k,c,sig,a::b::as,x=>by
  have ih:=adw (k+1) (c+(eC sig.hd (Ty.iq a.2 x.1)).length) sig.tl (b::as) x.2
  simp only[Gn,dg,wH,adg,ih,aa8 (ds:=dg (b::as) x.2)]
  rw[N2 sig.hd (Ty.iq a.2 x.1) (Ty.aI a.2 x.1) (af9 _ _)]
def Dk (sig:aQ) (as:ao) (x:aV as.aU):List (Mode×TD):=eJ sig ((lF as x).map (·.2))
theorem V9 (sig:aQ) (as:ao) (x:aV as.aU):(Dk sig as x).map (fun p=>(p.1,p.2.1.er p.2.2))=eJ sig ((dg as x).map (·.2)):=by
 unfold Dk
 rw[<-wC,<-JI (fun p:TD=>p.1.er p.2)]
 simp only[List.map_map]
 rfl
def WI:Mode×TD->Option SB
 |(m,⟨.list ts,xs⟩)=>some (.row false m ts xs)
 |_=>none
theorem asn (p:Mode×TD):(WI p).map SB.er=nA (p.1,p.2.1.er p.2.2):=by
 obtain⟨m,t,x⟩:=p
 cases t<;>rfl
def DE:List (Mode×TD)->Nat->Option SB
 |[],_=>none
 |p::_,0=>WI p
 |_::l,n+1=>DE l n
theorem aef:∀(l:List (Mode×TD)) (n:Nat),DE l n=(l[n]?).bind WI
 |[],n=>by simp[DE]
 |p::l,0=>by simp[DE]
 |p::l,n+1=>by simp[DE,aef l n]
def adu (fl:List (Mode×TD)):Nat->Option SB:=fun n=>match Nat.ble aK n with
 |true=>DE fl (Nat.sub n aK)
 |false=>none
def We (sig:aQ) (as:ao) (x:aV as.aU):ah:={env:=Gn 0 0 sig as x,h:=adu (Dk sig as x),used:=fun n=>Nat.ble aK n}
theorem arV (sig:aQ) (as:ao) (x:aV as.aU):(We sig as x).er=CC sig (dg as x):=by
 simp only[We,ah.er,CC,adw]
 congr 1
 funext n
 simp only[dc,adu]
 cases hb:Nat.ble aK n with
 |true=>
  rw[if_pos (Nat.le_of_ble_eq_true hb),<-V9,aef]
  simp only[List.getElem?_map]
  cases (Dk sig as x)[n - aK]? with
  |none=>simp
  |some p=>simp[asn]
 |false=>
  rw[if_neg (fun h=>by rw[Nat.ble_eq_true_of_le h] at hb;cases hb)]
  rfl
def ah.j5 (σ:ah):ah:={σ with h:=fun n=>match Nat.ble aK n with|true=>none|false=>σ.h n}
theorem ah.apa (σ:ah):σ.j5.er=σ.er.j5:=by
 simp only[ah.j5,ah.er,St.j5]
 congr 1
 funext n
 simp only[dc]
 cases hb:Nat.ble aK n with
 |true=>rw[if_pos (Nat.le_of_ble_eq_true hb)];rfl
 |false=>rw[if_neg (fun h=>by rw[Nat.ble_eq_true_of_le h] at hb;cases hb)]
section
variable {ρ:Type}
def Wt (σ:ah) (q:Nat) (p:Mode×TD) (k:TD->Option ρ):Option ρ:=
 match p with
 |(m,⟨.list ts,xs⟩)=>match σ.h (aK+q) with
  |some (.row _ m' us ys)=>fi (Mode.beq m' m) (fi (Ty.rQ us ts) (fi (Xb m us) ((qm (aa ys) (aa (α:=Ty.DL ts) xs)).ab fun _=>k ⟨.list us,ys⟩)))
  |_=>none
 |_=>none
theorem abi (t:Ty) (x:t.D):(t.er x).rb= !t.eV:=by cases t<;>rfl
theorem abh:∀(ts:List Ty) (x:Ty.DL ts),(Ty.aI ts x).map C.rb=ts.map fun t=> !t.eV
 |[],_=>rfl
 |[t],x=>congrArg (fun b=>[b]) (abi t x)
 |t::u::ts,x=>by
  have:=abh (u::ts) x.2
  simp only[List.map_cons] at this
  simp only[Ty.aI,List.map_cons,abi,this]
theorem abj (ts:List Ty) (xs:List (Ty.DL ts)):(List.map (Ty.aI ts) xs).map (fun e=>e.map C.rb)=List.replicate xs.length (ts.map fun t=> !t.eV):=by
 induction xs with
 |nil=>rfl
 |cons x xs ih=>simp only[List.map_cons,abh,ih,List.length_cons,List.replicate_succ]
theorem asf {σ:ah} {q:Nat} {p:Mode×TD} {k:TD->Option ρ} {r:ρ} (h:Wt σ q p k=some r):∃o:TD,C4 σ.er q (p.1,p.2.1.er p.2.2)=some (o.1.er o.2)/\k o=some r:=by
 unfold Wt at h
 split at h
 ·rename_i m ts xs
  split at h
  ·rename_i gr m' us ys hn
   have h1:=(cB h).1;replace h:=(cB h).2
   have h2:=(cB h).1;replace h:=(cB h).2
   have h3:=(cB h).1;replace h:=(cB h).2
   rw[eZ] at h
   obtain⟨_,hs,h⟩:=h
   have hl:aa ys=aa (α:=Ty.DL ts) xs:=by
    unfold qm at hs
    split at hs
    ·assumption
    ·cases hs
   have h1:=Mode.beq_eq h1
   have h2:=Ty.s6 h2
   subst h1 h2
   refine⟨_,?_,h⟩
   have bm:σ.er.h (aK+q)=some (.row gr m' us.length (List.map (Ty.aI us) ys)):=by simp[ah.er,dc,hn,SB.er]
   have dQ:List.length ys=List.length (α:=Ty.DL us) xs:=hl
   have hl1:(List.map (Ty.aI us) ys).length=(List.map (α:=Ty.DL us) (Ty.aI us) xs).length:=(List.length_map _).trans (dQ.trans (List.length_map (as:=(xs:List (Ty.DL us))) (Ty.aI us)).symm)
   have zk:(List.map (Ty.aI us) ys).map (fun e=>e.map C.rb)=(List.map (α:=Ty.DL us) (Ty.aI us) xs).map (fun e=>e.map C.rb):=
    (abj us ys).trans ((congrArg (fun n=>List.replicate n _) dQ).trans (abj us xs).symm)
   simp only[C4,Ty.er,bm]
   rw[if_pos ⟨trivial,trivial,hl1,ZQ _ _ _ h3,zk⟩]
  ·cases h
 ·cases h
def LD (σ:ah):Nat->List (Mode×TD)->(List TD->Option ρ)->Option ρ
 |_,[],k=>k []
 |q,p::l,k=>Wt σ q p fun o=>LD σ (q+1) l fun os=>k (o::os)
theorem adV {σ:ah}:∀{l:List (Mode×TD)} {q:Nat} {k:List TD->Option ρ} {r:ρ},LD σ q l k=some r->∃os,xD σ.er q (l.map fun p=>(p.1,p.2.1.er p.2.2))=some (cQ os)/\k os=some r
 |[],q,k,r,h=>⟨[],rfl,h⟩
 |p::l,q,k,r,h=>by
  simp only[LD] at h
  obtain⟨o,h1,h2⟩:=asf h
  obtain⟨os,h3,h4⟩:=adV h2
  exact⟨o::os,by simp only[List.map_cons,xD,h1,h3,cQ],h4⟩
end
def LN (σ:ah) (ms:List bD) (fl:List (Mode×TD)) (kk:Nat) (aF:ao):Option (aV aF.aU):=
 xU σ.j5 ms fun vs=>GC σ.j5.h vs fun ds ns=>fi (FW ns) (cW ds.length kk (LD σ 0 fl fun os=>o8 aF (ds++os.map fun o=>(.one,[o]))))
theorem aed {σ:ah} {ms:List bD} {fl:List (Mode×TD)} {kk:Nat} {aF:ao} {y:aV aF.aU} (h:LN σ ms fl kk aF=some y):
  σ.er.De ms (fl.map fun p=>(p.1,p.2.1.er p.2.2))=some (xT kk (dg aF y)):=by
 unfold LN at h
 obtain⟨vs,h1,h2⟩:=GA h
 obtain⟨ds,ns,h3,h4⟩:=WE h2
 have h5:=(cB h4).1;replace h4:=(cB h4).2
 have h6:=(bi h4).1;replace h4:=(bi h4).2
 obtain⟨os,h7,h8⟩:=adV h4
 have wN:rv σ.j5.er.h (vs.map SV.er)=some (ds.map bX.er,ns):=h3
 have hr:σ.er.j5.tY ms=some (ds.map bX.er):=by
  rw[<-ah.apa]
  simp only[St.tY,h1,wN,if_pos (S6 h5)]
 simp only[St.De,hr,h7,<-tS h8,Gx,<-h6]
 congr 2
 ·rw[List.take_left]
 ·rw[List.drop_left]
  congr 1
  clear h7 h8
  induction os with
  |nil=>rfl
  |cons o os ih=>rw[List.map_cons,List.flatMap_cons,<-ih];rfl
def vH (N:Nat) (T:List az) (sc:bz) (ms:List bD) (args:ao) (mu:aQ) (aF:ao) (x:aV args.aU):Option (aV aF.aU):=
 lW N T sc (We mu args x) (fun σ=>LN σ ms (Dk mu args x) (aF.length - mu.jb) aF) (fun _ _=>none) (fun σ=>LN σ ms (Dk mu args x) (aF.length - mu.jb) aF)
theorem arc {T:List az} {sc:bz} {ms:List bD} {args:ao} {mu:aQ} {aF:ao} {x:aV args.aU} {y:aV aF.aU} (h:vH aC T sc ms args mu aF x=some y):
  Li (cX T) sc.er ms mu (dg args x)=some (xT (aF.length - mu.jb) (dg aF y)):=by
 obtain⟨o,h1,h2⟩:=sJ sc h
 rw[arV] at h1
 unfold Li
 rw[h1]
 cases o with
 |fR τ=>
  obtain⟨eI,rfl,h2⟩:=h2
  simp only[<-V9]
  exact aed h2
 |ret τ=>
  obtain⟨eI,rfl,h2⟩:=h2
  simp only[<-V9]
  exact aed h2
 |ext i τ=>
  obtain⟨eI,rfl,h2⟩:=h2
  cases h2
def Gd (k:K) (ts:List Ty) (x:Ty.DL ts):SV:=
 match k with
 |.one=>match Ty.cells ts x with
  |[c]=>.one c
  |_=>.one .bq
 |.agg=>.agg (Ty.cells ts x)
 |.ptr=>.one (.ptr aK 0 0 0)
theorem adf (k:K) (ts:List Ty) (x:Ty.DL ts):(Gd k ts x).er=Ee (k,Ty.aI ts x):=by
 cases k with
 |one=>
  match ts,x with
  |[],x=>rfl
  |[t],x=>rfl
  |t::u::[],x=>rfl
  |t::u::v::ts,x=>rfl
 |agg=>simp only[Gd,SV.er,Ee,Ty.mA]
 |ptr=>rfl
def Gp:Nat->(as:ao)->aV as.aU->(Nat->SV)
 |_,[],_=>fun _=>.one .bq
 |k,[a],x=>aA (fun _=>.one .bq) k (Gd a.1 a.2 x)
 |k,a::b::as,x=>aA (Gp (k+1) (b::as) x.2) k (Gd a.1 a.2 x.1)
theorem adx:∀(k:Nat) (as:ao) (x:aV as.aU),qK (Gp k as x)=tI k (dg as x)
 |k,[],x=>rfl
 |k,[a],x=>by
  have e:(Gd a.1 a.2 x).er=Ee (a.1,Ty.aI a.2 x):=adf a.1 a.2 x
  simp only[Gp,dg,tI,wH]
  rw[e]
  rfl
 |k,a::b::as,x=>by
  have ih:=adx (k+1) (b::as) x.2
  simp only[Gp,dg,wH,adf,ih]
  rw[tI]
def rD:(as:ao)->aV as.aU->Option (List TD)
 |[],_=>none
 |[a],x=>match a.1.tJ with
  |true=>some (Ty.iq a.2 x)
  |false=>none
 |a::b::as,x=>match a.1.tJ with
  |true=>some (Ty.iq a.2 x.1)
  |false=>rD (b::as) x.2
theorem acF (k:K) (xs:List C) (ds:List Dv):pf ((k,xs)::ds)=match k.tJ with|true=>some xs|false=>pf ds:=by cases k<;>rfl
theorem aaj (k:K) (ts:List Ty) (as:ao):B2 ((k,ts)::as)=match k.tJ with|true=>true|false=>B2 as:=by cases k<;>rfl
theorem Wv:∀(as:ao) (x:aV as.aU),(rD as x).map cQ=pf (dg as x)
 |[],_=>rfl
 |[(k,ts)],x=>by
  simp only[rD,dg,acF]
  cases k.tJ with
  |true=>exact congrArg some (Ty.qG ts x)
  |false=>rfl
 |(k,ts)::b::as,x=>by
  simp only[rD,dg,acF]
  cases k.tJ with
  |true=>simp only[Option.map_some];rw[Ty.qG]
  |false=>exact Wv (b::as) x.2
theorem ad4:∀(as:ao) (x:aV as.aU),(rD as x).isSome=B2 as
 |[],_=>rfl
 |[(k,ts)],x=>by
  simp only[rD,aaj]
  cases k.tJ<;>rfl
 |(k,ts)::b::as,x=>by
  simp only[rD]
  rw[aaj]
  cases k.tJ with
  |true=>rfl
  |false=>exact ad4 (b::as) x.2
def adz (as:ao) (x:aV as.aU):Nat->Option SB:=fun n=>match Nat.beq n aK with
 |true=>match rD as x with
  |some l=>some (.box (l.map fun y=>.v y.1 y.2))
  |none=>none
 |false=>none
def Wg (as:ao) (x:aV as.aU):ah:={env:=Gp 0 as x,h:=adz as x,used:=fun n=>Nat.ble aK n}
theorem arW (as:ao) (x:aV as.aU):(Wg as x).er=FD (dg as x):=by
 simp only[Wg,ah.er,FD,adx]
 congr 1
 funext n
 simp only[dc,adz,oV]
 cases Nat.beq n aK with
 |false=>rfl
 |true=>
  simp only
  rw[<-Wv]
  cases rD as x with
  |none=>rfl
  |some l=>simp only[Option.map_some,SB.er,L3]
section
variable {ρ:Type}
def LJ (h:Nat->Option SB):List SV->(List bX->Option ρ)->Option ρ
 |[],k=>k []
 |v::vs,k=>match v.cells? with
  |some (ag,cs)=>AA h cs fun l=>LJ h vs fun ds=>k ((Kz ag,l)::ds)
  |none=>none
theorem aea {h:Nat->Option SB}:∀{vs:List SV} {k:List bX->Option ρ} {r:ρ},LJ h vs k=some r->∃ds,ru (dc h) (vs.map SV.er)=some (ds.map bX.er)/\k ds=some r
 |[],k,r,hx=>⟨[],rfl,hx⟩
 |v::vs,k,r,hx=>by
  simp only[LJ] at hx
  split at hx
  ·rename_i ag cs hc
   obtain⟨l,h1,h2⟩:=GJ hx
   obtain⟨ds,h3,h4⟩:=aea h2
   refine⟨_,?_,h4⟩
   simp only[List.map_cons,ru,SV.mA hc,h1,h3,bX.er]
   cases ag<;>rfl
  ·cases hx
def ad3:List SV->Option (Nat×Nat×Nat)
 |[v]=>v.qj
 |_=>none
def WG (h:Nat->Option SB) (vs:List SV) (k:List bX->Option ρ):Option ρ:=
 match ad3 vs with
 |some (n,kk,off)=>match Ln h n kk off with
  |some l=>match Nat.ble aK n with
   |true=>none
   |false=>k [(.ptr,l)]
  |none=>none
 |none=>LJ h vs k
theorem asm {h:Nat->Option SB} {vs:List SV} {k:List bX->Option ρ} {r:ρ} (hx:WG h vs k=some r):∃ds,Dg (dc h) (vs.map SV.er)=some (ds.map bX.er)/\k ds=some r:=by
 unfold WG at hx
 split at hx
 ·rename_i n kk off hp
  have hv:∃sz,vs=[.one (.ptr n kk sz off)]:=by
   unfold ad3 at hp
   split at hp
   ·obtain⟨sz,rfl⟩:=acE hp
    exact⟨sz,rfl⟩
   ·cases hp
  obtain⟨sz,rfl⟩:=hv
  split at hx
  ·rename_i l hl
   split at hx
   ·cases hx
   ·rename_i hb
    refine⟨_,?_,hx⟩
    have e:=adi (sz:=sz) hl
    have hn:¬aK<=n:=fun ig=>by rw[Nat.ble_eq_true_of_le ig] at hb;cases hb
    simp only[List.map_cons,List.map_nil,Dg,e]
    rw[if_neg hn]
    rfl
  ·cases hx
 ·rename_i hp
  obtain⟨ds,h1,h2⟩:=aea hx
  refine⟨ds,?_,h2⟩
  unfold Dg
  split
  ·rename_i v0 he
   have hv:∃v,vs=[v]/\v0=v.er:=by
    match vs,he with
    |[v],he=>simp at he;exact⟨v,rfl,he.symm⟩
   obtain⟨v,rfl,rfl⟩:=hv
   have bg:v.qj=none:=hp
   rw[acD bg]
   exact h1
  ·exact h1
def Wu (h:Nat->Option SB) (cur:Option (List TD)) (k:List bX->Option ρ):Option ρ:=
 match cur with
 |none=>k []
 |some xs=>match h aK with
  |some (.box cs)=>cW cs.length xs.length (match xR cs with
   |some l=>k [(.ptr,l)]
   |none=>none)
  |_=>none
theorem asg {h:Nat->Option SB} {cur:Option (List TD)} {k:List bX->Option ρ} {r:ρ} (hx:Wu h cur k=some r):
  ∃os:List bX,C5 (dc h) (cur.map cQ)=some (cQ (os.flatMap (·.2)))/\os.length=(match cur.isSome with|true=>1|false=>0)/\k os=some r:=by
 unfold Wu at hx
 split at hx
 ·exact⟨[],rfl,rfl,hx⟩
 ·rename_i xs
  split at hx
  ·rename_i cs hn
   have he:=(bi hx).1;replace hx:=(bi hx).2
   split at hx
   ·rename_i l hl
    refine⟨[(.ptr,l)],?_,rfl,hx⟩
    simp only[Option.map_some,C5,dc,hn,SB.er,List.length_map]
    rw[if_pos (by rw[he,cQ,List.length_map]),Gl hl]
    simp
   ·cases hx
  ·cases hx
end
def LO (σ:ah) (ms:List bD) (cur:Option (List TD)) (aF:ao):Option (aV aF.aU):=
 xU σ ms fun vs=>WG σ.h vs fun ds=>Wu σ.h cur fun os=>o8 aF (ds++os)
theorem aee {σ:ah} {ms:List bD} {args:ao} {x:aV args.aU} {aF:ao} {y:aV aF.aU} (h:LO σ ms (rD args x) aF=some y):
  σ.er.Df ms (dg args x)=some (xT (aF.length - qf args) (dg aF y)):=by
 unfold LO at h
 obtain⟨vs,h1,h2⟩:=GA h
 obtain⟨ds,h3,h4⟩:=asm h2
 obtain⟨os,h5,h6,h7⟩:=asg h4
 have h8:=tS h7
 have hlen:aF.length=ds.length+os.length:=by
  have:=congrArg List.length h8
  rw[EC,List.length_map,List.length_append] at this
  exact this.symm
 have u9:qf args=os.length:=by
  rw[h6,ad4]
  unfold qf
  cases B2 args<;>rfl
 have hk:aF.length - qf args=ds.length:=by omega
 have wN:Dg σ.er.h (vs.map SV.er)=some (ds.map bX.er):=h3
 have JR:C5 σ.er.h (pf (dg args x))=some (cQ (os.flatMap (·.2))):=by rw[<-Wv];exact h5
 simp only[St.Df,h1,wN,JR,hk]
 rw[<-h8,Gx,List.take_left,List.drop_left]
def ov (N:Nat) (T:List az) (sc:bz) (ms:List bD) (args aF:ao) (x:aV args.aU):Option (aV aF.aU):=
 lW N T sc (Wg args x) (fun σ=>LO σ ms (rD args x) aF) (fun _ _=>none) (fun σ=>LO σ ms (rD args x) aF)
theorem arf {T:List az} {sc:bz} {ms:List bD} {args aF:ao} {x:aV args.aU} {y:aV aF.aU} (h:ov aC T sc ms args aF x=some y):
  Lj (cX T) sc.er ms (dg args x)=some (xT (aF.length - qf args) (dg aF y)):=by
 obtain⟨o,h1,h2⟩:=sJ sc h
 rw[arW] at h1
 unfold Lj
 rw[h1]
 cases o with
 |fR τ=>
  obtain⟨eI,rfl,h2⟩:=h2
  exact aee h2
 |ret τ=>
  obtain⟨eI,rfl,h2⟩:=h2
  exact aee h2
 |ext i τ=>
  obtain⟨eI,rfl,h2⟩:=h2
  cases h2
def XO (P:Program) (fn:az):Prop:=(fn.mu.f9=0->dj P fn.id fn.M)/\(fn.mu.f9=1->qw P fn.id fn.mu fn.MM)/\(fn.mu.f9=2->lD P fn.id fn.MV)/\(fn.mu.f9=3->XQ P fn.id fn.mu.tl fn.MW)/\bH P fn.id=true
def aB (P:Program) (T:List az):Prop:=∀fn∈T,XO P fn
theorem aB.nil {P:Program}:aB P []:=fun _ h=>by cases h
theorem aB.NL {P:Program} {fn:az} {T:List az} (h:XO P fn) (hT:aB P T):aB P (fn::T):=by
 intro g hg
 cases hg with
 |head=>exact h
 |tail _ hg=>exact hT g hg
theorem aB.cons {P:Program} {f:FuncId} {args aF:ao} {F:aV args.aU->Option (aV aF.aU)} {T:List az} (h:dj P f (az.M ⟨f,args,[],aF,F⟩)/\bH P f=true) (hT:aB P T):aB P (⟨f,args,[],aF,F⟩::T):=
 aB.NL ⟨fun _=>h.1,fun hm=>(by cases hm),fun hm=>(by cases hm),fun hm=>(by cases hm),h.2⟩ hT
theorem aB.oK {P:Program} {f:FuncId} {args:ao} {s:List (Option Mode)} {mu:aQ} {aF:ao} {F:aV args.aU->Option (aV aF.aU)} {T:List az} (h:qw P f (s::mu) (az.MM ⟨f,args,s::mu,aF,F⟩)/\bH P f=true) (hT:aB P T)
  (hk:aQ.f9 (s::mu)=1:=by rfl):aB P (⟨f,args,s::mu,aF,F⟩::T):=
 aB.NL ⟨fun hm=>absurd (hk.symm.trans hm) (by decide),fun _=>h.1,fun hm=>absurd (hk.symm.trans hm) (by decide),fun hm=>absurd (hk.symm.trans hm) (by decide),h.2⟩ hT
theorem aB.kl {P:Program} {f:FuncId} {args:ao} {aF:ao} {F:aV args.aU->Option (aV aF.aU)} {T:List az} (h:lD P f (az.MV ⟨f,args,[[some .aG]],aF,F⟩)/\bH P f=true) (hT:aB P T):aB P (⟨f,args,[[some .aG]],aF,F⟩::T):=
 aB.NL ⟨fun hm=>(by cases hm),fun hm=>(by cases hm),fun _=>h.1,fun hm=>(by cases hm),h.2⟩ hT
theorem LS:∀{T:List az} {f:FuncId} {M:List Dv->Option (List Dv)},aT.find (cX T).pure f=some M->∃fn∈T,fn.id=f/\M=fn.M/\fn.mu.f9=0
 |[],f,M,h=>by simp[cX,aT.find] at h
 |g::l,f,M,h=>by
  simp only[cX,List.filterMap_cons] at h
  by_cases hg:g.mu.f9=0
  ·simp only[hg,aT.find] at h
   split at h
   ·rename_i e
    injection h with h
    exact⟨g,by simp,e.symm,h.symm,hg⟩
   ·obtain⟨fn,h1,h2,h3⟩:=LS (T:=l) h
    exact⟨fn,by simp[h1],h2,h3⟩
  ·split at h
   ·obtain⟨fn,h1,h2,h3⟩:=LS (T:=l) h
    exact⟨fn,by simp[h1],h2,h3⟩
   ·rename_i z hz
    split at hz
    ·rename_i h0;exact absurd h0 hg
    ·cases hz
theorem WY:∀{T:List az} {f:FuncId} {sig:aQ} {M:List Dv->Option (List Dv×List C)},aT.rY (cX T).CY f=some (sig,M)->∃fn∈T,fn.id=f/\sig=fn.mu/\M=fn.MM/\fn.mu.f9=1
 |[],f,sig,M,h=>by simp[cX,aT.rY] at h
 |g::l,f,sig,M,h=>by
  simp only[cX,List.filterMap_cons] at h
  by_cases hg:g.mu.f9=1
  ·simp only[hg,aT.rY] at h
   split at h
   ·rename_i e
    injection h with h
    injection h with ha hb
    exact⟨g,by simp,e.symm,ha.symm,hb.symm,hg⟩
   ·obtain⟨fn,h1,h2,h3⟩:=WY (T:=l) h
    exact⟨fn,by simp[h1],h2,h3⟩
  ·split at h
   ·obtain⟨fn,h1,h2,h3⟩:=WY (T:=l) h
    exact⟨fn,by simp[h1],h2,h3⟩
   ·rename_i z hz
    split at hz
    ·rename_i h0;exact absurd h0 hg
    ·cases hz
theorem WZ:∀{T:List az} {f:FuncId} {M:List Dv->Option (List Dv×List C)},aT.kQ (cX T).vs f=some M->∃fn∈T,fn.id=f/\M=fn.MV/\fn.mu.f9=2
 |[],f,M,h=>by simp[cX,aT.kQ] at h
 |g::l,f,M,h=>by
  simp only[cX,List.filterMap_cons] at h
  by_cases hg:g.mu.f9=2
  ·simp only[hg,aT.kQ] at h
   split at h
   ·rename_i e
    injection h with h
    exact⟨g,by simp,e.symm,h.symm,hg⟩
   ·obtain⟨fn,h1,h2,h3⟩:=WZ (T:=l) h
    exact⟨fn,by simp[h1],h2,h3⟩
  ·split at h
   ·obtain⟨fn,h1,h2,h3⟩:=WZ (T:=l) h
    exact⟨fn,by simp[h1],h2,h3⟩
   ·rename_i z hz
    split at hz
    ·rename_i h0;exact absurd h0 hg
    ·cases hz
theorem W0:∀{T:List az} {f:FuncId} {sig:aQ} {M:List Dv->Option (Nat×Nat)},aT.rZ (cX T).ws f=some (sig,M)->∃fn∈T,fn.id=f/\sig=fn.mu.tl/\M=fn.MW/\fn.mu.f9=3
 |[],f,sig,M,h=>by simp[cX,aT.rZ] at h
 |g::l,f,sig,M,h=>by
  simp only[cX,List.filterMap_cons] at h
  by_cases hg:g.mu.f9=3
  ·simp only[hg,aT.rZ] at h
   split at h
   ·rename_i e
    injection h with h
    injection h with ha hb
    exact⟨g,by simp,e.symm,ha.symm,hb.symm,hg⟩
   ·obtain⟨fn,h1,h2,h3⟩:=W0 (T:=l) h
    exact⟨fn,by simp[h1],h2,h3⟩
  ·split at h
   ·obtain⟨fn,h1,h2,h3⟩:=W0 (T:=l) h
    exact⟨fn,by simp[h1],h2,h3⟩
   ·rename_i z hz
    split at hz
    ·rename_i h0;exact absurd h0 hg
    ·cases hz
theorem aB.tok {P:Program} {T:List az} (hT:aB P T):oG P (cX T):=by
 refine⟨fun g M hM=>?_,fun g sig M hM=>?_,fun g M hM=>?_,fun g sig M hM=>?_,fun g M hM=>?_⟩
 ·obtain⟨uK,h1,h2,h3,h4⟩:=LS hM
  subst h2 h3
  exact(hT uK h1).1 h4
 ·obtain⟨uK,h1,h2,h3,h4,h5⟩:=WY hM
  subst h2 h3 h4
  exact(hT uK h1).2.1 h5
 ·obtain⟨uK,h1,h2,h3,h4⟩:=WZ hM
  subst h2 h3
  exact(hT uK h1).2.2.1 h4
 ·obtain⟨uK,h1,h2,h3,h4,h5⟩:=W0 hM
  subst h2 h3 h4
  exact(hT uK h1).2.2.2.1 h5
 ·obtain⟨uK,h1,h2,h3,h4⟩:=LS hM
  subst h2
  exact(hT uK h1).2.2.2.2
def cj (P:Program) (f:FuncId) (mc:mh) (ms:List bD) (n:Nat):Bool:=
 match P.funcs[f]? with
 |some fn=>match fn.body with
  |some c=>jw P fn.ntmps c mc&&nK P fn.results.toList ms&&decide (n<=fn.ntmps)&&(fn.name != "runtime.NumGoroutine")
  |none=>false
 |none=>false
theorem NG {P:Program} {f:FuncId} {mc:mh} {ms:List bD} {n:Nat} (h:cj P f mc ms n=true):bH P f=true:=by
 unfold cj at h
 unfold bH
 split at h
 ·rename_i fn hf
  split at h
  ·rename_i c hb
   simp only[Bool.and_eq_true] at h
   simp[hf,hb,h.2]
  ·cases h
 ·cases h
theorem dN {P:Program} {T:List az} (hT:aB P T) (hm:P.follows .mixedOrders=true) {f:FuncId} {sc:bz} {ms:List bD} {args aF:ao} (hc:cj P f sc.er ms args.length=true)
  (F:aV args.aU->Option (aV aF.aU)) (hF:∀x y,F x=some y->dH aC T sc ms args aF x=some y):dj P f (az.M ⟨f,args,[],aF,F⟩)/\bH P f=true:=by
 refine⟨?_,NG hc⟩
 unfold cj at hc
 split at hc
 ·rename_i fn hf
  split at hc
  ·rename_i c hb
   simp only[Bool.and_eq_true,decide_eq_true_eq] at hc
   refine aqx (T:=cX T) hT.tok hm hf hb hc.1.1.1 hc.1.1.2 fun ds rs hM=>?_
   obtain⟨x,y,h1,h2,h3⟩:=az.HB hM
   subst h1 h3
   exact⟨by rw[EC];exact hc.1.2,ard (hF x y h2)⟩
  ·cases hc
 ·cases hc
theorem zY {P:Program} {T:List az} (hT:aB P T) (hm:P.follows .mixedOrders=true) {f:FuncId} {sc:bz} {ms:List bD} {args:ao} {mu:aQ} {aF:ao} (hc:cj P f sc.er ms args.length=true)
  (F:aV args.aU->Option (aV aF.aU)) (hF:∀x y,F x=some y->vH aC T sc ms args mu aF x=some y):qw P f mu (az.MM ⟨f,args,mu,aF,F⟩)/\bH P f=true:=by
 refine⟨?_,NG hc⟩
 unfold cj at hc
 split at hc
 ·rename_i fn hf
  split at hc
  ·rename_i c hb
   simp only[Bool.and_eq_true,decide_eq_true_eq] at hc
   refine anW (T:=cX T) hT.tok hm hf hb hc.1.1.1 hc.1.1.2 fun ds rs fb hM=>?_
   unfold az.MM at hM
   rw[Option.map_eq_some_iff] at hM
   obtain⟨vG,h0,Pb⟩:=hM
   obtain⟨x,y,h1,h2,h3⟩:=az.HB h0
   subst h1 h3
   refine⟨by rw[EC];exact hc.1.2,?_⟩
   rw[<-Pb]
   exact arc (hF x y h2)
  ·cases hc
 ·cases hc
theorem qv {P:Program} {T:List az} (hT:aB P T) (hm:P.follows .mixedOrders=true) {f:FuncId} {sc:bz} {ms:List bD} {args aF:ao} (hc:cj P f sc.er ms args.length=true)
  (F:aV args.aU->Option (aV aF.aU)) (hF:∀x y,F x=some y->ov aC T sc ms args aF x=some y):lD P f (az.MV ⟨f,args,[[some .aG]],aF,F⟩)/\bH P f=true:=by
 refine⟨?_,NG hc⟩
 unfold cj at hc
 split at hc
 ·rename_i fn hf
  split at hc
  ·rename_i c hb
   simp only[Bool.and_eq_true,decide_eq_true_eq] at hc
   refine as2 (T:=cX T) hT.tok hm hf hb hc.1.1.1 hc.1.1.2 fun ds rs out hM=>?_
   unfold az.MV at hM
   rw[Option.map_eq_some_iff] at hM
   obtain⟨vG,h0,Pb⟩:=hM
   obtain⟨x,y,h1,h2,h3⟩:=az.HB h0
   subst h1 h3
   refine⟨by rw[EC];exact hc.1.2,?_⟩
   rw[<-Pb]
   exact arf (hF x y h2)
  ·cases hc
 ·cases hc
end Go.Am
