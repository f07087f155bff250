/- S3: typed functions, and one operation of the typed evaluator. No condition. -/
import Derived.Test.YtbgmbplglejidaaS2
set_option linter.unusedVariables false
set_option linter.unusedSimpArgs false
namespace Go.Am
def aS:List (List Ty)->Type
 |[]=>Unit
 |ts::l=>match l with
  |[]=>Ty.DL ts
  |us::l'=>Ty.DL ts×aS (us::l')
abbrev ak:=List (K×List Ty)
abbrev ak.aR (s:ak):List (List Ty):=s.map (·.2)
def dd:(as:ak)->aS as.aR->List Dv
 |[],_=>[]
 |[a],x=>[(a.1,Ty.aI a.2 x)]
 |a::b::as,x=>(a.1,Ty.aI a.2 x.1)::dd (b::as) x.2
def kY:(as:ak)->aS as.aR->List bW
 |[],_=>[]
 |[a],x=>[(a.1,Ty.ie a.2 x)]
 |a::b::as,x=>(a.1,Ty.ie a.2 x.1)::kY (b::as) x.2
theorem vY:∀(as:ak) (x:aS as.aR),(kY as x).map bW.er=dd as x
 |[],_=>rfl
 |[a],x=>congrArg (fun l=>[((a.1,l):Dv)]) (Ty.qy a.2 x)
 |a::b::as,x=>by
  have:=vY (b::as) x.2
  simp only[kY,dd,List.map_cons,bW.er,Ty.qy,this]
def K.beq:K->K->Bool
 |.one,.one=>true
 |.agg,.agg=>true
 |.ptr,.ptr=>true
 |_,_=>false
theorem K.beq_eq {a b:K} (h:K.beq a b=true):a=b:=by cases a<;>cases b<;>first|rfl|cases h
def IA (ts:List Ty):(l:List (List Ty))->Ty.DL ts->aS l->aS (ts::l)
 |[],x,_=>x
 |_::_,x,y=>(x,y)
theorem Yb (a:K×List Ty):∀(as:ak) (x:Ty.DL a.2) (y:aS (ak.aR as)),dd (a::as) (IA a.2 (ak.aR as) x y)=(a.1,Ty.aI a.2 x)::dd as y
 |[],_,_=>rfl
 |_::_,_,_=>rfl
def oP:(as:ak)->List bW->Option (aS as.aR)
 |[],[]=>some ()
 |a::as,d::ds=>fb (K.beq a.1 d.1) (match q9 a.2 d.2,oP as ds with
  |some x,some y=>some (IA a.2 (ak.aR as) x y)
  |_,_=>none)
 |_,_=>none
theorem tB:∀{as:ak} {ds:List bW} {x:aS as.aR},oP as ds=some x->ds.map bW.er=dd as x
 |[],[],x,h=>rfl
 |a::as,d::ds,x,h=>by
  simp only[oP] at h
  have h1:=(cv h).1;replace h2:=(cv h).2
  split at h2
  ·rename_i y z e1 e2
   injection h2 with h2
   subst h2
   rw[Yb,List.map_cons,tB e2,bW.er,<-K.beq_eq h1,<-wU e1]
  ·cases h2
 |[],_::_,x,h=>by simp[oP] at h
 |a::as,[],x,h=>by simp[oP] at h
mutual
theorem Ty.Yf:∀(t:Ty) (x y:t.D),t.er x=t.er y->x=y
 |.int k,x,y,h=>by simp only[Ty.er] at h;injection h
 |.bool,x,y,h=>by simp only[Ty.er] at h;injection h
 |.list ts,x,y,h=>by simp only[Ty.er] at h;injection h with _ h;exact Ty.Ye ts x y h
theorem Ty.Ye:∀(ts:List Ty) (xs ys:List (Ty.DL ts)),List.map (Ty.aI ts) xs=List.map (Ty.aI ts) ys->xs=ys
 |ts,[],[],h=>rfl
 |ts,x::xs,y::ys,h=>by
  simp only[List.map_cons,List.cons.injEq] at h
  rw[Ty.IV ts x y h.1,Ty.Ye ts xs ys h.2]
 |ts,[],_::_,h=>by simp at h
 |ts,_::_,[],h=>by simp at h
theorem Ty.IV:∀(ts:List Ty) (x y:Ty.DL ts),Ty.aI ts x=Ty.aI ts y->x=y
 |[],x,y,h=>rfl
 |[t],x,y,h=>by simp only[Ty.aI,List.cons.injEq,and_true] at h;exact Ty.Yf t x y h
 |t::u::ts,x,y,h=>by
  simp only[Ty.aI,List.cons.injEq] at h
  exact Prod.ext (Ty.Yf t x.1 y.1 h.1) (Ty.IV (u::ts) x.2 y.2 h.2)
end
theorem Yc:∀(as:ak) (x y:aS as.aR),dd as x=dd as y->x=y
 |[],x,y,h=>rfl
 |[a],x,y,h=>by simp[dd] at h;exact Ty.IV a.2 x y h
 |a::b::as,x,y,h=>by
  simp only[dd,List.cons.injEq,Prod.mk.injEq,true_and] at h
  exact Prod.ext (Ty.IV a.2 x.1 y.1 h.1) (Yc (b::as) x.2 y.2 h.2)
structure aw where
 id:FuncId
 args:ak
 mu:aP
 aD:ak
 F:aS args.aR->Option (aS aD.aR)
open Classical in
noncomputable def aw.M (fn:aw) (ds:List Dv):Option (List Dv):=
 if h:∃x,dd fn.args x=ds then(fn.F h.choose).map (dd fn.aD) else none
theorem aw.xP (fn:aw) (x:aS fn.args.aR):fn.M (dd fn.args x)=(fn.F x).map (dd fn.aD):=by
 have h:∃y,dd fn.args y=dd fn.args x:=⟨x,rfl⟩
 unfold aw.M
 rw[dif_pos h,Yc _ _ _ h.choose_spec]
theorem aw.GS {fn:aw} {ds rs:List Dv} (h:fn.M ds=some rs):∃x y,ds=dd fn.args x/\fn.F x=some y/\rs=dd fn.aD y:=by
 unfold aw.M at h
 split at h
 ·rename_i e
  rw[Option.map_eq_some_iff] at h
  obtain⟨y,h1,h2⟩:=h
  exact⟨_,y,e.choose_spec.symm,h1,h2.symm⟩
 ·cases h
def aP.g7:aP->Nat
 |[]=>0
 |s::l=>(s.filter Option.isSome).length+aP.g7 l
def xo (k:Nat) (rs:List Dv):List Dv×List C:=(rs.take k,(rs.drop k).flatMap (·.2))
noncomputable def aw.MM (fn:aw) (ds:List Dv):Option (List Dv×List C):=(fn.M ds).map (xo (fn.aD.length - fn.mu.g7))
def aP.fN:aP->Nat
 |[]=>0
 |[[some .aF]]=>2
 |[some .aF,some .aF]::_=>3
 |_=>1
def Bo:ak->Bool
 |[]=>false
 |(.ptr,_)::_=>true
 |_::as=>Bo as
def pV (as:ak):Nat:=match Bo as with
 |true=>1
 |false=>0
noncomputable def aw.MV (fn:aw) (ds:List Dv):Option (List Dv×List C):=(fn.M ds).map (xo (fn.aD.length - pV fn.args))
def apZ:List Dv->Option (Nat×Nat)
 |[(.one,[.int _ a]),(.one,[.int _ b])]=>some (a.toNat,(b - a).toNat)
 |_=>none
noncomputable def aw.MW (fn:aw) (ds:List Dv):Option (Nat×Nat):=(fn.M ds).bind apZ
noncomputable def cQ (T:List aw):aO:=
 ⟨T.filterMap fun fn=>match fn.mu.fN with|0=>some (fn.id,fn.M)|_=>none,T.filterMap fun fn=>match fn.mu.fN with|1=>some (fn.id,fn.mu,fn.MM)|_=>none,
  T.filterMap fun fn=>match fn.mu.fN with|2=>some (fn.id,fn.MV)|_=>none,T.filterMap fun fn=>match fn.mu.fN with|3=>some (fn.id,fn.mu.tl,fn.MW)|_=>none⟩
def aw.find:List aw->FuncId->Option aw
 |[],_=>none
 |fn::l,f=>match Nat.beq f fn.id with
  |true=>some fn
  |false=>aw.find l f
theorem aw.ND:∀{T:List aw} {f:FuncId} {fn:aw},aw.find T f=some fn->fn.mu.fN=0->aO.find (cQ T).pure f=some fn.M
 |[],f,fn,h,_=>by simp[aw.find] at h
 |g::l,f,fn,h,hm=>by
  simp only[aw.find] at h
  split at h
  ·rename_i e
   injection h with h
   subst h
   simp only[cQ,List.filterMap_cons,hm,aO.find]
   rw[if_pos (Nat.eq_of_beq_eq_true e)]
  ·rename_i e
   have ih:aO.find (cQ l).pure f=some fn.M:=aw.ND h hm
   simp only[cQ,List.filterMap_cons] at ih⊢
   by_cases hg:g.mu.fN=0
   ·simp only[hg,aO.find]
    rw[if_neg (fun he=>by rw[he,Nat.beq_refl] at e;cases e)]
    exact ih
   ·split
    ·exact ih
    ·rename_i z hz
     split at hz
     ·rename_i h0;exact absurd h0 hg
     ·cases hz
theorem aw.YF:∀{T:List aw} {f:FuncId} {fn:aw},aw.find T f=some fn->fn.mu.fN=1->aO.rT (cQ T).Ci f=some (fn.mu,fn.MM)
 |[],f,fn,h,_=>by simp[aw.find] at h
 |g::l,f,fn,h,hm=>by
  simp only[aw.find] at h
  split at h
  ·rename_i e
   injection h with h
   subst h
   simp only[cQ,List.filterMap_cons,hm,aO.rT]
   rw[if_pos (Nat.eq_of_beq_eq_true e)]
  ·rename_i e
   have ih:aO.rT (cQ l).Ci f=some (fn.mu,fn.MM):=aw.YF h hm
   simp only[cQ,List.filterMap_cons] at ih⊢
   by_cases hg:g.mu.fN=1
   ·simp only[hg,aO.rT]
    rw[if_neg (fun he=>by rw[he,Nat.beq_refl] at e;cases e)]
    exact ih
   ·split
    ·exact ih
    ·rename_i z hz
     split at hz
     ·rename_i h0;exact absurd h0 hg
     ·cases hz
theorem aw.YG:∀{T:List aw} {f:FuncId} {fn:aw},aw.find T f=some fn->fn.mu.fN=2->aO.kw (cQ T).vs f=some fn.MV
 |[],f,fn,h,_=>by simp[aw.find] at h
 |g::l,f,fn,h,hm=>by
  simp only[aw.find] at h
  split at h
  ·rename_i e
   injection h with h
   subst h
   simp only[cQ,List.filterMap_cons,hm,aO.kw]
   rw[if_pos (Nat.eq_of_beq_eq_true e)]
  ·rename_i e
   have ih:aO.kw (cQ l).vs f=some fn.MV:=aw.YG h hm
   simp only[cQ,List.filterMap_cons] at ih⊢
   by_cases hg:g.mu.fN=2
   ·simp only[hg,aO.kw]
    rw[if_neg (fun he=>by rw[he,Nat.beq_refl] at e;cases e)]
    exact ih
   ·split
    ·exact ih
    ·rename_i z hz
     split at hz
     ·rename_i h0;exact absurd h0 hg
     ·cases hz
def vl (m:Mode) (σ:af):Nat->List TD->Option (List SC×Nat×af)
 |nm,[]=>some ([],nm,σ)
 |nm,⟨t,x⟩::cs=>match t,x with
  |.list ts,xs=>match σ.ins nm (.row true m ts xs) with
   |some σ1=>match vl m σ1 (nm+1) cs with
    |some (l,ft,σ2)=>some (.sl nm ts.length 0 (J (α:=Ty.DL ts) xs)::l,ft,σ2)
    |none=>none
   |none=>none
  |.int k,x=>match vl m σ nm cs with
   |some (l,ft,σ2)=>some (.v (.int k) x::l,ft,σ2)
   |none=>none
  |.bool,x=>match vl m σ nm cs with
   |some (l,ft,σ2)=>some (.v .bool x::l,ft,σ2)
   |none=>none
theorem KY (m:Mode):∀{cs:List TD} {σ σ1:af} {nm ft:Nat} {l:List SC},vl m σ nm cs=some (l,ft,σ1)->
  σ.er.imp m nm (cF cs)=some (l.map SC.er,ft,σ1.er)
 |[],σ,σ1,nm,ft,l,h=>by
  simp only[vl] at h
  injection h with h
  injection h with h1 h2
  injection h2 with h2 h3
  subst h1 h2 h3
  rfl
 |⟨.list ts,xs⟩::cs,σ,σ2,nm,ft,l,h=>by
  simp only[vl] at h
  split at h
  ·rename_i σ1 e1
   split at h
   ·rename_i l' E9 gW e2
    injection h with h
    injection h with h1 h2
    injection h2 with h2 h3
    subst h1 h2 h3
    have i1:σ.er.ins nm (.row true m ts.length (List.map (Ty.aI ts) xs))=some σ1.er:=af.s6 e1
    have i2:=KY m e2
    simp only[cF] at i2
    simp only[cF,List.map_cons,Ty.er,St.imp,i1,i2,SC.er]
    exact congrArg (fun q=>some (ah.sl nm ts.length 0 q::List.map SC.er l',E9,gW.er)) (List.length_map (Ty.aI ts))
   ·cases h
  ·cases h
 |⟨.int k,x⟩::cs,σ,σ2,nm,ft,l,h=>by
  simp only[vl] at h
  split at h
  ·rename_i l' E9 gW e2
   injection h with h
   injection h with h1 h2
   injection h2 with h2 h3
   subst h1 h2 h3
   have i2:=KY m e2
   simp only[cF] at i2
   simp only[cF,List.map_cons,Ty.er,St.imp,i2,SC.er]
  ·cases h
 |⟨.bool,x⟩::cs,σ,σ2,nm,ft,l,h=>by
  simp only[vl] at h
  split at h
  ·rename_i l' E9 gW e2
   injection h with h
   injection h with h1 h2
   injection h2 with h2 h3
   subst h1 h2 h3
   have i2:=KY m e2
   simp only[cF] at i2
   simp only[cF,List.map_cons,Ty.er,St.imp,i2,SC.er]
  ·cases h
def K.isAgg:K->Bool
 |.agg=>true
 |_=>false
def K.tv:K->Bool
 |.ptr=>true
 |_=>false
def CI (m:Mode) (σ:af):Nat->List bW->Option (List (Bool×List SC)×af)
 |_,[]=>some ([],σ)
 |nm,(k,cs)::ds=>match k.tv with
  |true=>none
  |false=>match vl m σ nm cs with
   |some (l,ft,σ1)=>match CI m σ1 ft ds with
    |some (ls,σ2)=>some ((k.isAgg,l)::ls,σ2)
    |none=>none
   |none=>none
theorem U8 (m:Mode):∀{ds:List bW} {σ σ1:af} {nm:Nat} {ls:List (Bool×List SC)},CI m σ nm ds=some (ls,σ1)->
  σ.er.jK m nm (ds.map bW.er)=some (ls.map (fun x=>(x.1,x.2.map SC.er)),σ1.er)
 |[],σ,σ1,nm,ls,h=>by
  simp only[CI] at h
  injection h with h
  injection h with h1 h2
  subst h1 h2
  rfl
 |(k,cs)::ds,σ,σ2,nm,ls,h=>by
  simp only[CI] at h
  split at h
  ·cases h
  ·rename_i hk
   split at h
   ·rename_i l ft σ1 e1
    split at h
    ·rename_i zi gW e2
     injection h with h
     injection h with h1 h2
     subst h1 h2
     have i1:=KY m e1
     have i2:=U8 m e2
     have i2':σ1.er.jK m ft (List.map bW.er ds)=some (zi.map (fun x=>(x.1,x.2.map SC.er)),gW.er):=i2
     cases k with
     |ptr=>cases hk
     |one=>simp only[List.map_cons,bW.er,St.jK,i1,i2'];rfl
     |agg=>simp only[List.map_cons,bW.er,St.jK,i1,i2'];rfl
    ·cases h
   ·cases h
def CU:List (Bool×List SC)->SV
 |[(ag,cs)]=>zT ag cs
 |l=>.bq l
theorem FV (l:List (Bool×List SC)):(CU l).er=lH (l.map fun x=>(x.1,x.2.map SC.er)):=by
 match l with
 |[]=>rfl
 |[(ag,cs)]=>exact CZ ag cs
 |_::_::_=>rfl
section
variable {ρ:Type}
def KT (T:List aw) (m:Mode) (d:Option Nat) (f:FuncId) (as:List SV) (σ:af) (k:af->Option ρ):Option ρ:=
 match aw.find T f with
 |some fn=>match fn.mu.fN with
  |0=>F5 σ.h as fun ds=>match oP fn.args ds with
   |some x=>(fn.F x).aa fun rs=>match CI m σ (zp d) (kY fn.aD rs) with
    |some (ls,σ1)=>k (σ1.put d (CU ls))
    |none=>none
   |none=>none
  |_=>none
 |none=>none
theorem acz {T:List aw} {m:Mode} {d:Option Nat} {f:FuncId} {as:List SV} {σ:af} {k:af->Option ρ} {r:ρ} (h:KT T m d f as σ k=some r):
  ∃σ1:af,rQ (cQ T) m d f (as.map SV.er) σ.er=some σ1.er/\k σ1=some r:=by
 unfold KT at h
 split at h
 ·rename_i fn hf
  split at h
  ·rename_i wz
   obtain⟨ds,h1,h2⟩:=VP h
   split at h2
   ·rename_i x hx
    rw[eT] at h2
    obtain⟨rs,hF,h2⟩:=h2
    split at h2
    ·rename_i ls σ1 hs
     refine⟨_,?_,h2⟩
     have e:=U8 m hs
     rw[vY] at e
     have hv:kO σ.er.h (as.map SV.er)=some (ds.map bW.er):=h1
     simp only[rQ,hv,aw.ND hf wz,tB hx,aw.xP,hF,Option.map_some,e,af.dw,FV]
    ·cases h2
   ·cases h2
  ·cases h
 ·cases h
def zH:List bW->Option (List (Bool×List SC))
 |[]=>some []
 |(k,cs)::ds=>match k.tv with
  |true=>none
  |false=>match zH ds with
   |some ls=>some ((k.isAgg,cs.map fun x=>SC.v x.1 x.2)::ls)
   |none=>none
theorem KS:∀{ds:List bW} {ls:List (Bool×List SC)},zH ds=some ls->gH (ds.map bW.er)=some (ls.map fun x=>(x.1,x.2.map SC.er))
 |[],ls,h=>by simp only[zH] at h;injection h with h;subst h;rfl
 |(k,cs)::ds,ls,h=>by
  simp only[zH] at h
  split at h
  ·cases h
  ·rename_i hk
   split at h
   ·rename_i zi e
    injection h with h
    subst h
    have i2:=KS e
    have ec:(cF cs).map ah.c=(cs.map fun x=>SC.v x.1 x.2).map SC.er:=by simp[cF,SC.er]
    cases k with
    |ptr=>cases hk
    |one=>simp only[List.map_cons,bW.er,gH];rw[show gH (List.map bW.er ds)=_ from i2];simp only;rw[ec];rfl
    |agg=>simp only[List.map_cons,bW.er,gH];rw[show gH (List.map bW.er ds)=_ from i2];simp only;rw[ec];rfl
   ·cases h
def U0 (T:List aw) (d:Option Nat) (f:FuncId) (as:List SV) (σ:af) (k:af->Option ρ):Option ρ:=
 match aw.find T f with
 |some fn=>match fn.mu.fN with
  |0=>F5 σ.h as fun ds=>match oP fn.args ds with
   |some x=>(fn.F x).aa fun rs=>match zH (kY fn.aD rs) with
    |some ls=>k (σ.put d (CU ls))
    |none=>none
   |none=>none
  |_=>none
 |none=>none
theorem aoE {T:List aw} {d:Option Nat} {f:FuncId} {as:List SV} {σ:af} {k:af->Option ρ} {r:ρ} (h:U0 T d f as σ k=some r):
  ∃v:SV,tZ (cQ T) f (as.map SV.er) σ.er.h=some v.er/\k (σ.put d v)=some r:=by
 unfold U0 at h
 split at h
 ·rename_i fn hf
  split at h
  ·rename_i wz
   obtain⟨ds,h1,h2⟩:=VP h
   split at h2
   ·rename_i x hx
    rw[eT] at h2
    obtain⟨rs,hF,h2⟩:=h2
    split at h2
    ·rename_i ls hs
     refine⟨_,?_,h2⟩
     have e:=KS hs
     rw[vY] at e
     have hv:kO σ.er.h (as.map SV.er)=some (ds.map bW.er):=h1
     simp only[tZ,hv,aw.ND hf wz,tB hx,aw.xP,hF,Option.map_some,e,FV]
    ·cases h2
   ·cases h2
  ·cases h
 ·cases h
def Ty.sY:Ty->Bool
 |.list ts=>Ty.fA ts
 |_=>true
def V1:Mode->List Ty->Bool
 |.ab,ts=>Ty.fA ts
 |.live,ts=>ts.all Ty.sY
 |.aF,_=>false
theorem zF (ts:List Ty) (xs:List (Ty.DL ts)) (h:Ty.fA ts=true):ga (List.map (Ty.aI ts) xs)=true:=by
 simp only[ga,List.all_eq_true,List.mem_map]
 rintro e ⟨x,_,rfl⟩
 rw[Ty.KQ];exact h
theorem XT (t:Ty) (x:t.D) (h:Ty.sY t=true):C.sY (t.er x)=true:=by
 cases t with
 |int k=>rfl
 |bool=>rfl
 |list ts=>exact zF ts x h
theorem XS:∀(ts:List Ty) (x:Ty.DL ts),ts.all Ty.sY=true->(Ty.aI ts x).all C.sY=true
 |[],_,_=>rfl
 |[t],x,h=>by
  simp only[List.all_cons,List.all_nil,Bool.and_true] at h
  simp only[Ty.aI,List.all_cons,List.all_nil,Bool.and_true]
  exact XT t x h
 |t::u::ts,x,h=>by
  simp only[List.all_cons (a:=t),Bool.and_eq_true] at h
  simp only[Ty.aI,List.all_cons (a:=Ty.er t x.1),Bool.and_eq_true]
  exact⟨XT t x.1 h.1,XS (u::ts) x.2 h.2⟩
theorem YK (m:Mode) (ts:List Ty) (xs:List (Ty.DL ts)) (h:V1 m ts=true):s8 m (List.map (Ty.aI ts) xs)=true:=by
 cases m with
 |aF=>cases h
 |ab=>exact zF ts xs h
 |live=>
  simp only[s8,List.all_eq_true,List.mem_map]
  rintro e ⟨x,_,rfl⟩
  have:=XS ts x h
  simpa[List.all_eq_true] using this
def Mode.Qg:Mode->Bool
 |.live=>true
 |_=>false
def Mode.aaq:Mode->Bool
 |.ab=>true
 |_=>false
def Vk (h:Nat->Option SB) (md:Mode) (c:SC) (k:cR->(t:Ty)->t.D->Option ρ):Option ρ:=
 match c with
 |.nil ts=>match ts with
  |[]=>none
  |t::us=>fb md.own (k (.nil (us.length+1)) (.list (t::us)) ([]:List (Ty.DL (t::us))))
 |.sl n sz lo len=>match h n with
  |some (.row _ m ts xs)=>fb (m.own&&((!md.Qg||m.Qg)&&V1 md ts)) (cP ts.length sz ((ai lo len (J xs)).aa fun _=>k (.row n) (.list ts) xs))
  |_=>none
 |.bx n kk aA off sz len=>match h n with
  |some (.row _ .live ts xs)=>fb md.aaq (cP ts.length aA ((cZ xs kk).aa fun e=>match(Ty.ie ts e)[off]? with
   |some ⟨.list us,ys⟩=>fb (Ty.fA us) (k (.nest n kk off) (.list us) ys)
   |_=>none))
  |_=>none
 |_=>none
theorem ao4 {h:Nat->Option SB} {md:Mode} {c:SC} {k:cR->(t:Ty)->t.D->Option ρ} {r:ρ} (hx:Vk h md c k=some r):
  ∃(it:cR) (t:Ty) (x:t.D),sy (cY h) md c.er=some (it,t.er x)/\k it t x=some r:=by
 unfold Vk at hx
 split at hx
 ·split at hx
  ·cases hx
  ·rename_i t us
   have hm:=(cv hx).1;replace hx:=(cv hx).2
   refine⟨_,.list (t::us),[],?_,hx⟩
   have bM:md≠ .aF:=by rintro rfl;cases hm
   simp[SC.er,sy,Ty.er,bM]
 ·rename_i n sz lo len
  split at hx
  ·rename_i gr m ts xs hn
   have hm:=(cv hx).1;replace hx:=(cv hx).2
   have bu:=(bi hx).1;replace hx:=(bi hx).2;subst bu
   rw[eT] at hx
   obtain⟨_,hf,hx⟩:=hx
   have O5:lo=0/\len=J xs:=by
    unfold ai at hf
    split at hf
    ·assumption
    ·cases hf
   obtain⟨rfl,rfl⟩:=O5
   simp only[Bool.and_eq_true] at hm
   have bM:m≠ .aF:=by rintro rfl;cases hm.1
   have tg:md=.live->m=.live:=by
    rintro rfl
    have:=hm.2.1
    cases m<;>first|rfl|(simp[Mode.Qg] at this)
   refine⟨_,.list ts,xs,?_,hx⟩
   simp only[SC.er,sy,cY,hn,Option.map_some,SB.er,Ty.er]
   rw[if_pos ⟨bM,tg,trivial,trivial,(List.length_map (Ty.aI ts)).symm,YK md ts xs hm.2.2⟩]
  ·cases hx
 ·rename_i n kk aA off sz len
  split at hx
  ·rename_i gr ts xs hn
   have hm:=(cv hx).1;replace hx:=(cv hx).2
   have bu:=(bi hx).1;replace hx:=(bi hx).2;subst bu
   rw[eT] at hx
   obtain⟨e,he,hx⟩:=hx
   replace he:xs[kk]? =some e:=he
   split at hx
   ·rename_i us ys hd
    have hs:=(cv hx).1;replace hx:=(cv hx).2
    refine⟨_,.list us,ys,?_,hx⟩
    have Jz:md=.ab:=by cases md<;>first|rfl|(simp[Mode.aaq] at hm)
    have nN:=Nm hd
    simp only[SC.er,sy,cY,hn,Option.map_some,SB.er,List.getElem?_map,he,Option.bind_some,nN,Ty.er,Jz,and_self,if_true]
    rw[if_pos (zF us ys hs)]
   ·cases hx
  ·cases hx
 ·cases hx
def SC.nm:SC->List Nat
 |.sl n _ _ _=>[n]
 |.bx n _ _ _ _ _=>[n]
 |_=>[]
theorem SC.amh (c:SC):c.er.dF.toList=c.nm:=by cases c<;>rfl
def CN:List (Option Mode)->List SC->List Nat
 |some _::fs,c::cs=>c.nm++CN fs cs
 |none::fs,_::cs=>CN fs cs
 |_,_=>[]
theorem Vm:∀(fs:List (Option Mode)) (cs:List SC),nk fs (cs.map SC.er)=CN fs cs
 |some m::fs,c::cs=>by simp only[List.map_cons,nk,CN,SC.amh,Vm fs cs]
 |none::fs,c::cs=>by simp only[List.map_cons,nk,CN,Vm fs cs]
 |[],cs=>by cases cs<;>rfl
 |some m::fs,[]=>rfl
 |none::fs,[]=>rfl
def CO:aP->List (Bool×List SC)->List Nat
 |s::sig,a::as=>CN s a.2++CO sig as
 |_,_=>[]
theorem Vl:∀(sig:aP) (as:List (Bool×List SC)),kf sig (as.map fun x=>(x.1,x.2.map SC.er))=CO sig as
 |s::sig,a::as=>by simp only[List.map_cons,kf,CO,Vm,Vl sig as]
 |[],as=>by cases as<;>rfl
 |s::sig,[]=>rfl
def KX (h:Nat->Option SB) (ns:List Nat):Nat->Option SB:=fun n=>match ns.contains n with|true=>none|false=>h n
theorem acF (h:Nat->Option SB) (ns:List Nat):cY (KX h ns)=dQ (cY h) ns:=by
 funext n
 simp only[cY,KX,dQ]
 cases hc:ns.contains n<;>simp[hc]
def vn (h h0:Nat->Option SB):List (Option Mode)->List SC->(List TD->List (cR×Mode)->Option ρ)->Option ρ
 |[],cs,k=>zR h0 cs fun l=>k l []
 |none::fs,c::cs,k=>xt h0 c fun t x=>vn h h0 fs cs fun l its=>k (⟨t,x⟩::l) its
 |some md::fs,c::cs,k=>Vk h md c fun it t x=>vn h h0 fs cs fun l its=>k (⟨t,x⟩::l) ((it,md)::its)
 |_::_,[],_=>none
theorem Vj {h h0:Nat->Option SB}:∀{fs:List (Option Mode)} {cs:List SC} {k:List TD->List (cR×Mode)->Option ρ} {r:ρ},vn h h0 fs cs k=some r->
  ∃l its,jN (cY h) (cY h0) fs (cs.map SC.er)=some (cF l,its)/\k l its=some r
 |[],cs,k,r,hx=>by
  simp only[vn] at hx
  obtain⟨l,h1,h2⟩:=F6 hx
  exact⟨l,[],by simp only[jN,h1],h2⟩
 |none::fs,c::cs,k,r,hx=>by
  simp only[vn] at hx
  obtain⟨t,x,h1,h2⟩:=CX hx
  obtain⟨l,its,h3,h4⟩:=Vj h2
  exact⟨⟨t,x⟩::l,its,by simp only[List.map_cons,jN,h1,h3,cF],h4⟩
 |some md::fs,c::cs,k,r,hx=>by
  simp only[vn] at hx
  obtain⟨it,t,x,h1,h2⟩:=ao4 hx
  obtain⟨l,its,h3,h4⟩:=Vj h2
  exact⟨⟨t,x⟩::l,(it,md)::its,by simp only[List.map_cons,jN,h1,h3,cF],h4⟩
 |none::fs,[],k,r,hx=>by simp[vn] at hx
 |some md::fs,[],k,r,hx=>by simp[vn] at hx
def J0:Bool->K
 |true=>.agg
 |false=>.one
def FO (h h0:Nat->Option SB):aP->List (Bool×List SC)->(List bW->List (cR×Mode)->Option ρ)->Option ρ
 |_,[],k=>k [] []
 |sig,(ag,cs)::as,k=>vn h h0 sig.hd cs fun l its=>FO h h0 sig.tl as fun ds uY=>k ((J0 ag,l)::ds) (its++uY)
theorem Vn {h h0:Nat->Option SB}:∀{as:List (Bool×List SC)} {sig:aP} {k:List bW->List (cR×Mode)->Option ρ} {r:ρ},FO h h0 sig as k=some r->
  ∃ds its,lE (cY h) (cY h0) sig (as.map fun x=>(x.1,x.2.map SC.er))=some (ds.map bW.er,its)/\k ds its=some r
 |[],sig,k,r,hx=>⟨[],[],by simp only[List.map_nil,lE],hx⟩
 |(ag,cs)::as,sig,k,r,hx=>by
  simp only[FO] at hx
  obtain⟨l,its,h1,h2⟩:=Vj hx
  obtain⟨ds,uY,h3,h4⟩:=Vn h2
  refine⟨_,_,?_,h4⟩
  simp only[List.map_cons,lE,h1,h3,bW.er]
  cases ag<;>rfl
def CK:List SV->Option (List (Bool×List SC))
 |[]=>some []
 |v::vs=>match v.cells?,CK vs with
  |some x,some xs=>some (x::xs)
  |_,_=>none
theorem Vg:∀{as:List SV} {dz:List (Bool×List SC)},CK as=some dz->pR (as.map SV.er)=some (dz.map fun x=>(x.1,x.2.map SC.er))
 |[],dz,h=>by simp only[CK] at h;injection h with h;subst h;rfl
 |v::vs,dz,h=>by
  simp only[CK] at h
  split at h
  ·rename_i x xs e1 e2
   injection h with h
   subst h
   obtain⟨b,cs⟩:=x
   simp only[List.map_cons,pR,SV.ma e1,Vg e2]
  ·cases h
def KU (ts:List Ty) (e:Ty.DL ts) (off:Nat) (x:TD):Option (Ty.DL ts):=q9 ts ((Ty.ie ts e).set off x)
theorem acB {ts:List Ty} {e e':Ty.DL ts} {off:Nat} {x:TD} (h:KU ts e off x=some e'):Ty.aI ts e'=(Ty.aI ts e).set off (x.1.er x.2):=by
 have:=wU h
 rw[this,cF,List.map_set,<-Ty.qy ts e]
 rfl
def Vt (σ:af) (it:cR) (x:TD) (k:af->Option ρ):Option ρ:=
 match it with
 |.nil _=>k σ
 |.row n=>match x with
  |⟨.list ts,xs⟩=>match σ.h n with
   |some (.row gr m us _)=>cP us.length ts.length (k (σ.dB n (.row gr m ts xs)))
   |_=>none
  |_=>none
 |.nest n kk off=>match σ.h n with
  |some (.row gr m us xs)=>(cZ xs kk).aa fun e=>match KU us e off x with
   |some e'=>k (σ.dB n (.row gr m us (bF xs kk e')))
   |none=>none
  |_=>none
theorem apf {σ:af} {it:cR} {x:TD} {k:af->Option ρ} {r:ρ} (hx:Vt σ it x k=some r):∃σ1,σ.er.nX it (x.1.er x.2)=some σ1.er/\k σ1=some r:=by
 unfold Vt at hx
 split at hx
 ·exact⟨σ,rfl,hx⟩
 ·rename_i n
  split at hx
  ·rename_i ts xs
   split at hx
   ·rename_i gr m us ys hn
    have bu:=(bi hx).1;replace hx:=(bi hx).2
    refine⟨_,?_,hx⟩
    have bk:σ.er.h n=some (.row gr m us.length (List.map (Ty.aI us) ys)):=by simp[af.er,cY,hn,SB.er]
    simp only[St.nX,Ty.er,bk,bu,if_true,af.pt,SB.er]
   ·cases hx
  ·cases hx
 ·rename_i n kk off
  split at hx
  ·rename_i gr m us xs hn
   rw[eT] at hx
   obtain⟨e,he,hx⟩:=hx
   replace he:xs[kk]? =some e:=he
   split at hx
   ·rename_i e' hs
    refine⟨_,?_,hx⟩
    have bk:σ.er.h n=some (.row gr m us.length (List.map (Ty.aI us) xs)):=by simp[af.er,cY,hn,SB.er]
    simp only[St.nX,bk,List.getElem?_map,he,Option.map_some,af.pt,SB.er,bF,List.map_set,acB hs]
   ·cases hx
  ·cases hx
def CT (σ:af):List (cR×Mode)->List TD->(af->Option ρ)->Option ρ
 |[],[],k=>k σ
 |it::its,x::xs,k=>Vt σ it.1 x fun σ1=>CT σ1 its xs k
 |_,_,_=>none
theorem ac7:∀{its:List (cR×Mode)} {xs:List TD} {σ:af} {k:af->Option ρ} {r:ρ},CT σ its xs k=some r->∃σ1,σ.er.qa its (cF xs)=some σ1.er/\k σ1=some r
 |[],[],σ,k,r,hx=>⟨σ,rfl,hx⟩
 |it::its,x::xs,σ,k,r,hx=>by
  simp only[CT] at hx
  obtain⟨σ1,h1,h2⟩:=apf hx
  obtain⟨σ2,h3,h4⟩:=ac7 h2
  refine⟨σ2,?_,h4⟩
  simp only[cF] at h3
  simp only[cF,List.map_cons,St.qa,h1,h3]
 |[],_::_,σ,k,r,hx=>by simp[CT] at hx
 |_::_,[],σ,k,r,hx=>by simp[CT] at hx
def Ks:List Nat->Bool
 |[]=>true
 |n::l=> !(l.contains n)&&Ks l
theorem abk:∀{l:List Nat},Ks l=true->l.Nodup
 |[],_=>List.nodup_nil
 |n::l,h=>by
  simp only[Ks,Bool.and_eq_true,Bool.not_eq_true'] at h
  rw[List.nodup_cons]
  refine⟨fun hm=>?_,abk h.2⟩
  have:l.contains n=true:=by simpa using hm
  rw[this] at h
  cases h.1
def U1 (T:List aw) (m:Mode) (d:Option Nat) (f:FuncId) (as:List SV) (σ:af) (k:af->Option ρ):Option ρ:=
 match aw.find T f with
 |some fn=>match fn.mu.fN with
  |1=>match CK as with
   |some dz=>fb (Ks (CO fn.mu dz)) (FO σ.h (KX σ.h (CO fn.mu dz)) fn.mu dz fun ds its=>match oP fn.args ds with
    |some x=>(fn.F x).aa fun y=>CT σ its (((kY fn.aD y).drop (fn.aD.length - fn.mu.g7)).flatMap (·.2)) fun σ1=>match CI m σ1 (zp d) ((kY fn.aD y).take (fn.aD.length - fn.mu.g7)) with
     |some (ls,σ2)=>k (σ2.put d (CU ls))
     |none=>none
    |none=>none)
   |none=>none
  |_=>none
 |none=>none
theorem FT (k:Nat) (l:List bW):xo k (l.map bW.er)=((l.take k).map bW.er,cF ((l.drop k).flatMap (·.2))):=by
 simp only[xo,<-List.map_take,<-List.map_drop]
 congr 1
 induction l.drop k with
 |nil=>rfl
 |cons d l ih=>
  simp only[List.map_cons,List.flatMap_cons,ih,cF,List.map_append,bW.er]
theorem aoF {T:List aw} {m:Mode} {d:Option Nat} {f:FuncId} {as:List SV} {σ:af} {k:af->Option ρ} {r:ρ} (h:U1 T m d f as σ k=some r):
  ∃σ1:af,ud (cQ T) m d f (as.map SV.er) σ.er=some σ1.er/\k σ1=some r:=by
 unfold U1 at h
 split at h
 ·rename_i fn hf
  split at h
  ·rename_i wz
   split at h
   ·rename_i dz hc
    have gz:=abk (cv h).1;replace h:=(cv h).2
    obtain⟨ds,its,h1,h2⟩:=Vn h
    split at h2
    ·rename_i x hx
     rw[eT] at h2
     obtain⟨y,hF,h2⟩:=h2
     obtain⟨σ1,h3,h4⟩:=ac7 h2
     split at h4
     ·rename_i ls σ2 hs
      refine⟨_,?_,h4⟩
      have e:=U8 m hs
      have hM:fn.MM (dd fn.args x)=some (((kY fn.aD y).take (fn.aD.length - fn.mu.g7)).map bW.er,cF (((kY fn.aD y).drop (fn.aD.length - fn.mu.g7)).flatMap (·.2))):=by
       unfold aw.MM
       rw[aw.xP,hF]
       simp only[Option.map_some]
       rw[<-vY,FT]
      have hh:σ.er.h=cY σ.h:=rfl
      rw[acF] at h1
      simp only[ud,aw.YF hf wz,Vg hc,Vl,if_pos gz,hh,h1,tB hx,hM,h3,e,af.dw,FV]
     ·cases h4
    ·cases h2
   ·cases h
  ·cases h
 ·cases h
def xk:List SC->Option (List TD)
 |[]=>some []
 |.v t x::cs=>match xk cs with
  |some l=>some (⟨t,x⟩::l)
  |none=>none
 |.nil (t::us)::cs=>match xk cs with
  |some l=>some (⟨.list (t::us),([]:List (Ty.DL (t::us)))⟩::l)
  |none=>none
 |_::_=>none
theorem FF:∀{cs:List SC} {l:List TD},xk cs=some l->jJ (cs.map SC.er)=some (cF l)
 |[],l,h=>by simp only[xk] at h;injection h with h;subst h;rfl
 |c::cs,l,h=>by
  unfold xk at h
  split at h
  ·rename_i e;cases e
  ·rename_i t x cs' e
   injection e with e1 e2
   subst e1 e2
   split at h
   ·rename_i l' e
    injection h with h
    subst h
    simp only[List.map_cons,jJ,SC.er,oJ,FF e,cF]
   ·cases h
  ·rename_i t us cs' e
   injection e with e1 e2
   subst e1 e2
   split at h
   ·rename_i l' e
    injection h with h
    subst h
    simp[jJ,SC.er,oJ,FF e,cF,Ty.er]
   ·cases h
  ·cases h
def KO (h:Nat->Option SB) (n kk off:Nat):Option (List TD):=
 match kk,off with
 |0,0=>match h n with
  |some (.box cs)=>xk cs
  |_=>none
 |_,_=>none
theorem acs {h:Nat->Option SB} {n kk sz off:Nat} {l:List TD} (e:KO h n kk off=some l):lY (cY h) (SV.er (.one (.ptr n kk sz off)))=some (n,cF l):=by
 unfold KO at e
 split at e
 ·split at e
  ·rename_i cs hn
   simp[SV.er,SC.er,lY,cY,hn,SB.er,FF e]
  ·cases e
 ·cases e
def SV.p9:SV->Option (Nat×Nat×Nat)
 |.one (.ptr n kk _ off)=>some (n,kk,off)
 |_=>none
theorem abJ {v:SV} (h:v.p9=none) (hh:Nat->Option ao):lY hh v.er=none:=by
 cases v with
 |one c=>cases c<;>first|rfl|(simp[SV.p9] at h)
 |agg cs=>rfl
 |bq xs=>rfl
theorem abK {v:SV} {n kk off:Nat} (h:v.p9=some (n,kk,off)):∃sz,v=.one (.ptr n kk sz off):=by
 cases v with
 |one c=>cases c<;>simp[SV.p9] at h;obtain⟨rfl,rfl,rfl⟩:=h;exact⟨_,rfl⟩
 |agg cs=>simp[SV.p9] at h
 |bq xs=>simp[SV.p9] at h
def FC (σ:af):List SV->(List bW->List Nat->af->Option ρ)->Option ρ
 |[],k=>k [] [] σ
 |v::vs,k=>match v.p9 with
  |some (n,kk,off)=>match KO σ.h n kk off with
   |some l=>FC σ vs fun ds ns σ1=>k ((.ptr,l)::ds) (n::ns) σ1
   |none=>none
  |none=>match v.cells? with
   |some (ag,cs)=>zP σ cs fun l _ σ1=>FC σ1 vs fun ds ns σ2=>k ((J0 ag,l)::ds) ns σ2
   |none=>none
theorem TT:∀{vs:List SV} {σ:af} {k:List bW->List Nat->af->Option ρ} {r:ρ},FC σ vs k=some r->
  ∃ds ns σ1,σ.er.g0 (vs.map SV.er)=some (ds.map bW.er,ns,σ1.er)/\k ds ns σ1=some r
 |[],σ,k,r,h=>⟨[],[],σ,rfl,h⟩
 |v::vs,σ,k,r,h=>by
  simp only[FC] at h
  split at h
  ·rename_i n kk off hv
   obtain⟨sz,rfl⟩:=abK hv
   split at h
   ·rename_i l hl
    obtain⟨ds,ns,σ1,h1,h2⟩:=TT h
    refine⟨_,_,σ1,?_,h2⟩
    have:=acs (sz:=sz) hl
    have hh:σ.er.h=cY σ.h:=rfl
    simp only[List.map_cons,St.g0,hh,this,h1,bW.er]
   ·cases h
  ·rename_i hv
   split at h
   ·rename_i ag cs hc
    obtain⟨l,o,σ1,h1,h2⟩:=F3 h
    obtain⟨ds,ns,σ2,h3,h4⟩:=TT h2
    refine⟨_,_,σ2,?_,h4⟩
    simp only[List.map_cons,St.g0,abJ hv,SV.ma hc,h1,h3,bW.er]
    cases ag<;>rfl
   ·cases h
def Vs (σ:af) (ns:List Nat) (out:List TD) (k:af->Option ρ):Option ρ:=
 match ns,out with
 |[],[]=>k σ
 |[n],out=>match σ.h n with
  |some (.box cs)=>cP cs.length out.length (k (σ.dB n (.box (out.map fun x=>.v x.1 x.2))))
  |_=>none
 |_,_=>none
theorem Ls (out:List TD):(out.map fun x=>SC.v x.1 x.2).map SC.er=(cF out).map .c:=by simp[cF,SC.er]
theorem ape {σ:af} {ns:List Nat} {out:List TD} {k:af->Option ρ} {r:ρ} (h:Vs σ ns out k=some r):∃σ1,σ.er.rf ns (cF out)=some σ1.er/\k σ1=some r:=by
 unfold Vs at h
 split at h
 ·exact⟨σ,rfl,h⟩
 ·rename_i n
  split at h
  ·rename_i cs hn
   have he:=(bi h).1;replace h:=(bi h).2
   refine⟨_,?_,h⟩
   have bk:σ.er.h n=some (.box (cs.map SC.er)):=by simp[af.er,cY,hn,SB.er]
   simp only[St.rf,bk,List.length_map]
   rw[if_pos (by rw[he,cF,List.length_map]),af.pt,SB.er,Ls]
  ·cases h
 ·cases h
def bW.p9:List bW->Option (List TD)
 |[(.ptr,cs)]=>some cs
 |_=>none
theorem aoI {rs:List bW} {cs:List TD} (h:bW.p9 rs=some cs):rs=[(.ptr,cs)]:=by
 unfold bW.p9 at h
 split at h
 ·injection h with h;rw[h]
 ·cases h
def TU (σ:af) (d:Option Nat) (rs:List bW) (k:af->Option ρ):Option ρ:=
 match bW.p9 rs with
 |some cs=>match d with
  |some q=>match σ.ins q (.box (cs.map fun x=>.v x.1 x.2)) with
   |some σ1=>k (σ1.put d (.one (.ptr q 0 0 0)))
   |none=>none
  |none=>none
 |none=>match zH rs with
  |some ls=>k (σ.put d (CU ls))
  |none=>none
theorem aov {σ:af} {d:Option Nat} {rs:List bW} {k:af->Option ρ} {r:ρ} (h:TU σ d rs k=some r):∃σ1,qv σ.er d (rs.map bW.er)=some σ1.er/\k σ1=some r:=by
 unfold TU at h
 split at h
 ·rename_i cs hp
  have:=aoI hp
  subst this
  split at h
  ·rename_i q
   split at h
   ·rename_i σ1 hi
    refine⟨_,?_,h⟩
    have e:=af.s6 hi
    rw[SB.er,Ls] at e
    simp only[List.map_cons,List.map_nil,bW.er,qv,e,af.dw]
    rfl
   ·cases h
  ·cases h
 ·split at h
  ·rename_i ls hs
   refine⟨_,?_,h⟩
   have e:=KS hs
   have hb:qv σ.er d (rs.map bW.er)=match gH (rs.map bW.er) with
     |some ls=>some (σ.er.put d (lH ls))
     |none=>none:=by
    unfold qv
    split
    ·rename_i cs he
     rw[he] at e
     simp[gH] at e
    ·rfl
   rw[hb,e,af.dw,FV]
  ·cases h
def UZ (T:List aw) (d:Option Nat) (f:FuncId) (as:List SV) (σ:af) (k:af->Option ρ):Option ρ:=
 match aw.find T f with
 |some fn=>match fn.mu.fN with
  |2=>FC σ as fun ds ns σ1=>match oP fn.args ds with
   |some x=>(fn.F x).aa fun y=>Vs σ1 ns (((kY fn.aD y).drop (fn.aD.length - pV fn.args)).flatMap (·.2)) fun σ2=>TU σ2 d ((kY fn.aD y).take (fn.aD.length - pV fn.args)) k
   |none=>none
  |_=>none
 |none=>none
theorem aoD {T:List aw} {d:Option Nat} {f:FuncId} {as:List SV} {σ:af} {k:af->Option ρ} {r:ρ} (h:UZ T d f as σ k=some r):
  ∃σ1:af,qC (cQ T) d f (as.map SV.er) σ.er=some σ1.er/\k σ1=some r:=by
 unfold UZ at h
 split at h
 ·rename_i fn hf
  split at h
  ·rename_i wz
   obtain⟨ds,ns,σ1,h1,h2⟩:=TT h
   split at h2
   ·rename_i x hx
    rw[eT] at h2
    obtain⟨y,hF,h2⟩:=h2
    obtain⟨σ2,h3,h4⟩:=ape h2
    obtain⟨gW,h5,h6⟩:=aov h4
    refine⟨gW,?_,h6⟩
    have hM:fn.MV (dd fn.args x)=some (((kY fn.aD y).take (fn.aD.length - pV fn.args)).map bW.er,cF (((kY fn.aD y).drop (fn.aD.length - pV fn.args)).flatMap (·.2))):=by
     unfold aw.MV
     rw[aw.xP,hF]
     simp only[Option.map_some]
     rw[<-vY,FT]
    simp only[qC,h1,aw.YG hf wz,tB hx,hM,h3,h5]
   ·cases h2
  ·cases h
 ·cases h
def aw.ui (k:Nat):List aw->FuncId->Option aw
 |[],_=>none
 |fn::l,f=>match Nat.beq f fn.id&&Nat.beq fn.mu.fN k with
  |true=>some fn
  |false=>aw.ui k l f
theorem aw.YD:∀{T:List aw} {f:FuncId} {fn:aw},aw.ui 2 T f=some fn->aO.kw (cQ T).vs f=some fn.MV
 |[],f,fn,h=>by simp[aw.ui] at h
 |g::l,f,fn,h=>by
  simp only[aw.ui] at h
  split at h
  ·rename_i e
   injection h with h
   subst h
   rw[Bool.and_eq_true] at e
   have hm:=Nat.eq_of_beq_eq_true e.2
   simp only[cQ,List.filterMap_cons,hm,aO.kw]
   rw[if_pos (Nat.eq_of_beq_eq_true e.1)]
  ·rename_i e
   have ih:aO.kw (cQ l).vs f=some fn.MV:=aw.YD h
   simp only[cQ,List.filterMap_cons] at ih⊢
   by_cases hg:g.mu.fN=2
   ·simp only[hg,aO.kw]
    rw[if_neg (fun he=>by rw[he,hg,Nat.beq_refl] at e;cases e)]
    exact ih
   ·split
    ·exact ih
    ·rename_i z hz
     split at hz
     ·rename_i h0;exact absurd h0 hg
     ·cases hz
theorem aw.YE:∀{T:List aw} {f:FuncId} {fn:aw},aw.ui 3 T f=some fn->aO.rU (cQ T).ws f=some (fn.mu.tl,fn.MW)
 |[],f,fn,h=>by simp[aw.ui] at h
 |g::l,f,fn,h=>by
  simp only[aw.ui] at h
  split at h
  ·rename_i e
   injection h with h
   subst h
   rw[Bool.and_eq_true] at e
   have hm:=Nat.eq_of_beq_eq_true e.2
   simp only[cQ,List.filterMap_cons,hm,aO.rU]
   rw[if_pos (Nat.eq_of_beq_eq_true e.1)]
  ·rename_i e
   have ih:aO.rU (cQ l).ws f=some (fn.mu.tl,fn.MW):=aw.YE h
   simp only[cQ,List.filterMap_cons] at ih⊢
   by_cases hg:g.mu.fN=3
   ·simp only[hg,aO.rU]
    rw[if_neg (fun he=>by rw[he,hg,Nat.beq_refl] at e;cases e)]
    exact ih
   ·split
    ·exact ih
    ·rename_i z hz
     split at hz
     ·rename_i h0;exact absurd h0 hg
     ·cases hz
def FU:List SV->Option (List bW)
 |[]=>some []
 |v::vs=>match v.cells? with
  |some (ag,cs)=>match xk cs with
   |some l=>match FU vs with
    |some ds=>some ((J0 ag,l)::ds)
    |none=>none
   |none=>none
  |none=>none
theorem ac8:∀{vs:List SV} {ds:List bW},FU vs=some ds->zz (vs.map SV.er)=some (ds.map bW.er)
 |[],ds,h=>by simp only[FU] at h;injection h with h;subst h;rfl
 |v::vs,ds,h=>by
  simp only[FU] at h
  split at h
  ·rename_i ag cs hc
   split at h
   ·rename_i l hl
    split at h
    ·rename_i ue hd
     injection h with h
     subst h
     simp only[List.map_cons,zz,SV.ma hc,FF hl,ac8 hd,bW.er]
     cases ag<;>rfl
    ·cases h
   ·cases h
  ·cases h
def U2 (T:List aw) (d:Option Nat) (f:FuncId) (as:List SV) (σ:af) (k:af->Option ρ):Option ρ:=
 match aw.ui 2 T f with
 |some fn=>match FU as with
  |some ds=>match oP fn.args ds with
   |some x=>(fn.F x).aa fun y=>match((kY fn.aD y).drop (fn.aD.length - pV fn.args)).flatMap (·.2) with
    |[]=>match zH ((kY fn.aD y).take (fn.aD.length - pV fn.args)) with
     |some ls=>k (σ.put d (CU ls))
     |none=>none
    |_=>none
   |none=>none
  |none=>none
 |none=>none
theorem aoG {T:List aw} {d:Option Nat} {f:FuncId} {as:List SV} {σ:af} {k:af->Option ρ} {r:ρ} (h:U2 T d f as σ k=some r):
  ∃v:SV,ye (cQ T) f (as.map SV.er)=some v.er/\k (σ.put d v)=some r:=by
 unfold U2 at h
 split at h
 ·rename_i fn hf
  split at h
  ·rename_i ds hd
   split at h
   ·rename_i x hx
    rw[eT] at h
    obtain⟨y,hF,h⟩:=h
    split at h
    ·rename_i ho
     split at h
     ·rename_i ls hs
      refine⟨_,?_,h⟩
      have hM:fn.MV (dd fn.args x)=some (((kY fn.aD y).take (fn.aD.length - pV fn.args)).map bW.er,[]):=by
       unfold aw.MV
       rw[aw.xP,hF]
       simp only[Option.map_some]
       rw[<-vY,FT,ho]
       rfl
      simp only[ye,ac8 hd,aw.YD hf,tB hx,hM,KS hs,FV]
     ·cases h
    ·cases h
   ·cases h
  ·cases h
 ·cases h
def U3 (T:List aw) (d:Option Nat) (f:FuncId) (as:List SV) (σ:af) (k:af->Option ρ):Option ρ:=
 match aw.ui 3 T f with
 |some fn=>match fn.mu.fN with
  |3=>match CK as with
   |some dz=>match CO fn.mu.tl dz with
    |[n]=>FO σ.h (KX σ.h [n]) fn.mu.tl dz fun ds its=>match its with
     |[(.row n',_)]=>cP n' n (match σ.h n with
      |some (.row _ _ ts xs)=>match oP fn.args ds with
       |some x=>(fn.F x).aa fun y=>match kY fn.aD y with
        |[(.one,[⟨.int _,a⟩]),(.one,[⟨.int _,b⟩])]=>(ir a b (J xs)).aa fun p=>k (σ.put d (.one (.sl n ts.length p.1 p.2)))
        |_=>none
       |none=>none
      |_=>none)
     |_=>none
    |_=>none
   |none=>none
  |_=>none
 |none=>none
theorem aoH {T:List aw} {d:Option Nat} {f:FuncId} {as:List SV} {σ:af} {k:af->Option ρ} {r:ρ} (h:U3 T d f as σ k=some r):
  ∃v:SV,pq (cQ T) f (as.map SV.er) σ.er.h=some v.er/\k (σ.put d v)=some r:=by
 unfold U3 at h
 split at h
 ·rename_i fn hf
  split at h
  ·rename_i wz
   split at h
   ·rename_i dz hc
    split at h
    ·rename_i n hn
     obtain⟨ds,its,h1,h2⟩:=Vn h
     split at h2
     ·rename_i n' md
      have he:=(bi h2).1;replace h2:=(bi h2).2
      subst he
      split at h2
      ·rename_i gr mo ts xs eW
       split at h2
       ·rename_i x hx
        rw[eT] at h2
        obtain⟨y,hF,h2⟩:=h2
        split at h2
        ·rename_i ka a kb b hy
         rw[eT] at h2
         obtain⟨p,hs,h2⟩:=h2
         refine⟨_,?_,h2⟩
         unfold ir at hs
         split at hs
         ·rename_i cM
          injection hs with hs
          subst hs
          have hM:fn.MW (dd fn.args x)=some (Int.toNat a,Int.toNat (@HSub.hSub Int Int Int instHSub b a)):=by
           unfold aw.MW
           rw[aw.xP,hF]
           simp only[Option.map_some,Option.bind_some]
           rw[<-vY,hy]
           rfl
          have hh:σ.er.h=cY σ.h:=rfl
          have bk:σ.er.h n'=some (.row gr mo ts.length (List.map (Ty.aI ts) xs)):=by simp[af.er,cY,eW,SB.er]
          rw[acF] at h1
          simp only[pq,aw.YE hf,Vg hc,Vl,hn,hh,h1,tB hx,hM]
          rw[hh] at bk
          simp only[bk,if_true]
          rfl
         ·cases hs
        ·cases h2
       ·cases h2
      ·cases h2
     ·cases h2
    ·cases h
   ·cases h
  ·cases h
 ·cases h
def U7 (σ:af) (p:SC) (k:af->Option ρ):Option ρ:=
 match p with
 |.ptr n _ _ _=>match σ.h n with
  |some (.box cs)=>zP σ cs fun l _ σ1=>k (σ1.dB n (.box (l.map fun x=>.v x.1 x.2)))
  |_=>none
 |_=>none
theorem aoN {σ:af} {p:SC} {k:af->Option ρ} {r:ρ} (h:U7 σ p k=some r):∃σ1,σ.er.qI p.er=some σ1.er/\k σ1=some r:=by
 unfold U7 at h
 split at h
 ·rename_i n kk sz off
  split at h
  ·rename_i cs hn
   obtain⟨l,o,σ1,h1,h2⟩:=F3 h
   refine⟨_,?_,h2⟩
   have bk:σ.er.h n=some (.box (cs.map SC.er)):=by simp[af.er,cY,hn,SB.er]
   simp only[SC.er,St.qI,bk,h1]
   rw[af.pt,SB.er,Ls]
  ·cases h
 ·cases h
inductive cI where
 |mv (x:cE)
 |pick (c x y:cE)
 |alloc (zs:List SC)
 |box (sz:Nat) (x:cE)
 |build (zs:List SC) (parts:List (Nat×Nat×cE))
 |fC (ts:List Ty) (parts:List cE)
 |load (ag:Bool) (sz:Nat) (x:cE)
 |store (sz:Nat) (x v:cE)
 |gR (x:cE)
 |bin (op:BinOp) (x y:cE)
 |pj (op:BinOp) (x y:cE)
 |un (op:UnOp) (x:cE)
 |conv (k:IntKind) (x:cE)
 |kc (m:Mode) (ts:List Ty) (by_:Nat) (z:Ty.DL ts) (l c:cE)
 |slice (sz:Nat) (x:cE) (lo hi:Option cE)
 |tail (sz:Nat) (x lo:cE)
 |nh (ag:Bool) (sz:Nat) (x:cE)
 |ar (off:Nat) (x:cE)
 |cb (sz:Nat) (x i:cE)
 |ext (i:Nat) (x:cE)
 |pz (ag:Bool) (off sz:Nat) (x:cE)
 |oW (f:FuncId) (bK:Bool) (x:cE)
 |len (x:cE)
 |append (fl:Bool) (ts:List Ty) (by_:Nat) (x y:cE)
 |mm (mx:Bool) (x y:cE)
 |call (m:Mode) (f:FuncId) (xs:List cE)
 |mP (f:FuncId) (xs:List cE)
 |copy (x y:cE)
 |kV (t:Ty) (z:t.D) (x:cE)
 |pU (f:FuncId) (xs:List cE)
 |mQ (m:Mode) (x:cE) (xs:List cE)
 |gb (m:Mode) (f:FuncId) (xs:List cE)
 |dZ (f:FuncId) (xs:List cE)
 |mR (f:FuncId) (xs:List cE)
 |lZ (f:FuncId) (xs:List cE)
def cI.er:cI->aH
 |.mv x=>.mv x.er
 |.pick c x y=>.pick c.er x.er y.er
 |.alloc zs=>.alloc (zs.map SC.er)
 |.box sz x=>.box sz x.er
 |.build zs ps=>.build (zs.map SC.er) (ps.map fun p=>(p.1,p.2.1,p.2.2.er))
 |.fC ts ps=>.fC ts.length (ps.map cE.er)
 |.load ag sz x=>.load ag sz x.er
 |.nh ag sz x=>.nh ag sz x.er
 |.store sz x v=>.store sz x.er v.er
 |.gR x=>.gR x.er
 |.bin op x y=>.bin op x.er y.er
 |.pj op x y=>.pj op x.er y.er
 |.un op x=>.un op x.er
 |.conv k x=>.conv k x.er
 |.kc m ts by_ z l c=>.kc m ts.length by_ (Ty.aI ts z) l.er c.er
 |.slice sz x lo hi=>.slice sz x.er (lo.map cE.er) (hi.map cE.er)
 |.tail sz x lo=>.tail sz x.er lo.er
 |.ar off x=>.ar off x.er
 |.cb sz x i=>.cb sz x.er i.er
 |.ext i x=>.ext i x.er
 |.pz ag off sz x=>.pz ag off sz x.er
 |.oW f bK x=>.oW f bK x.er
 |.len x=>.len x.er
 |.append fl ts by_ x y=>.append fl ts.length by_ x.er y.er
 |.mm b x y=>.mm b x.er y.er
 |.call m f xs=>.call m f (xs.map cE.er)
 |.mP f xs=>.mP f (xs.map cE.er)
 |.copy x y=>.copy 1 x.er y.er
 |.kV t z x=>.kV (t.er z) x.er
 |.pU f xs=>.pU f (xs.map cE.er)
 |.mQ m x xs=>.mQ m x.er (xs.map cE.er)
 |.gb m f xs=>.gb m f (xs.map cE.er)
 |.dZ f xs=>.dZ f (xs.map cE.er)
 |.mR f xs=>.mR f (xs.map cE.er)
 |.lZ f xs=>.lZ f (xs.map cE.er)
theorem uh (σ:af) (xs:List cE):(xs.map cE.er).map σ.er.ev=(xs.map σ.ev).map SV.er:=by
 simp[af.dv]
def FZ (ev:cE->SV):List SC->List (Nat×Nat×cE)->Option (List SC)
 |zs,[]=>some zs
 |zs,(off,sz,x)::ps=>match(ev x).cells? with
  |some (_,cs)=>cP cs.length sz (fb (Nat.ble (off+sz) zs.length) (FZ ev (cu zs off cs) ps))
  |none=>none
theorem adk {σ:af}:∀{ps:List (Nat×Nat×cE)} {zs cs:List SC},FZ σ.ev zs ps=some cs->
  qf σ.er.ev (zs.map SC.er) (ps.map fun p=>(p.1,p.2.1,p.2.2.er))=some (cs.map SC.er)
 |[],zs,cs,h=>by simp only[FZ] at h;injection h with h;subst h;rfl
 |(off,sz,x)::ps,zs,cs,h=>by
  simp only[FZ] at h
  split at h
  ·rename_i b XL hc
   have bu:=(bi h).1;replace h:=(bi h).2;subst bu
   have hb:=(cv h).1;replace h:=(cv h).2
   have ih:=adk h
   rw[CR] at ih
   have jH:=Nat.le_of_ble_eq_true hb
   simp only[List.map_cons,qf,af.dv,SV.ma hc,List.length_map,jH,and_self,if_true,ih]
  ·cases h
def KP (l:List TD):Bool:=l.all fun x=>x.1.eR
theorem aow (l:List TD):fA (cF l)=KP l:=by
 simp[fA,cF,KP,List.all_map,Function.comp_def,Ty.xg]
def VF (σ:af) (n:Nat) (gr:Bool) (m:Mode) (ts:List Ty) (xs:List (Ty.DL ts)) (kk off:Nat) (e:Ty.DL ts) (vs:List SC) (k:af->Option ρ):Option ρ:=
 match sub (Ty.ie ts e) off vs.length with
 |none=>none
 |some fu=>zP σ vs fun cs o σ1=>match q9 ts (cu (Ty.ie ts e) off cs) with
  |none=>none
  |some e'=>match m with
   |.live=>fb (KP cs&&KP fu&&(σ1.h n).isSome) (k (σ1.dB n (.row gr .live ts (bF xs kk e'))))
   |.ab=>fb (σ1.h n).isSome (k (σ1.dB n (.row gr (match o with|true=>.ab|false=>.aF) ts (bF xs kk e'))))
   |.aF=>fb (σ1.h n).isSome (k (σ1.dB n (.row gr .aF ts (bF xs kk e'))))
theorem Yd (h:Nat->Option SB) (n:Nat):(cY h n).isSome=(h n).isSome:=by
 unfold cY;cases h n<;>rfl
theorem apm {σ:af} {n:Nat} {gr:Bool} {m:Mode} {ts:List Ty} {xs:List (Ty.DL ts)} {kk off:Nat} {e:Ty.DL ts} {vs:List SC} {k:af->Option ρ} {r:ρ}
  (h:VF σ n gr m ts xs kk off e vs k=some r):
  ∃σ1:af,nw σ.er n gr m ts.length (List.map (Ty.aI ts) xs) kk off (Ty.aI ts e) (vs.map SC.er)=some σ1.er/\k σ1=some r:=by
 unfold VF at h
 split at h
 ·cases h
 ·rename_i fu ho
  obtain⟨cs,o,σ1,h1,h2⟩:=F3 h
  have hold:sub (Ty.aI ts e) off (vs.map SC.er).length=some (cF fu):=by
   rw[<-Ty.qy]
   simp only[cF]
   rw[tL,List.length_map,ho]
   rfl
  split at h2
  ·cases h2
  ·rename_i e' he
   have yO:cu (Ty.aI ts e) off (cF cs)=Ty.aI ts e':=by
    rw[wU he,<-Ty.qy]
    simp only[cF]
    rw[<-CR]
   have BF:(List.map (Ty.aI ts) xs).set kk (Ty.aI ts e')=List.map (Ty.aI ts) (bF xs kk e'):=by
    show _=List.map (Ty.aI ts) (xs.set kk e')
    rw[List.map_set]
   have BG:σ1.er.h n=(σ1.h n).map SB.er:=rfl
   split at h2
   ·have hb:=(cv h2).1;replace h2:=(cv h2).2
    simp only[Bool.and_eq_true] at hb
    refine⟨_,?_,h2⟩
    simp only[nw,hold,h1,if_true,aow,hb.1.1,hb.1.2,BG,Option.isSome_map,hb.2,and_self,yO,BF,af.pt,SB.er]
   ·have hb:=(cv h2).1;replace h2:=(cv h2).2
    refine⟨_,?_,h2⟩
    cases o<;>simp only[nw,hold,h1,BG,Option.isSome_map,hb,yO,BF,af.pt,SB.er,reduceCtorEq,if_false,if_true,Bool.false_eq_true,cond_true,cond_false,ite_self]
   ·have hb:=(cv h2).1;replace h2:=(cv h2).2
    refine⟨_,?_,h2⟩
    cases o<;>simp only[nw,hold,h1,BG,Option.isSome_map,hb,yO,BF,af.pt,SB.er,reduceCtorEq,if_false,if_true,Bool.false_eq_true,cond_true,cond_false,ite_self]
def vV (us ts:List Ty) (xs:List (Ty.DL us)):Option (List (Ty.DL ts)):=if h:Ty.rM us ts=true then some (Ty.sR h▸xs) else none
theorem MU {us ts:List Ty} {xs:List (Ty.DL us)} {ys:List (Ty.DL ts)} (h:vV us ts xs=some ys):us.length=ts.length/\List.map (Ty.aI us) xs=List.map (Ty.aI ts) ys/\xs.length=ys.length:=by
 unfold vV at h
 split at h
 ·rename_i he
  have:=Ty.sR he
  subst this
  injection h with h
  rw[<-h]
  exact⟨rfl,rfl,rfl⟩
 ·cases h
def TR (σ:af) (ts:List Ty) (v:SV) (k:List (Ty.DL ts)->Mode->af->Option ρ):Option ρ:=
 match v with
 |.one (.nil _)=>k [] .ab σ
 |.one (.sl a s lo len)=>match σ.h a with
  |some (.row true m us xs)=>cP s ts.length (cP lo 0 (match vV us ts xs with
   |some ys=>(ai lo len (J ys)).aa fun _=>k ys m (σ.del a)
   |none=>none))
  |_=>none
 |_=>none
theorem OD {lo len l:Nat} {u:Unit} (h:ai lo len l=some u):lo=0/\len=l:=by
 unfold ai at h
 split at h
 ·rename_i hc;exact hc
 ·cases h
theorem aot {σ:af} {ts:List Ty} {v:SV} {k:List (Ty.DL ts)->Mode->af->Option ρ} {r:ρ} (h:TR σ ts v k=some r):
  ∃(xs:List (Ty.DL ts)) (m:Mode) (σ1:af),qu σ.er ts.length v.er=some (List.map (Ty.aI ts) xs,m,σ1.er)/\k xs m σ1=some r:=by
 unfold TR at h
 split at h
 ·exact⟨[],.ab,σ,rfl,h⟩
 ·rename_i a s lo len
  split at h
  ·rename_i m us xs hn
   have bu:=(bi h).1;replace h:=(bi h).2;subst bu
   have bu:=(bi h).1;replace h:=(bi h).2;subst bu
   split at h
   ·rename_i ys hc
    obtain⟨c1,c2,c3⟩:=MU hc
    rw[eT] at h
    obtain⟨_,hf,h⟩:=h
    obtain⟨_,hlen⟩:=OD hf
    replace hlen:len=ys.length:=hlen
    refine⟨ys,m,σ.del a,?_,h⟩
    have bk:σ.er.h a=some (.row true m ts.length (List.map (Ty.aI ts) ys)):=by simp[af.er,cY,hn,SB.er,c1,c2]
    subst hlen
    simp only[SV.er,SC.er,qu,bk,List.length_map,and_self,if_true,af.IW]
   ·cases h
  ·cases h
 ·cases h
theorem acu (ts:List Ty) (xs:List (Ty.DL ts)) (h:Ty.fA ts=true):ga (List.map (Ty.aI ts) xs)=true:=by
 simp only[ga,List.all_eq_true,List.mem_map]
 rintro _ ⟨e,_,rfl⟩
 rw[Ty.KQ]
 exact h
def TS (fl:Bool) (σ:af) (ts:List Ty) (m:Mode) (v:SV) (k:List (Ty.DL ts)->Mode->af->Option ρ):Option ρ:=
 match v with
 |.one (.nil _)=>k [] m σ
 |.one (.v (.list us) ys)=>match vV us ts ys with
  |some zs=>match fl with
   |true=>fb (Ty.fA ts) (k zs m σ)
   |false=>match m with
    |.live=>none
    |_=>k zs .aF σ
  |none=>none
 |.one (.sl b s lo len)=>match σ.h b with
  |some (.row _ m' us ys)=>cP s ts.length (match vV us ts ys with
   |some zs=>match fl with
    |true=>fb (Ty.fA ts) ((df zs lo len).aa fun ws=>k ws m σ)
    |false=>(ai lo len (J zs)).aa fun _=>match m,m' with
     |.ab,.ab=>k zs .ab (σ.del b)
     |.live,.live=>k zs .live (σ.del b)
     |.aF,.aF=>k zs .aF (σ.del b)
     |.ab,.aF=>k zs .aF (σ.del b)
     |.aF,.ab=>k zs .aF (σ.del b)
     |_,_=>none
   |none=>none)
  |_=>none
 |_=>none
theorem aou {fl:Bool} {σ:af} {ts:List Ty} {m:Mode} {v:SV} {k:List (Ty.DL ts)->Mode->af->Option ρ} {r:ρ} (h:TS fl σ ts m v k=some r):
  ∃(ys:List (Ty.DL ts)) (m2:Mode) (σ1:af),lV fl σ.er ts.length m v.er=some (List.map (Ty.aI ts) ys,m2,σ1.er)/\k ys m2 σ1=some r:=by
 unfold TS at h
 split at h
 ·exact⟨[],m,σ,rfl,h⟩
 ·rename_i us ys
  split at h
  ·rename_i zs hc
   obtain⟨e1,e2,e3⟩:=MU hc
   have sZ:Ty.er (.list us) ys=.list ts.length (List.map (Ty.aI ts) zs):=by rw[<-e1,<-e2];rfl
   split at h
   ·have hs:=(cv h).1;replace h:=(cv h).2
    refine⟨zs,m,σ,?_,h⟩
    simp only[SV.er,SC.er,sZ,lV,if_true,Bool.true_and,acu ts zs hs]
   ·split at h
    ·cases h
    ·rename_i hm
     refine⟨zs,.aF,σ,?_,h⟩
     have bM:m≠ .live:=fun e=>hm e
     simp only[SV.er,SC.er,sZ,lV,if_true,Bool.false_and,Bool.false_eq_true,if_false,if_neg bM]
  ·cases h
 ·rename_i b s lo len
  split at h
  ·rename_i gr m' us ys hn
   have bu:=(bi h).1;replace h:=(bi h).2;subst bu
   split at h
   ·rename_i zs hc
    obtain⟨e1,e2,e3⟩:=MU hc
    have bk:σ.er.h b=some (.row gr m' ts.length (List.map (Ty.aI ts) zs)):=by simp[af.er,cY,hn,SB.er,e1,e2]
    split at h
    ·have hs:=(cv h).1;replace h:=(cv h).2
     rw[eT] at h
     obtain⟨ws,hw,h⟩:=h
     obtain⟨w1,w2⟩:=adX hw
     refine⟨ws,m,σ,?_,h⟩
     simp only[SV.er,SC.er,lV,bk,List.length_map,w1,w2,and_self,if_true,Bool.true_and,acu ts ws hs]
    ·rw[eT] at h
     obtain⟨_,hf,h⟩:=h
     obtain⟨rfl,hlen⟩:=OD hf
     replace hlen:len=zs.length:=hlen
     subst hlen
     have wE:List.take zs.length (List.map (Ty.aI ts) zs)=List.map (Ty.aI ts) zs:=by
      rw[List.take_of_length_le];simp
     cases m<;>cases m'<;>first
      |(cases h;done)
      |exact⟨zs,_,σ.del b,by simp[SV.er,SC.er,lV,bk,af.IW],h⟩
   ·cases h
  ·cases h
 ·cases h
def SC.YR:SC->Bool
 |.fn _ _=>false
 |.bn=>false
 |_=>true
def zN:List SV->Option (List SC)
 |[]=>some []
 |.one c::vs=>match c.YR,zN vs with
  |true,some cs=>some (c::cs)
  |_,_=>none
 |_::_=>none
theorem acS:∀{vs:List SV} {cs:List SC},zN vs=some cs->
  (vs.map SV.er).mapM (fun v=>match v with|.one c=>if c.lv=true then none else some c|_=>none)=some (cs.map SC.er)/\(cs.map SC.er).all ah.Ff=true
 |[],cs,h=>by simp only[zN] at h;injection h with h;subst h;exact⟨rfl,rfl⟩
 |.one c::vs,cs,h=>by
  simp only[zN] at h
  split at h
  ·rename_i cs' e1 e2
   injection h with h
   subst h
   obtain⟨i1,i2⟩:=acS e2
   have hc:c.er.lv=false/\c.er.Ff=true:=by cases c<;>first|exact⟨rfl,rfl⟩|(simp[SC.YR] at e1)
   refine⟨?_,by simp[hc.2];simpa using i2⟩
   simp only[List.map_cons,List.mapM_cons,SV.er,hc.1]
   rw[i1]
   rfl
  ·cases h
 |.agg _::_,cs,h=>by simp[zN] at h
 |.bq _::_,cs,h=>by simp[zN] at h
end
end Go.Am
