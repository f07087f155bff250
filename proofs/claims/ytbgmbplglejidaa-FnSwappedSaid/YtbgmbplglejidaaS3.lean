/- S3: typed functions, and one operation of the typed evaluator. No condition. -/
import Derived.Test.YtbgmbplglejidaaS2
set_option linter.unusedVariables false
set_option linter.unusedSimpArgs false
namespace Go.Am
def aV:List (List Ty)->Type
 |[]=>Unit
 |ts::l=>match l with
  |[]=>Ty.DL ts
  |us::l'=>Ty.DL ts×aV (us::l')
abbrev ao:=List (K×List Ty)
abbrev ao.aU (s:ao):List (List Ty):=s.map (·.2)
def dg:(as:ao)->aV as.aU->List Dv
 |[],_=>[]
 |[a],x=>[(a.1,Ty.aI a.2 x)]
 |a::b::as,x=>(a.1,Ty.aI a.2 x.1)::dg (b::as) x.2
def lF:(as:ao)->aV as.aU->List bX
 |[],_=>[]
 |[a],x=>[(a.1,Ty.iq a.2 x)]
 |a::b::as,x=>(a.1,Ty.iq a.2 x.1)::lF (b::as) x.2
theorem wC:∀(as:ao) (x:aV as.aU),(lF as x).map bX.er=dg as x
 |[],_=>rfl
 |[a],x=>congrArg (fun l=>[((a.1,l):Dv)]) (Ty.qG a.2 x)
 |a::b::as,x=>by
  have:=wC (b::as) x.2
  simp only[lF,dg,List.map_cons,bX.er,Ty.qG,this]
def K.beq:K->K->Bool
 |.one,.one=>true
 |.agg,.agg=>true
 |.ptr,.ptr=>true
 |_,_=>false
theorem K.beq_eq {a b:K} (h:K.beq a b=true):a=b:=by cases a<;>cases b<;>first|rfl|cases h
def Jj (ts:List Ty):(l:List (List Ty))->Ty.DL ts->aV l->aV (ts::l)
 |[],x,_=>x
 |_::_,x,y=>(x,y)
theorem Zi (a:K×List Ty):∀(as:ao) (x:Ty.DL a.2) (y:aV (ao.aU as)),dg (a::as) (Jj a.2 (ao.aU as) x y)=(a.1,Ty.aI a.2 x)::dg as y
 |[],_,_=>rfl
 |_::_,_,_=>rfl
def o8:(as:ao)->List bX->Option (aV as.aU)
 |[],[]=>some ()
 |a::as,d::ds=>fi (K.beq a.1 d.1) (match rf a.2 d.2,o8 as ds with
  |some x,some y=>some (Jj a.2 (ao.aU as) x y)
  |_,_=>none)
 |_,_=>none
theorem tS:∀{as:ao} {ds:List bX} {x:aV as.aU},o8 as ds=some x->ds.map bX.er=dg as x
 |[],[],x,h=>rfl
 |a::as,d::ds,x,h=>by
  simp only[o8] at h
  have h1:=(cB h).1;replace h2:=(cB h).2
  split at h2
  ·rename_i y z e1 e2
   injection h2 with h2
   subst h2
   rw[Zi,List.map_cons,tS e2,bX.er,<-K.beq_eq h1,<-xx e1]
  ·cases h2
 |[],_::_,x,h=>by simp[o8] at h
 |a::as,[],x,h=>by simp[o8] at h
mutual
theorem Ty.Zm:∀(t:Ty) (x y:t.D),t.er x=t.er y->x=y
 |.int k,x,y,h=>by simp only[Ty.er] at h;injection h
 |.bool,x,y,h=>by simp only[Ty.er] at h;injection h
 |.list ts,x,y,h=>by simp only[Ty.er] at h;injection h with _ h;exact Ty.Zl ts x y h
theorem Ty.Zl:∀(ts:List Ty) (xs ys:List (Ty.DL ts)),List.map (Ty.aI ts) xs=List.map (Ty.aI ts) ys->xs=ys
 |ts,[],[],h=>rfl
 |ts,x::xs,y::ys,h=>by
  simp only[List.map_cons,List.cons.injEq] at h
  rw[Ty.Jy ts x y h.1,Ty.Zl ts xs ys h.2]
 |ts,[],_::_,h=>by simp at h
 |ts,_::_,[],h=>by simp at h
theorem Ty.Jy:∀(ts:List Ty) (x y:Ty.DL ts),Ty.aI ts x=Ty.aI ts y->x=y
 |[],x,y,h=>rfl
 |[t],x,y,h=>by simp only[Ty.aI,List.cons.injEq,and_true] at h;exact Ty.Zm t x y h
 |t::u::ts,x,y,h=>by
  simp only[Ty.aI,List.cons.injEq] at h
  exact Prod.ext (Ty.Zm t x.1 y.1 h.1) (Ty.Jy (u::ts) x.2 y.2 h.2)
end
theorem Zj:∀(as:ao) (x y:aV as.aU),dg as x=dg as y->x=y
 |[],x,y,h=>rfl
 |[a],x,y,h=>by simp[dg] at h;exact Ty.Jy a.2 x y h
 |a::b::as,x,y,h=>by
  simp only[dg,List.cons.injEq,Prod.mk.injEq,true_and] at h
  exact Prod.ext (Ty.Jy a.2 x.1 y.1 h.1) (Zj (b::as) x.2 y.2 h.2)
structure az where
 id:FuncId
 args:ao
 mu:aQ
 aF:ao
 F:aV args.aU->Option (aV aF.aU)
open Classical in
noncomputable def az.M (fn:az) (ds:List Dv):Option (List Dv):=
 if h:∃x,dg fn.args x=ds then(fn.F h.choose).map (dg fn.aF) else none
theorem az.yo (fn:az) (x:aV fn.args.aU):fn.M (dg fn.args x)=(fn.F x).map (dg fn.aF):=by
 have h:∃y,dg fn.args y=dg fn.args x:=⟨x,rfl⟩
 unfold az.M
 rw[dif_pos h,Zj _ _ _ h.choose_spec]
theorem az.HB {fn:az} {ds rs:List Dv} (h:fn.M ds=some rs):∃x y,ds=dg fn.args x/\fn.F x=some y/\rs=dg fn.aF y:=by
 unfold az.M at h
 split at h
 ·rename_i e
  rw[Option.map_eq_some_iff] at h
  obtain⟨y,h1,h2⟩:=h
  exact⟨_,y,e.choose_spec.symm,h1,h2.symm⟩
 ·cases h
def aQ.jb:aQ->Nat
 |[]=>0
 |s::l=>(s.filter Option.isSome).length+aQ.jb l
def xT (k:Nat) (rs:List Dv):List Dv×List C:=(rs.take k,(rs.drop k).flatMap (·.2))
noncomputable def az.MM (fn:az) (ds:List Dv):Option (List Dv×List C):=(fn.M ds).map (xT (fn.aF.length - fn.mu.jb))
def aQ.f9:aQ->Nat
 |[]=>0
 |[[some .aG]]=>2
 |[some .aG,some .aG]::_=>3
 |_=>1
def B2:ao->Bool
 |[]=>false
 |(.ptr,_)::_=>true
 |_::as=>B2 as
def qf (as:ao):Nat:=match B2 as with
 |true=>1
 |false=>0
noncomputable def az.MV (fn:az) (ds:List Dv):Option (List Dv×List C):=(fn.M ds).map (xT (fn.aF.length - qf fn.args))
def as5:List Dv->Option (Nat×Nat)
 |[(.one,[.int _ a]),(.one,[.int _ b])]=>some (a.toNat,(b - a).toNat)
 |_=>none
noncomputable def az.MW (fn:az) (ds:List Dv):Option (Nat×Nat):=(fn.M ds).bind as5
noncomputable def cX (T:List az):aT:=
 ⟨T.filterMap fun fn=>match fn.mu.f9 with|0=>some (fn.id,fn.M)|_=>none,T.filterMap fun fn=>match fn.mu.f9 with|1=>some (fn.id,fn.mu,fn.MM)|_=>none,
  T.filterMap fun fn=>match fn.mu.f9 with|2=>some (fn.id,fn.MV)|_=>none,T.filterMap fun fn=>match fn.mu.f9 with|3=>some (fn.id,fn.mu.tl,fn.MW)|_=>none⟩
def az.find:List az->FuncId->Option az
 |[],_=>none
 |fn::l,f=>match Nat.beq f fn.id with
  |true=>some fn
  |false=>az.find l f
theorem az.N4:∀{T:List az} {f:FuncId} {fn:az},az.find T f=some fn->fn.mu.f9=0->aT.find (cX T).pure f=some fn.M
 |[],f,fn,h,_=>by simp[az.find] at h
 |g::l,f,fn,h,hm=>by
  simp only[az.find] at h
  split at h
  ·rename_i e
   injection h with h
   subst h
   simp only[cX,List.filterMap_cons,hm,aT.find]
   rw[if_pos (Nat.eq_of_beq_eq_true e)]
  ·rename_i e
   have ih:aT.find (cX l).pure f=some fn.M:=az.N4 h hm
   simp only[cX,List.filterMap_cons] at ih⊢
   by_cases hg:g.mu.f9=0
   ·simp only[hg,aT.find]
    rw[if_neg (fun he=>by rw[he,Nat.beq_refl] at e;cases e)]
    exact ih
   ·split
    ·exact ih
    ·rename_i z hz
     split at hz
     ·rename_i h0;exact absurd h0 hg
     ·cases hz
theorem az.ZL:∀{T:List az} {f:FuncId} {fn:az},az.find T f=some fn->fn.mu.f9=1->aT.rY (cX T).CY f=some (fn.mu,fn.MM)
 |[],f,fn,h,_=>by simp[az.find] at h
 |g::l,f,fn,h,hm=>by
  simp only[az.find] at h
  split at h
  ·rename_i e
   injection h with h
   subst h
   simp only[cX,List.filterMap_cons,hm,aT.rY]
   rw[if_pos (Nat.eq_of_beq_eq_true e)]
  ·rename_i e
   have ih:aT.rY (cX l).CY f=some (fn.mu,fn.MM):=az.ZL h hm
   simp only[cX,List.filterMap_cons] at ih⊢
   by_cases hg:g.mu.f9=1
   ·simp only[hg,aT.rY]
    rw[if_neg (fun he=>by rw[he,Nat.beq_refl] at e;cases e)]
    exact ih
   ·split
    ·exact ih
    ·rename_i z hz
     split at hz
     ·rename_i h0;exact absurd h0 hg
     ·cases hz
theorem az.ZM:∀{T:List az} {f:FuncId} {fn:az},az.find T f=some fn->fn.mu.f9=2->aT.kQ (cX T).vs f=some fn.MV
 |[],f,fn,h,_=>by simp[az.find] at h
 |g::l,f,fn,h,hm=>by
  simp only[az.find] at h
  split at h
  ·rename_i e
   injection h with h
   subst h
   simp only[cX,List.filterMap_cons,hm,aT.kQ]
   rw[if_pos (Nat.eq_of_beq_eq_true e)]
  ·rename_i e
   have ih:aT.kQ (cX l).vs f=some fn.MV:=az.ZM h hm
   simp only[cX,List.filterMap_cons] at ih⊢
   by_cases hg:g.mu.f9=2
   ·simp only[hg,aT.kQ]
    rw[if_neg (fun he=>by rw[he,Nat.beq_refl] at e;cases e)]
    exact ih
   ·split
    ·exact ih
    ·rename_i z hz
     split at hz
     ·rename_i h0;exact absurd h0 hg
     ·cases hz
def vK (m:Mode) (σ:ah):Nat->List TD->Option (List SC×Nat×ah)
 |nm,[]=>some ([],nm,σ)
 |nm,⟨t,x⟩::cs=>match t,x with
  |.list ts,xs=>match σ.ins nm (.row true m ts xs) with
   |some σ1=>match vK m σ1 (nm+1) cs with
    |some (l,fA,σ2)=>some (.sl nm ts.length 0 (aa (α:=Ty.DL ts) xs)::l,fA,σ2)
    |none=>none
   |none=>none
  |.int k,x=>match vK m σ nm cs with
   |some (l,fA,σ2)=>some (.v (.int k) x::l,fA,σ2)
   |none=>none
  |.bool,x=>match vK m σ nm cs with
   |some (l,fA,σ2)=>some (.v .bool x::l,fA,σ2)
   |none=>none
theorem Lx (m:Mode):∀{cs:List TD} {σ σ1:ah} {nm fA:Nat} {l:List SC},vK m σ nm cs=some (l,fA,σ1)->
  σ.er.imp m nm (cQ cs)=some (l.map SC.er,fA,σ1.er)
 |[],σ,σ1,nm,fA,l,h=>by
  simp only[vK] at h
  injection h with h
  injection h with h1 h2
  injection h2 with h2 h3
  subst h1 h2 h3
  rfl
 |⟨.list ts,xs⟩::cs,σ,σ2,nm,fA,l,h=>by
  simp only[vK] at h
  split at h
  ·rename_i σ1 e1
   split at h
   ·rename_i l' FR g9 e2
    injection h with h
    injection h with h1 h2
    injection h2 with h2 h3
    subst h1 h2 h3
    have i1:σ.er.ins nm (.row true m ts.length (List.map (Ty.aI ts) xs))=some σ1.er:=ah.th e1
    have i2:=Lx m e2
    simp only[cQ] at i2
    simp only[cQ,List.map_cons,Ty.er,St.imp,i1,i2,SC.er]
    exact congrArg (fun q=>some (aj.sl nm ts.length 0 q::List.map SC.er l',FR,g9.er)) (List.length_map (Ty.aI ts))
   ·cases h
  ·cases h
 |⟨.int k,x⟩::cs,σ,σ2,nm,fA,l,h=>by
  simp only[vK] at h
  split at h
  ·rename_i l' FR g9 e2
   injection h with h
   injection h with h1 h2
   injection h2 with h2 h3
   subst h1 h2 h3
   have i2:=Lx m e2
   simp only[cQ] at i2
   simp only[cQ,List.map_cons,Ty.er,St.imp,i2,SC.er]
  ·cases h
 |⟨.bool,x⟩::cs,σ,σ2,nm,fA,l,h=>by
  simp only[vK] at h
  split at h
  ·rename_i l' FR g9 e2
   injection h with h
   injection h with h1 h2
   injection h2 with h2 h3
   subst h1 h2 h3
   have i2:=Lx m e2
   simp only[cQ] at i2
   simp only[cQ,List.map_cons,Ty.er,St.imp,i2,SC.er]
  ·cases h
def K.isAgg:K->Bool
 |.agg=>true
 |_=>false
def K.tJ:K->Bool
 |.ptr=>true
 |_=>false
def Dm (m:Mode) (σ:ah):Nat->List bX->Option (List (Bool×List SC)×ah)
 |_,[]=>some ([],σ)
 |nm,(k,cs)::ds=>match k.tJ with
  |true=>none
  |false=>match vK m σ nm cs with
   |some (l,fA,σ1)=>match Dm m σ1 fA ds with
    |some (ls,σ2)=>some ((k.isAgg,l)::ls,σ2)
    |none=>none
   |none=>none
theorem Wb (m:Mode):∀{ds:List bX} {σ σ1:ah} {nm:Nat} {ls:List (Bool×List SC)},Dm m σ nm ds=some (ls,σ1)->
  σ.er.jX m nm (ds.map bX.er)=some (ls.map (fun x=>(x.1,x.2.map SC.er)),σ1.er)
 |[],σ,σ1,nm,ls,h=>by
  simp only[Dm] at h
  injection h with h
  injection h with h1 h2
  subst h1 h2
  rfl
 |(k,cs)::ds,σ,σ2,nm,ls,h=>by
  simp only[Dm] at h
  split at h
  ·cases h
  ·rename_i hk
   split at h
   ·rename_i l fA σ1 e1
    split at h
    ·rename_i zT g9 e2
     injection h with h
     injection h with h1 h2
     subst h1 h2
     have i1:=Lx m e1
     have i2:=Wb m e2
     have i2':σ1.er.jX m fA (List.map bX.er ds)=some (zT.map (fun x=>(x.1,x.2.map SC.er)),g9.er):=i2
     cases k with
     |ptr=>cases hk
     |one=>simp only[List.map_cons,bX.er,St.jX,i1,i2'];rfl
     |agg=>simp only[List.map_cons,bX.er,St.jX,i1,i2'];rfl
    ·cases h
   ·cases h
def DD:List (Bool×List SC)->SV
 |[(ag,cs)]=>AF ag cs
 |l=>.br l
theorem Gz (l:List (Bool×List SC)):(DD l).er=lT (l.map fun x=>(x.1,x.2.map SC.er)):=by
 match l with
 |[]=>rfl
 |[(ag,cs)]=>exact DI ag cs
 |_::_::_=>rfl
section
variable {ρ:Type}
def Ls (T:List az) (m:Mode) (d:Option Nat) (f:FuncId) (as:List SV) (σ:ah) (k:ah->Option ρ):Option ρ:=
 match az.find T f with
 |some fn=>match fn.mu.f9 with
  |0=>GI σ.h as fun ds=>match o8 fn.args ds with
   |some x=>(fn.F x).ab fun rs=>match Dm m σ (z6 d) (lF fn.aF rs) with
    |some (ls,σ1)=>k (σ1.put d (DD ls))
    |none=>none
   |none=>none
  |_=>none
 |none=>none
theorem ado {T:List az} {m:Mode} {d:Option Nat} {f:FuncId} {as:List SV} {σ:ah} {k:ah->Option ρ} {r:ρ} (h:Ls T m d f as σ k=some r):
  ∃σ1:ah,rT (cX T) m d f (as.map SV.er) σ.er=some σ1.er/\k σ1=some r:=by
 unfold Ls at h
 split at h
 ·rename_i fn hf
  split at h
  ·rename_i wY
   obtain⟨ds,h1,h2⟩:=WV h
   split at h2
   ·rename_i x hx
    rw[eZ] at h2
    obtain⟨rs,hF,h2⟩:=h2
    split at h2
    ·rename_i ls σ1 hs
     refine⟨_,?_,h2⟩
     have e:=Wb m hs
     rw[wC] at e
     have hv:ly σ.er.h (as.map SV.er)=some (ds.map bX.er):=h1
     simp only[rT,hv,az.N4 hf wY,tS hx,az.yo,hF,Option.map_some,e,ah.dv,Gz]
    ·cases h2
   ·cases h2
  ·cases h
 ·cases h
def Aq:List bX->Option (List (Bool×List SC))
 |[]=>some []
 |(k,cs)::ds=>match k.tJ with
  |true=>none
  |false=>match Aq ds with
   |some ls=>some ((k.isAgg,cs.map fun x=>SC.v x.1 x.2)::ls)
   |none=>none
theorem Lr:∀{ds:List bX} {ls:List (Bool×List SC)},Aq ds=some ls->gR (ds.map bX.er)=some (ls.map fun x=>(x.1,x.2.map SC.er))
 |[],ls,h=>by simp only[Aq] at h;injection h with h;subst h;rfl
 |(k,cs)::ds,ls,h=>by
  simp only[Aq] at h
  split at h
  ·cases h
  ·rename_i hk
   split at h
   ·rename_i zT e
    injection h with h
    subst h
    have i2:=Lr e
    have ec:(cQ cs).map aj.c=(cs.map fun x=>SC.v x.1 x.2).map SC.er:=by simp[cQ,SC.er]
    cases k with
    |ptr=>cases hk
    |one=>simp only[List.map_cons,bX.er,gR];rw[show gR (List.map bX.er ds)=_ from i2];simp only;rw[ec];rfl
    |agg=>simp only[List.map_cons,bX.er,gR];rw[show gR (List.map bX.er ds)=_ from i2];simp only;rw[ec];rfl
   ·cases h
def V3 (T:List az) (d:Option Nat) (f:FuncId) (as:List SV) (σ:ah) (k:ah->Option ρ):Option ρ:=
 match az.find T f with
 |some fn=>match fn.mu.f9 with
  |0=>GI σ.h as fun ds=>match o8 fn.args ds with
   |some x=>(fn.F x).ab fun rs=>match Aq (lF fn.aF rs) with
    |some ls=>k (σ.put d (DD ls))
    |none=>none
   |none=>none
  |_=>none
 |none=>none
theorem arF {T:List az} {d:Option Nat} {f:FuncId} {as:List SV} {σ:ah} {k:ah->Option ρ} {r:ρ} (h:V3 T d f as σ k=some r):
  ∃v:SV,uB (cX T) f (as.map SV.er) σ.er.h=some v.er/\k (σ.put d v)=some r:=by
 unfold V3 at h
 split at h
 ·rename_i fn hf
  split at h
  ·rename_i wY
   obtain⟨ds,h1,h2⟩:=WV h
   split at h2
   ·rename_i x hx
    rw[eZ] at h2
    obtain⟨rs,hF,h2⟩:=h2
    split at h2
    ·rename_i ls hs
     refine⟨_,?_,h2⟩
     have e:=Lr hs
     rw[wC] at e
     have hv:ly σ.er.h (as.map SV.er)=some (ds.map bX.er):=h1
     simp only[uB,hv,az.N4 hf wY,tS hx,az.yo,hF,Option.map_some,e,Gz]
    ·cases h2
   ·cases h2
  ·cases h
 ·cases h
def Ty.te:Ty->Bool
 |.list ts=>Ty.fK ts
 |_=>true
def Xb:Mode->List Ty->Bool
 |.ae,ts=>Ty.fK ts
 |.live,ts=>ts.all Ty.te
 |.aG,_=>false
theorem Ao (ts:List Ty) (xs:List (Ty.DL ts)) (h:Ty.fK ts=true):gv (List.map (Ty.aI ts) xs)=true:=by
 simp only[gv,List.all_eq_true,List.mem_map]
 rintro e ⟨x,_,rfl⟩
 rw[Ty.Lp];exact h
theorem Y0 (t:Ty) (x:t.D) (h:Ty.te t=true):C.te (t.er x)=true:=by
 cases t with
 |int k=>rfl
 |bool=>rfl
 |list ts=>exact Ao ts x h
theorem YZ:∀(ts:List Ty) (x:Ty.DL ts),ts.all Ty.te=true->(Ty.aI ts x).all C.te=true
 |[],_,_=>rfl
 |[t],x,h=>by
  simp only[List.all_cons,List.all_nil,Bool.and_true] at h
  simp only[Ty.aI,List.all_cons,List.all_nil,Bool.and_true]
  exact Y0 t x h
 |t::u::ts,x,h=>by
  simp only[List.all_cons (a:=t),Bool.and_eq_true] at h
  simp only[Ty.aI,List.all_cons (a:=Ty.er t x.1),Bool.and_eq_true]
  exact⟨Y0 t x.1 h.1,YZ (u::ts) x.2 h.2⟩
theorem ZQ (m:Mode) (ts:List Ty) (xs:List (Ty.DL ts)) (h:Xb m ts=true):tj m (List.map (Ty.aI ts) xs)=true:=by
 cases m with
 |aG=>cases h
 |ae=>exact Ao ts xs h
 |live=>
  simp only[tj,List.all_eq_true,List.mem_map]
  rintro e ⟨x,_,rfl⟩
  have:=YZ ts x h
  simpa[List.all_eq_true] using this
def Mode.QO:Mode->Bool
 |.live=>true
 |_=>false
def Mode.abg:Mode->Bool
 |.ae=>true
 |_=>false
def Wn (h:Nat->Option SB) (md:Mode) (c:SC) (k:cY->(t:Ty)->t.D->Option ρ):Option ρ:=
 match c with
 |.nil ts=>match ts with
  |[]=>none
  |t::us=>fi md.own (k (.nil (us.length+1)) (.list (t::us)) ([]:List (Ty.DL (t::us))))
 |.sl n sz lo len=>match h n with
  |some (.row _ m ts xs)=>fi (m.own&&((!md.QO||m.QO)&&Xb md ts)) (cW ts.length sz ((ai lo len (aa xs)).ab fun _=>k (.row n) (.list ts) xs))
  |_=>none
 |.bE n kk aE off sz len=>match h n with
  |some (.row _ .live ts xs)=>fi md.abg (cW ts.length aE ((dt xs kk).ab fun e=>match(Ty.iq ts e)[off]? with
   |some ⟨.list us,ys⟩=>fi (Ty.fK us) (k (.nest n kk off) (.list us) ys)
   |_=>none))
  |_=>none
 |_=>none
theorem ar6 {h:Nat->Option SB} {md:Mode} {c:SC} {k:cY->(t:Ty)->t.D->Option ρ} {r:ρ} (hx:Wn h md c k=some r):
  ∃(it:cY) (t:Ty) (x:t.D),sC (dc h) md c.er=some (it,t.er x)/\k it t x=some r:=by
 unfold Wn at hx
 split at hx
 ·split at hx
  ·cases hx
  ·rename_i t us
   have hm:=(cB hx).1;replace hx:=(cB hx).2
   refine⟨_,.list (t::us),[],?_,hx⟩
   have bO:md≠ .aG:=by rintro rfl;cases hm
   simp[SC.er,sC,Ty.er,bO]
 ·rename_i n sz lo len
  split at hx
  ·rename_i gr m ts xs hn
   have hm:=(cB hx).1;replace hx:=(cB hx).2
   have bw:=(bi hx).1;replace hx:=(bi hx).2;subst bw
   rw[eZ] at hx
   obtain⟨_,hf,hx⟩:=hx
   have PE:lo=0/\len=aa xs:=by
    unfold ai at hf
    split at hf
    ·assumption
    ·cases hf
   obtain⟨rfl,rfl⟩:=PE
   simp only[Bool.and_eq_true] at hm
   have bO:m≠ .aG:=by rintro rfl;cases hm.1
   have tv:md=.live->m=.live:=by
    rintro rfl
    have:=hm.2.1
    cases m<;>first|rfl|(simp[Mode.QO] at this)
   refine⟨_,.list ts,xs,?_,hx⟩
   simp only[SC.er,sC,dc,hn,Option.map_some,SB.er,Ty.er]
   rw[if_pos ⟨bO,tv,trivial,trivial,(List.length_map (Ty.aI ts)).symm,ZQ md ts xs hm.2.2⟩]
  ·cases hx
 ·rename_i n kk aE off sz len
  split at hx
  ·rename_i gr ts xs hn
   have hm:=(cB hx).1;replace hx:=(cB hx).2
   have bw:=(bi hx).1;replace hx:=(bi hx).2;subst bw
   rw[eZ] at hx
   obtain⟨e,he,hx⟩:=hx
   replace he:xs[kk]? =some e:=he
   split at hx
   ·rename_i us ys hd
    have hs:=(cB hx).1;replace hx:=(cB hx).2
    refine⟨_,.list us,ys,?_,hx⟩
    have Ka:md=.ae:=by cases md<;>first|rfl|(simp[Mode.abg] at hm)
    have nW:=NS hd
    simp only[SC.er,sC,dc,hn,Option.map_some,SB.er,List.getElem?_map,he,Option.bind_some,nW,Ty.er,Ka,and_self,if_true]
    rw[if_pos (Ao us ys hs)]
   ·cases hx
  ·cases hx
 ·cases hx
def SC.nm:SC->List Nat
 |.sl n _ _ _=>[n]
 |.bE n _ _ _ _ _=>[n]
 |_=>[]
theorem SC.ao9 (c:SC):c.er.dJ.toList=c.nm:=by cases c<;>rfl
def Dt:List (Option Mode)->List SC->List Nat
 |some _::fs,c::cs=>c.nm++Dt fs cs
 |none::fs,_::cs=>Dt fs cs
 |_,_=>[]
theorem Wp:∀(fs:List (Option Mode)) (cs:List SC),nu fs (cs.map SC.er)=Dt fs cs
 |some m::fs,c::cs=>by simp only[List.map_cons,nu,Dt,SC.ao9,Wp fs cs]
 |none::fs,c::cs=>by simp only[List.map_cons,nu,Dt,Wp fs cs]
 |[],cs=>by cases cs<;>rfl
 |some m::fs,[]=>rfl
 |none::fs,[]=>rfl
def Du:aQ->List (Bool×List SC)->List Nat
 |s::sig,a::as=>Dt s a.2++Du sig as
 |_,_=>[]
theorem Wo:∀(sig:aQ) (as:List (Bool×List SC)),kG sig (as.map fun x=>(x.1,x.2.map SC.er))=Du sig as
 |s::sig,a::as=>by simp only[List.map_cons,kG,Du,Wp,Wo sig as]
 |[],as=>by cases as<;>rfl
 |s::sig,[]=>rfl
def Lw (h:Nat->Option SB) (ns:List Nat):Nat->Option SB:=fun n=>match ns.contains n with|true=>none|false=>h n
theorem adv (h:Nat->Option SB) (ns:List Nat):dc (Lw h ns)=dS (dc h) ns:=by
 funext n
 simp only[dc,Lw,dS]
 cases hc:ns.contains n<;>simp[hc]
def vM (h h0:Nat->Option SB):List (Option Mode)->List SC->(List TD->List (cY×Mode)->Option ρ)->Option ρ
 |[],cs,k=>AA h0 cs fun l=>k l []
 |none::fs,c::cs,k=>xX h0 c fun t x=>vM h h0 fs cs fun l its=>k (⟨t,x⟩::l) its
 |some md::fs,c::cs,k=>Wn h md c fun it t x=>vM h h0 fs cs fun l its=>k (⟨t,x⟩::l) ((it,md)::its)
 |_::_,[],_=>none
theorem Wm {h h0:Nat->Option SB}:∀{fs:List (Option Mode)} {cs:List SC} {k:List TD->List (cY×Mode)->Option ρ} {r:ρ},vM h h0 fs cs k=some r->
  ∃l its,j4 (dc h) (dc h0) fs (cs.map SC.er)=some (cQ l,its)/\k l its=some r
 |[],cs,k,r,hx=>by
  simp only[vM] at hx
  obtain⟨l,h1,h2⟩:=GJ hx
  exact⟨l,[],by simp only[j4,h1],h2⟩
 |none::fs,c::cs,k,r,hx=>by
  simp only[vM] at hx
  obtain⟨t,x,h1,h2⟩:=DG hx
  obtain⟨l,its,h3,h4⟩:=Wm h2
  exact⟨⟨t,x⟩::l,its,by simp only[List.map_cons,j4,h1,h3,cQ],h4⟩
 |some md::fs,c::cs,k,r,hx=>by
  simp only[vM] at hx
  obtain⟨it,t,x,h1,h2⟩:=ar6 hx
  obtain⟨l,its,h3,h4⟩:=Wm h2
  exact⟨⟨t,x⟩::l,(it,md)::its,by simp only[List.map_cons,j4,h1,h3,cQ],h4⟩
 |none::fs,[],k,r,hx=>by simp[vM] at hx
 |some md::fs,[],k,r,hx=>by simp[vM] at hx
def Kz:Bool->K
 |true=>.agg
 |false=>.one
def Gu (h h0:Nat->Option SB):aQ->List (Bool×List SC)->(List bX->List (cY×Mode)->Option ρ)->Option ρ
 |_,[],k=>k [] []
 |sig,(ag,cs)::as,k=>vM h h0 sig.hd cs fun l its=>Gu h h0 sig.tl as fun ds vn=>k ((Kz ag,l)::ds) (its++vn)
theorem Wq {h h0:Nat->Option SB}:∀{as:List (Bool×List SC)} {sig:aQ} {k:List bX->List (cY×Mode)->Option ρ} {r:ρ},Gu h h0 sig as k=some r->
  ∃ds its,lR (dc h) (dc h0) sig (as.map fun x=>(x.1,x.2.map SC.er))=some (ds.map bX.er,its)/\k ds its=some r
 |[],sig,k,r,hx=>⟨[],[],by simp only[List.map_nil,lR],hx⟩
 |(ag,cs)::as,sig,k,r,hx=>by
  simp only[Gu] at hx
  obtain⟨l,its,h1,h2⟩:=Wm hx
  obtain⟨ds,vn,h3,h4⟩:=Wq h2
  refine⟨_,_,?_,h4⟩
  simp only[List.map_cons,lR,h1,h3,bX.er]
  cases ag<;>rfl
def Dp:List SV->Option (List (Bool×List SC))
 |[]=>some []
 |v::vs=>match v.cells?,Dp vs with
  |some x,some xs=>some (x::xs)
  |_,_=>none
theorem Wk:∀{as:List SV} {dz:List (Bool×List SC)},Dp as=some dz->qb (as.map SV.er)=some (dz.map fun x=>(x.1,x.2.map SC.er))
 |[],dz,h=>by simp only[Dp] at h;injection h with h;subst h;rfl
 |v::vs,dz,h=>by
  simp only[Dp] at h
  split at h
  ·rename_i x xs e1 e2
   injection h with h
   subst h
   obtain⟨b,cs⟩:=x
   simp only[List.map_cons,qb,SV.mA e1,Wk e2]
  ·cases h
def Lt (ts:List Ty) (e:Ty.DL ts) (off:Nat) (x:TD):Option (Ty.DL ts):=rf ts ((Ty.iq ts e).set off x)
theorem adq {ts:List Ty} {e e':Ty.DL ts} {off:Nat} {x:TD} (h:Lt ts e off x=some e'):Ty.aI ts e'=(Ty.aI ts e).set off (x.1.er x.2):=by
 have:=xx h
 rw[this,cQ,List.map_set,<-Ty.qG ts e]
 rfl
def Wx (σ:ah) (it:cY) (x:TD) (k:ah->Option ρ):Option ρ:=
 match it with
 |.nil _=>k σ
 |.row n=>match x with
  |⟨.list ts,xs⟩=>match σ.h n with
   |some (.row gr m us _)=>cW us.length ts.length (k (σ.dB n (.row gr m ts xs)))
   |_=>none
  |_=>none
 |.nest n kk off=>match σ.h n with
  |some (.row gr m us xs)=>(dt xs kk).ab fun e=>match Lt us e off x with
   |some e'=>k (σ.dB n (.row gr m us (bR xs kk e')))
   |none=>none
  |_=>none
theorem asj {σ:ah} {it:cY} {x:TD} {k:ah->Option ρ} {r:ρ} (hx:Wx σ it x k=some r):∃σ1,σ.er.oq it (x.1.er x.2)=some σ1.er/\k σ1=some r:=by
 unfold Wx at hx
 split at hx
 ·exact⟨σ,rfl,hx⟩
 ·rename_i n
  split at hx
  ·rename_i ts xs
   split at hx
   ·rename_i gr m us ys hn
    have bw:=(bi hx).1;replace hx:=(bi hx).2
    refine⟨_,?_,hx⟩
    have bm:σ.er.h n=some (.row gr m us.length (List.map (Ty.aI us) ys)):=by simp[ah.er,dc,hn,SB.er]
    simp only[St.oq,Ty.er,bm,bw,if_true,ah.pF,SB.er]
   ·cases hx
  ·cases hx
 ·rename_i n kk off
  split at hx
  ·rename_i gr m us xs hn
   rw[eZ] at hx
   obtain⟨e,he,hx⟩:=hx
   replace he:xs[kk]? =some e:=he
   split at hx
   ·rename_i e' hs
    refine⟨_,?_,hx⟩
    have bm:σ.er.h n=some (.row gr m us.length (List.map (Ty.aI us) xs)):=by simp[ah.er,dc,hn,SB.er]
    simp only[St.oq,bm,List.getElem?_map,he,Option.map_some,ah.pF,SB.er,bR,List.map_set,adq hs]
   ·cases hx
  ·cases hx
def DB (σ:ah):List (cY×Mode)->List TD->(ah->Option ρ)->Option ρ
 |[],[],k=>k σ
 |it::its,x::xs,k=>Wx σ it.1 x fun σ1=>DB σ1 its xs k
 |_,_,_=>none
theorem ad5:∀{its:List (cY×Mode)} {xs:List TD} {σ:ah} {k:ah->Option ρ} {r:ρ},DB σ its xs k=some r->∃σ1,σ.er.qk its (cQ xs)=some σ1.er/\k σ1=some r
 |[],[],σ,k,r,hx=>⟨σ,rfl,hx⟩
 |it::its,x::xs,σ,k,r,hx=>by
  simp only[DB] at hx
  obtain⟨σ1,h1,h2⟩:=asj hx
  obtain⟨σ2,h3,h4⟩:=ad5 h2
  refine⟨σ2,?_,h4⟩
  simp only[cQ] at h3
  simp only[cQ,List.map_cons,St.qk,h1,h3]
 |[],_::_,σ,k,r,hx=>by simp[DB] at hx
 |_::_,[],σ,k,r,hx=>by simp[DB] at hx
def KW:List Nat->Bool
 |[]=>true
 |n::l=> !(l.contains n)&&KW l
theorem ace:∀{l:List Nat},KW l=true->l.Nodup
 |[],_=>List.nodup_nil
 |n::l,h=>by
  simp only[KW,Bool.and_eq_true,Bool.not_eq_true'] at h
  rw[List.nodup_cons]
  refine⟨fun hm=>?_,ace h.2⟩
  have:l.contains n=true:=by simpa using hm
  rw[this] at h
  cases h.1
def V4 (T:List az) (m:Mode) (d:Option Nat) (f:FuncId) (as:List SV) (σ:ah) (k:ah->Option ρ):Option ρ:=
 match az.find T f with
 |some fn=>match fn.mu.f9 with
  |1=>match Dp as with
   |some dz=>fi (KW (Du fn.mu dz)) (Gu σ.h (Lw σ.h (Du fn.mu dz)) fn.mu dz fun ds its=>match o8 fn.args ds with
    |some x=>(fn.F x).ab fun y=>DB σ its (((lF fn.aF y).drop (fn.aF.length - fn.mu.jb)).flatMap (·.2)) fun σ1=>match Dm m σ1 (z6 d) ((lF fn.aF y).take (fn.aF.length - fn.mu.jb)) with
     |some (ls,σ2)=>k (σ2.put d (DD ls))
     |none=>none
    |none=>none)
   |none=>none
  |_=>none
 |none=>none
theorem Gx (k:Nat) (l:List bX):xT k (l.map bX.er)=((l.take k).map bX.er,cQ ((l.drop k).flatMap (·.2))):=by
 simp only[xT,<-List.map_take,<-List.map_drop]
 congr 1
 induction l.drop k with
 |nil=>rfl
 |cons d l ih=>
  simp only[List.map_cons,List.flatMap_cons,ih,cQ,List.map_append,bX.er]
theorem arG {T:List az} {m:Mode} {d:Option Nat} {f:FuncId} {as:List SV} {σ:ah} {k:ah->Option ρ} {r:ρ} (h:V4 T m d f as σ k=some r):
  ∃σ1:ah,uG (cX T) m d f (as.map SV.er) σ.er=some σ1.er/\k σ1=some r:=by
 unfold V4 at h
 split at h
 ·rename_i fn hf
  split at h
  ·rename_i wY
   split at h
   ·rename_i dz hc
    have gH:=ace (cB h).1;replace h:=(cB h).2
    obtain⟨ds,its,h1,h2⟩:=Wq h
    split at h2
    ·rename_i x hx
     rw[eZ] at h2
     obtain⟨y,hF,h2⟩:=h2
     obtain⟨σ1,h3,h4⟩:=ad5 h2
     split at h4
     ·rename_i ls σ2 hs
      refine⟨_,?_,h4⟩
      have e:=Wb m hs
      have hM:fn.MM (dg fn.args x)=some (((lF fn.aF y).take (fn.aF.length - fn.mu.jb)).map bX.er,cQ (((lF fn.aF y).drop (fn.aF.length - fn.mu.jb)).flatMap (·.2))):=by
       unfold az.MM
       rw[az.yo,hF]
       simp only[Option.map_some]
       rw[<-wC,Gx]
      have hh:σ.er.h=dc σ.h:=rfl
      rw[adv] at h1
      simp only[uG,az.ZL hf wY,Wk hc,Wo,if_pos gH,hh,h1,tS hx,hM,h3,e,ah.dv,Gz]
     ·cases h4
    ·cases h2
   ·cases h
  ·cases h
 ·cases h
def xR:List SC->Option (List TD)
 |[]=>some []
 |.v t x::cs=>match xR cs with
  |some l=>some (⟨t,x⟩::l)
  |none=>none
 |.nil (t::us)::cs=>match xR cs with
  |some l=>some (⟨.list (t::us),([]:List (Ty.DL (t::us)))⟩::l)
  |none=>none
 |_::_=>none
theorem Gl:∀{cs:List SC} {l:List TD},xR cs=some l->jW (cs.map SC.er)=some (cQ l)
 |[],l,h=>by simp only[xR] at h;injection h with h;subst h;rfl
 |c::cs,l,h=>by
  unfold xR at h
  split at h
  ·rename_i e;cases e
  ·rename_i t x cs' e
   injection e with e1 e2
   subst e1 e2
   split at h
   ·rename_i l' e
    injection h with h
    subst h
    simp only[List.map_cons,jW,SC.er,oU,Gl e,cQ]
   ·cases h
  ·rename_i t us cs' e
   injection e with e1 e2
   subst e1 e2
   split at h
   ·rename_i l' e
    injection h with h
    subst h
    simp[jW,SC.er,oU,Gl e,cQ,Ty.er]
   ·cases h
  ·cases h
def Ln (h:Nat->Option SB) (n kk off:Nat):Option (List TD):=
 match kk,off with
 |0,0=>match h n with
  |some (.box cs)=>xR cs
  |_=>none
 |_,_=>none
theorem adi {h:Nat->Option SB} {n kk sz off:Nat} {l:List TD} (e:Ln h n kk off=some l):mw (dc h) (SV.er (.one (.ptr n kk sz off)))=some (n,cQ l):=by
 unfold Ln at e
 split at e
 ·split at e
  ·rename_i cs hn
   simp[SV.er,SC.er,mw,dc,hn,SB.er,Gl e]
  ·cases e
 ·cases e
def SV.qj:SV->Option (Nat×Nat×Nat)
 |.one (.ptr n kk _ off)=>some (n,kk,off)
 |_=>none
theorem acD {v:SV} (h:v.qj=none) (hh:Nat->Option ar):mw hh v.er=none:=by
 cases v with
 |one c=>cases c<;>first|rfl|(simp[SV.qj] at h)
 |agg cs=>rfl
 |br xs=>rfl
theorem acE {v:SV} {n kk off:Nat} (h:v.qj=some (n,kk,off)):∃sz,v=.one (.ptr n kk sz off):=by
 cases v with
 |one c=>cases c<;>simp[SV.qj] at h;obtain⟨rfl,rfl,rfl⟩:=h;exact⟨_,rfl⟩
 |agg cs=>simp[SV.qj] at h
 |br xs=>simp[SV.qj] at h
def Gi (σ:ah):List SV->(List bX->List Nat->ah->Option ρ)->Option ρ
 |[],k=>k [] [] σ
 |v::vs,k=>match v.qj with
  |some (n,kk,off)=>match Ln σ.h n kk off with
   |some l=>Gi σ vs fun ds ns σ1=>k ((.ptr,l)::ds) (n::ns) σ1
   |none=>none
  |none=>match v.cells? with
   |some (ag,cs)=>Ay σ cs fun l _ σ1=>Gi σ1 vs fun ds ns σ2=>k ((Kz ag,l)::ds) ns σ2
   |none=>none
theorem UW:∀{vs:List SV} {σ:ah} {k:List bX->List Nat->ah->Option ρ} {r:ρ},Gi σ vs k=some r->
  ∃ds ns σ1,σ.er.ia (vs.map SV.er)=some (ds.map bX.er,ns,σ1.er)/\k ds ns σ1=some r
 |[],σ,k,r,h=>⟨[],[],σ,rfl,h⟩
 |v::vs,σ,k,r,h=>by
  simp only[Gi] at h
  split at h
  ·rename_i n kk off hv
   obtain⟨sz,rfl⟩:=acE hv
   split at h
   ·rename_i l hl
    obtain⟨ds,ns,σ1,h1,h2⟩:=UW h
    refine⟨_,_,σ1,?_,h2⟩
    have:=adi (sz:=sz) hl
    have hh:σ.er.h=dc σ.h:=rfl
    simp only[List.map_cons,St.ia,hh,this,h1,bX.er]
   ·cases h
  ·rename_i hv
   split at h
   ·rename_i ag cs hc
    obtain⟨l,o,σ1,h1,h2⟩:=GG h
    obtain⟨ds,ns,σ2,h3,h4⟩:=UW h2
    refine⟨_,_,σ2,?_,h4⟩
    simp only[List.map_cons,St.ia,acD hv,SV.mA hc,h1,h3,bX.er]
    cases ag<;>rfl
   ·cases h
def Ww (σ:ah) (ns:List Nat) (out:List TD) (k:ah->Option ρ):Option ρ:=
 match ns,out with
 |[],[]=>k σ
 |[n],out=>match σ.h n with
  |some (.box cs)=>cW cs.length out.length (k (σ.dB n (.box (out.map fun x=>.v x.1 x.2))))
  |_=>none
 |_,_=>none
theorem L3 (out:List TD):(out.map fun x=>SC.v x.1 x.2).map SC.er=(cQ out).map .c:=by simp[cQ,SC.er]
theorem asi {σ:ah} {ns:List Nat} {out:List TD} {k:ah->Option ρ} {r:ρ} (h:Ww σ ns out k=some r):∃σ1,σ.er.rn ns (cQ out)=some σ1.er/\k σ1=some r:=by
 unfold Ww at h
 split at h
 ·exact⟨σ,rfl,h⟩
 ·rename_i n
  split at h
  ·rename_i cs hn
   have he:=(bi h).1;replace h:=(bi h).2
   refine⟨_,?_,h⟩
   have bm:σ.er.h n=some (.box (cs.map SC.er)):=by simp[ah.er,dc,hn,SB.er]
   simp only[St.rn,bm,List.length_map]
   rw[if_pos (by rw[he,cQ,List.length_map]),ah.pF,SB.er,L3]
  ·cases h
 ·cases h
def bX.qj:List bX->Option (List TD)
 |[(.ptr,cs)]=>some cs
 |_=>none
theorem arJ {rs:List bX} {cs:List TD} (h:bX.qj rs=some cs):rs=[(.ptr,cs)]:=by
 unfold bX.qj at h
 split at h
 ·injection h with h;rw[h]
 ·cases h
def UX (σ:ah) (d:Option Nat) (rs:List bX) (k:ah->Option ρ):Option ρ:=
 match bX.qj rs with
 |some cs=>match d with
  |some q=>match σ.ins q (.box (cs.map fun x=>.v x.1 x.2)) with
   |some σ1=>k (σ1.put d (.one (.ptr q 0 0 0)))
   |none=>none
  |none=>none
 |none=>match Aq rs with
  |some ls=>k (σ.put d (DD ls))
  |none=>none
theorem arw {σ:ah} {d:Option Nat} {rs:List bX} {k:ah->Option ρ} {r:ρ} (h:UX σ d rs k=some r):∃σ1,qD σ.er d (rs.map bX.er)=some σ1.er/\k σ1=some r:=by
 unfold UX at h
 split at h
 ·rename_i cs hp
  have:=arJ hp
  subst this
  split at h
  ·rename_i q
   split at h
   ·rename_i σ1 hi
    refine⟨_,?_,h⟩
    have e:=ah.th hi
    rw[SB.er,L3] at e
    simp only[List.map_cons,List.map_nil,bX.er,qD,e,ah.dv]
    rfl
   ·cases h
  ·cases h
 ·split at h
  ·rename_i ls hs
   refine⟨_,?_,h⟩
   have e:=Lr hs
   have hb:qD σ.er d (rs.map bX.er)=match gR (rs.map bX.er) with
     |some ls=>some (σ.er.put d (lT ls))
     |none=>none:=by
    unfold qD
    split
    ·rename_i cs he
     rw[he] at e
     simp[gR] at e
    ·rfl
   rw[hb,e,ah.dv,Gz]
  ·cases h
def V2 (T:List az) (d:Option Nat) (f:FuncId) (as:List SV) (σ:ah) (k:ah->Option ρ):Option ρ:=
 match az.find T f with
 |some fn=>match fn.mu.f9 with
  |2=>Gi σ as fun ds ns σ1=>match o8 fn.args ds with
   |some x=>(fn.F x).ab fun y=>Ww σ1 ns (((lF fn.aF y).drop (fn.aF.length - qf fn.args)).flatMap (·.2)) fun σ2=>UX σ2 d ((lF fn.aF y).take (fn.aF.length - qf fn.args)) k
   |none=>none
  |_=>none
 |none=>none
theorem arE {T:List az} {d:Option Nat} {f:FuncId} {as:List SV} {σ:ah} {k:ah->Option ρ} {r:ρ} (h:V2 T d f as σ k=some r):
  ∃σ1:ah,qI (cX T) d f (as.map SV.er) σ.er=some σ1.er/\k σ1=some r:=by
 unfold V2 at h
 split at h
 ·rename_i fn hf
  split at h
  ·rename_i wY
   obtain⟨ds,ns,σ1,h1,h2⟩:=UW h
   split at h2
   ·rename_i x hx
    rw[eZ] at h2
    obtain⟨y,hF,h2⟩:=h2
    obtain⟨σ2,h3,h4⟩:=asi h2
    obtain⟨g9,h5,h6⟩:=arw h4
    refine⟨g9,?_,h6⟩
    have hM:fn.MV (dg fn.args x)=some (((lF fn.aF y).take (fn.aF.length - qf fn.args)).map bX.er,cQ (((lF fn.aF y).drop (fn.aF.length - qf fn.args)).flatMap (·.2))):=by
     unfold az.MV
     rw[az.yo,hF]
     simp only[Option.map_some]
     rw[<-wC,Gx]
    simp only[qI,h1,az.ZM hf wY,tS hx,hM,h3,h5]
   ·cases h2
  ·cases h
 ·cases h
def az.uJ (k:Nat):List az->FuncId->Option az
 |[],_=>none
 |fn::l,f=>match Nat.beq f fn.id&&Nat.beq fn.mu.f9 k with
  |true=>some fn
  |false=>az.uJ k l f
theorem az.ZJ:∀{T:List az} {f:FuncId} {fn:az},az.uJ 2 T f=some fn->aT.kQ (cX T).vs f=some fn.MV
 |[],f,fn,h=>by simp[az.uJ] at h
 |g::l,f,fn,h=>by
  simp only[az.uJ] at h
  split at h
  ·rename_i e
   injection h with h
   subst h
   rw[Bool.and_eq_true] at e
   have hm:=Nat.eq_of_beq_eq_true e.2
   simp only[cX,List.filterMap_cons,hm,aT.kQ]
   rw[if_pos (Nat.eq_of_beq_eq_true e.1)]
  ·rename_i e
   have ih:aT.kQ (cX l).vs f=some fn.MV:=az.ZJ h
   simp only[cX,List.filterMap_cons] at ih⊢
   by_cases hg:g.mu.f9=2
   ·simp only[hg,aT.kQ]
    rw[if_neg (fun he=>by rw[he,hg,Nat.beq_refl] at e;cases e)]
    exact ih
   ·split
    ·exact ih
    ·rename_i z hz
     split at hz
     ·rename_i h0;exact absurd h0 hg
     ·cases hz
theorem az.ZK:∀{T:List az} {f:FuncId} {fn:az},az.uJ 3 T f=some fn->aT.rZ (cX T).ws f=some (fn.mu.tl,fn.MW)
 |[],f,fn,h=>by simp[az.uJ] at h
 |g::l,f,fn,h=>by
  simp only[az.uJ] at h
  split at h
  ·rename_i e
   injection h with h
   subst h
   rw[Bool.and_eq_true] at e
   have hm:=Nat.eq_of_beq_eq_true e.2
   simp only[cX,List.filterMap_cons,hm,aT.rZ]
   rw[if_pos (Nat.eq_of_beq_eq_true e.1)]
  ·rename_i e
   have ih:aT.rZ (cX l).ws f=some (fn.mu.tl,fn.MW):=az.ZK h
   simp only[cX,List.filterMap_cons] at ih⊢
   by_cases hg:g.mu.f9=3
   ·simp only[hg,aT.rZ]
    rw[if_neg (fun he=>by rw[he,hg,Nat.beq_refl] at e;cases e)]
    exact ih
   ·split
    ·exact ih
    ·rename_i z hz
     split at hz
     ·rename_i h0;exact absurd h0 hg
     ·cases hz
def Gy:List SV->Option (List bX)
 |[]=>some []
 |v::vs=>match v.cells? with
  |some (ag,cs)=>match xR cs with
   |some l=>match Gy vs with
    |some ds=>some ((Kz ag,l)::ds)
    |none=>none
   |none=>none
  |none=>none
theorem ad6:∀{vs:List SV} {ds:List bX},Gy vs=some ds->Ag (vs.map SV.er)=some (ds.map bX.er)
 |[],ds,h=>by simp only[Gy] at h;injection h with h;subst h;rfl
 |v::vs,ds,h=>by
  simp only[Gy] at h
  split at h
  ·rename_i ag cs hc
   split at h
   ·rename_i l hl
    split at h
    ·rename_i uH hd
     injection h with h
     subst h
     simp only[List.map_cons,Ag,SV.mA hc,Gl hl,ad6 hd,bX.er]
     cases ag<;>rfl
    ·cases h
   ·cases h
  ·cases h
def V5 (T:List az) (d:Option Nat) (f:FuncId) (as:List SV) (σ:ah) (k:ah->Option ρ):Option ρ:=
 match az.uJ 2 T f with
 |some fn=>match Gy as with
  |some ds=>match o8 fn.args ds with
   |some x=>(fn.F x).ab fun y=>match((lF fn.aF y).drop (fn.aF.length - qf fn.args)).flatMap (·.2) with
    |[]=>match Aq ((lF fn.aF y).take (fn.aF.length - qf fn.args)) with
     |some ls=>k (σ.put d (DD ls))
     |none=>none
    |_=>none
   |none=>none
  |none=>none
 |none=>none
theorem arH {T:List az} {d:Option Nat} {f:FuncId} {as:List SV} {σ:ah} {k:ah->Option ρ} {r:ρ} (h:V5 T d f as σ k=some r):
  ∃v:SV,yK (cX T) f (as.map SV.er)=some v.er/\k (σ.put d v)=some r:=by
 unfold V5 at h
 split at h
 ·rename_i fn hf
  split at h
  ·rename_i ds hd
   split at h
   ·rename_i x hx
    rw[eZ] at h
    obtain⟨y,hF,h⟩:=h
    split at h
    ·rename_i ho
     split at h
     ·rename_i ls hs
      refine⟨_,?_,h⟩
      have hM:fn.MV (dg fn.args x)=some (((lF fn.aF y).take (fn.aF.length - qf fn.args)).map bX.er,[]):=by
       unfold az.MV
       rw[az.yo,hF]
       simp only[Option.map_some]
       rw[<-wC,Gx,ho]
       rfl
      simp only[yK,ad6 hd,az.ZJ hf,tS hx,hM,Lr hs,Gz]
     ·cases h
    ·cases h
   ·cases h
  ·cases h
 ·cases h
def V6 (T:List az) (d:Option Nat) (f:FuncId) (as:List SV) (σ:ah) (k:ah->Option ρ):Option ρ:=
 match az.uJ 3 T f with
 |some fn=>match fn.mu.f9 with
  |3=>match Dp as with
   |some dz=>match Du fn.mu.tl dz with
    |[n]=>Gu σ.h (Lw σ.h [n]) fn.mu.tl dz fun ds its=>match its with
     |[(.row n',_)]=>cW n' n (match σ.h n with
      |some (.row _ _ ts xs)=>match o8 fn.args ds with
       |some x=>(fn.F x).ab fun y=>match lF fn.aF y with
        |[(.one,[⟨.int _,a⟩]),(.one,[⟨.int _,b⟩])]=>(mR a b (aa xs)).ab fun p=>k (σ.put d (.one (.sl n ts.length p.1 p.2)))
        |_=>none
       |none=>none
      |_=>none)
     |_=>none
    |_=>none
   |none=>none
  |_=>none
 |none=>none
theorem arI {T:List az} {d:Option Nat} {f:FuncId} {as:List SV} {σ:ah} {k:ah->Option ρ} {r:ρ} (h:V6 T d f as σ k=some r):
  ∃v:SV,pE (cX T) f (as.map SV.er) σ.er.h=some v.er/\k (σ.put d v)=some r:=by
 unfold V6 at h
 split at h
 ·rename_i fn hf
  split at h
  ·rename_i wY
   split at h
   ·rename_i dz hc
    split at h
    ·rename_i n hn
     obtain⟨ds,its,h1,h2⟩:=Wq h
     split at h2
     ·rename_i n' md
      have he:=(bi h2).1;replace h2:=(bi h2).2
      subst he
      split at h2
      ·rename_i gr mo ts xs fo
       split at h2
       ·rename_i x hx
        rw[eZ] at h2
        obtain⟨y,hF,h2⟩:=h2
        split at h2
        ·rename_i ka a kb b hy
         rw[eZ] at h2
         obtain⟨p,hs,h2⟩:=h2
         refine⟨_,?_,h2⟩
         unfold mR at hs
         split at hs
         ·rename_i cV
          injection hs with hs
          subst hs
          have hM:fn.MW (dg fn.args x)=some (Int.toNat a,Int.toNat (@HSub.hSub Int Int Int instHSub b a)):=by
           unfold az.MW
           rw[az.yo,hF]
           simp only[Option.map_some,Option.bind_some]
           rw[<-wC,hy]
           rfl
          have hh:σ.er.h=dc σ.h:=rfl
          have bm:σ.er.h n'=some (.row gr mo ts.length (List.map (Ty.aI ts) xs)):=by simp[ah.er,dc,fo,SB.er]
          rw[adv] at h1
          simp only[pE,az.ZK hf,Wk hc,Wo,hn,hh,h1,tS hx,hM]
          rw[hh] at bm
          simp only[bm,if_true]
          rfl
         ·cases hs
        ·cases h2
       ·cases h2
      ·cases h2
     ·cases h2
    ·cases h
   ·cases h
  ·cases h
 ·cases h
def Wa (σ:ah) (p:SC) (k:ah->Option ρ):Option ρ:=
 match p with
 |.ptr n _ _ _=>match σ.h n with
  |some (.box cs)=>Ay σ cs fun l _ σ1=>k (σ1.dB n (.box (l.map fun x=>.v x.1 x.2)))
  |_=>none
 |_=>none
theorem arP {σ:ah} {p:SC} {k:ah->Option ρ} {r:ρ} (h:Wa σ p k=some r):∃σ1,σ.er.qO p.er=some σ1.er/\k σ1=some r:=by
 unfold Wa at h
 split at h
 ·rename_i n kk sz off
  split at h
  ·rename_i cs hn
   obtain⟨l,o,σ1,h1,h2⟩:=GG h
   refine⟨_,?_,h2⟩
   have bm:σ.er.h n=some (.box (cs.map SC.er)):=by simp[ah.er,dc,hn,SB.er]
   simp only[SC.er,St.qO,bm,h1]
   rw[ah.pF,SB.er,L3]
  ·cases h
 ·cases h
inductive cU where
 |mv (x:cO)
 |pick (c x y:cO)
 |alloc (zs:List SC)
 |box (sz:Nat) (x:cO)
 |build (zs:List SC) (parts:List (Nat×Nat×cO))
 |gd (ts:List Ty) (parts:List cO)
 |load (ag:Bool) (sz:Nat) (x:cO)
 |store (sz:Nat) (x v:cO)
 |gZ (x:cO)
 |bin (op:BinOp) (x y:cO)
 |oJ (op:BinOp) (x y:cO)
 |un (op:UnOp) (x:cO)
 |conv (k:IntKind) (x:cO)
 |kF (m:Mode) (ts:List Ty) (by_:Nat) (z:Ty.DL ts) (l c:cO)
 |slice (sz:Nat) (x:cO) (lo hi:Option cO)
 |tail (sz:Nat) (x lo:cO)
 |oZ (ag:Bool) (sz:Nat) (x:cO)
 |aw (off:Nat) (x:cO)
 |cf (sz:Nat) (x i:cO)
 |ext (i:Nat) (x:cO)
 |pI (ag:Bool) (off sz:Nat) (x:cO)
 |pk (f:FuncId) (bQ:Bool) (x:cO)
 |len (x:cO)
 |append (fl:Bool) (ts:List Ty) (by_:Nat) (x y:cO)
 |mm (mx:Bool) (x y:cO)
 |call (m:Mode) (f:FuncId) (xs:List cO)
 |mV (f:FuncId) (xs:List cO)
 |copy (x y:cO)
 |lE (t:Ty) (z:t.D) (x:cO)
 |qe (f:FuncId) (xs:List cO)
 |mW (m:Mode) (x:cO) (xs:List cO)
 |fU (m:Mode) (f:FuncId) (xs:List cO)
 |dT (f:FuncId) (xs:List cO)
 |mX (f:FuncId) (xs:List cO)
 |mz (f:FuncId) (xs:List cO)
def cU.er:cU->aH
 |.mv x=>.mv x.er
 |.pick c x y=>.pick c.er x.er y.er
 |.alloc zs=>.alloc (zs.map SC.er)
 |.box sz x=>.box sz x.er
 |.build zs ps=>.build (zs.map SC.er) (ps.map fun p=>(p.1,p.2.1,p.2.2.er))
 |.gd ts ps=>.gd ts.length (ps.map cO.er)
 |.load ag sz x=>.load ag sz x.er
 |.oZ ag sz x=>.oZ ag sz x.er
 |.store sz x v=>.store sz x.er v.er
 |.gZ x=>.gZ x.er
 |.bin op x y=>.bin op x.er y.er
 |.oJ op x y=>.oJ op x.er y.er
 |.un op x=>.un op x.er
 |.conv k x=>.conv k x.er
 |.kF m ts by_ z l c=>.kF m ts.length by_ (Ty.aI ts z) l.er c.er
 |.slice sz x lo hi=>.slice sz x.er (lo.map cO.er) (hi.map cO.er)
 |.tail sz x lo=>.tail sz x.er lo.er
 |.aw off x=>.aw off x.er
 |.cf sz x i=>.cf sz x.er i.er
 |.ext i x=>.ext i x.er
 |.pI ag off sz x=>.pI ag off sz x.er
 |.pk f bQ x=>.pk f bQ x.er
 |.len x=>.len x.er
 |.append fl ts by_ x y=>.append fl ts.length by_ x.er y.er
 |.mm b x y=>.mm b x.er y.er
 |.call m f xs=>.call m f (xs.map cO.er)
 |.mV f xs=>.mV f (xs.map cO.er)
 |.copy x y=>.copy 1 x.er y.er
 |.lE t z x=>.lE (t.er z) x.er
 |.qe f xs=>.qe f (xs.map cO.er)
 |.mW m x xs=>.mW m x.er (xs.map cO.er)
 |.fU m f xs=>.fU m f (xs.map cO.er)
 |.dT f xs=>.dT f (xs.map cO.er)
 |.mX f xs=>.mX f (xs.map cO.er)
 |.mz f xs=>.mz f (xs.map cO.er)
theorem uI (σ:ah) (xs:List cO):(xs.map cO.er).map σ.er.ev=(xs.map σ.ev).map SV.er:=by
 simp[ah.du]
def GF (ev:cO->SV):List SC->List (Nat×Nat×cO)->Option (List SC)
 |zs,[]=>some zs
 |zs,(off,sz,x)::ps=>match(ev x).cells? with
  |some (_,cs)=>cW cs.length sz (fi (Nat.ble (off+sz) zs.length) (GF ev (cv zs off cs) ps))
  |none=>none
theorem aeh {σ:ah}:∀{ps:List (Nat×Nat×cO)} {zs cs:List SC},GF σ.ev zs ps=some cs->
  qp σ.er.ev (zs.map SC.er) (ps.map fun p=>(p.1,p.2.1,p.2.2.er))=some (cs.map SC.er)
 |[],zs,cs,h=>by simp only[GF] at h;injection h with h;subst h;rfl
 |(off,sz,x)::ps,zs,cs,h=>by
  simp only[GF] at h
  split at h
  ·rename_i b YS hc
   have bw:=(bi h).1;replace h:=(bi h).2;subst bw
   have hb:=(cB h).1;replace h:=(cB h).2
   have ih:=aeh h
   rw[DA] at ih
   have ig:=Nat.le_of_ble_eq_true hb
   simp only[List.map_cons,qp,ah.du,SV.mA hc,List.length_map,ig,and_self,if_true,ih]
  ·cases h
def Lo (l:List TD):Bool:=l.all fun x=>x.1.eV
theorem arx (l:List TD):fK (cQ l)=Lo l:=by
 simp[fK,cQ,Lo,List.all_map,Function.comp_def,Ty.xO]
def WK (σ:ah) (n:Nat) (gr:Bool) (m:Mode) (ts:List Ty) (xs:List (Ty.DL ts)) (kk off:Nat) (e:Ty.DL ts) (vs:List SC) (k:ah->Option ρ):Option ρ:=
 match sub (Ty.iq ts e) off vs.length with
 |none=>none
 |some fB=>Ay σ vs fun cs o σ1=>match rf ts (cv (Ty.iq ts e) off cs) with
  |none=>none
  |some e'=>match m with
   |.live=>fi (Lo cs&&Lo fB&&(σ1.h n).isSome) (k (σ1.dB n (.row gr .live ts (bR xs kk e'))))
   |.ae=>fi (σ1.h n).isSome (k (σ1.dB n (.row gr (match o with|true=>.ae|false=>.aG) ts (bR xs kk e'))))
   |.aG=>fi (σ1.h n).isSome (k (σ1.dB n (.row gr .aG ts (bR xs kk e'))))
theorem Zk (h:Nat->Option SB) (n:Nat):(dc h n).isSome=(h n).isSome:=by
 unfold dc;cases h n<;>rfl
theorem asq {σ:ah} {n:Nat} {gr:Bool} {m:Mode} {ts:List Ty} {xs:List (Ty.DL ts)} {kk off:Nat} {e:Ty.DL ts} {vs:List SC} {k:ah->Option ρ} {r:ρ}
  (h:WK σ n gr m ts xs kk off e vs k=some r):
  ∃σ1:ah,nC σ.er n gr m ts.length (List.map (Ty.aI ts) xs) kk off (Ty.aI ts e) (vs.map SC.er)=some σ1.er/\k σ1=some r:=by
 unfold WK at h
 split at h
 ·cases h
 ·rename_i fB ho
  obtain⟨cs,o,σ1,h1,h2⟩:=GG h
  have hold:sub (Ty.aI ts e) off (vs.map SC.er).length=some (cQ fB):=by
   rw[<-Ty.qG]
   simp only[cQ]
   rw[ud,List.length_map,ho]
   rfl
  split at h2
  ·cases h2
  ·rename_i e' he
   have zq:cv (Ty.aI ts e) off (cQ cs)=Ty.aI ts e':=by
    rw[xx he,<-Ty.qG]
    simp only[cQ]
    rw[<-DA]
   have Cj:(List.map (Ty.aI ts) xs).set kk (Ty.aI ts e')=List.map (Ty.aI ts) (bR xs kk e'):=by
    show _=List.map (Ty.aI ts) (xs.set kk e')
    rw[List.map_set]
   have Ck:σ1.er.h n=(σ1.h n).map SB.er:=rfl
   split at h2
   ·have hb:=(cB h2).1;replace h2:=(cB h2).2
    simp only[Bool.and_eq_true] at hb
    refine⟨_,?_,h2⟩
    simp only[nC,hold,h1,if_true,arx,hb.1.1,hb.1.2,Ck,Option.isSome_map,hb.2,and_self,zq,Cj,ah.pF,SB.er]
   ·have hb:=(cB h2).1;replace h2:=(cB h2).2
    refine⟨_,?_,h2⟩
    cases o<;>simp only[nC,hold,h1,Ck,Option.isSome_map,hb,zq,Cj,ah.pF,SB.er,reduceCtorEq,if_false,if_true,Bool.false_eq_true,cond_true,cond_false,ite_self]
   ·have hb:=(cB h2).1;replace h2:=(cB h2).2
    refine⟨_,?_,h2⟩
    cases o<;>simp only[nC,hold,h1,Ck,Option.isSome_map,hb,zq,Cj,ah.pF,SB.er,reduceCtorEq,if_false,if_true,Bool.false_eq_true,cond_true,cond_false,ite_self]
def wz (us ts:List Ty) (xs:List (Ty.DL us)):Option (List (Ty.DL ts)):=if h:Ty.rQ us ts=true then some (Ty.s6 h▸xs) else none
theorem Nt {us ts:List Ty} {xs:List (Ty.DL us)} {ys:List (Ty.DL ts)} (h:wz us ts xs=some ys):us.length=ts.length/\List.map (Ty.aI us) xs=List.map (Ty.aI ts) ys/\xs.length=ys.length:=by
 unfold wz at h
 split at h
 ·rename_i he
  have:=Ty.s6 he
  subst this
  injection h with h
  rw[<-h]
  exact⟨rfl,rfl,rfl⟩
 ·cases h
def UT (σ:ah) (ts:List Ty) (v:SV) (k:List (Ty.DL ts)->Mode->ah->Option ρ):Option ρ:=
 match v with
 |.one (.nil _)=>k [] .ae σ
 |.one (.sl a s lo len)=>match σ.h a with
  |some (.row true m us xs)=>cW s ts.length (cW lo 0 (match wz us ts xs with
   |some ys=>(ai lo len (aa ys)).ab fun _=>k ys m (σ.del a)
   |none=>none))
  |_=>none
 |_=>none
theorem O9 {lo len l:Nat} {u:Unit} (h:ai lo len l=some u):lo=0/\len=l:=by
 unfold ai at h
 split at h
 ·rename_i hc;exact hc
 ·cases h
theorem aru {σ:ah} {ts:List Ty} {v:SV} {k:List (Ty.DL ts)->Mode->ah->Option ρ} {r:ρ} (h:UT σ ts v k=some r):
  ∃(xs:List (Ty.DL ts)) (m:Mode) (σ1:ah),qz σ.er ts.length v.er=some (List.map (Ty.aI ts) xs,m,σ1.er)/\k xs m σ1=some r:=by
 unfold UT at h
 split at h
 ·exact⟨[],.ae,σ,rfl,h⟩
 ·rename_i a s lo len
  split at h
  ·rename_i m us xs hn
   have bw:=(bi h).1;replace h:=(bi h).2;subst bw
   have bw:=(bi h).1;replace h:=(bi h).2;subst bw
   split at h
   ·rename_i ys hc
    obtain⟨c1,c2,c3⟩:=Nt hc
    rw[eZ] at h
    obtain⟨_,hf,h⟩:=h
    obtain⟨_,hlen⟩:=O9 hf
    replace hlen:len=ys.length:=hlen
    refine⟨ys,m,σ.del a,?_,h⟩
    have bm:σ.er.h a=some (.row true m ts.length (List.map (Ty.aI ts) ys)):=by simp[ah.er,dc,hn,SB.er,c1,c2]
    subst hlen
    simp only[SV.er,SC.er,qz,bm,List.length_map,and_self,if_true,ah.Jz]
   ·cases h
  ·cases h
 ·cases h
theorem adj (ts:List Ty) (xs:List (Ty.DL ts)) (h:Ty.fK ts=true):gv (List.map (Ty.aI ts) xs)=true:=by
 simp only[gv,List.all_eq_true,List.mem_map]
 rintro _ ⟨e,_,rfl⟩
 rw[Ty.Lp]
 exact h
def UU (fl:Bool) (σ:ah) (ts:List Ty) (m:Mode) (v:SV) (k:List (Ty.DL ts)->Mode->ah->Option ρ):Option ρ:=
 match v with
 |.one (.nil _)=>k [] m σ
 |.one (.v (.list us) ys)=>match wz us ts ys with
  |some zs=>match fl with
   |true=>fi (Ty.fK ts) (k zs m σ)
   |false=>match m with
    |.live=>none
    |_=>k zs .aG σ
  |none=>none
 |.one (.sl b s lo len)=>match σ.h b with
  |some (.row _ m' us ys)=>cW s ts.length (match wz us ts ys with
   |some zs=>match fl with
    |true=>fi (Ty.fK ts) ((cr zs lo len).ab fun ws=>k ws m σ)
    |false=>(ai lo len (aa zs)).ab fun _=>match m,m' with
     |.ae,.ae=>k zs .ae (σ.del b)
     |.live,.live=>k zs .live (σ.del b)
     |.aG,.aG=>k zs .aG (σ.del b)
     |.ae,.aG=>k zs .aG (σ.del b)
     |.aG,.ae=>k zs .aG (σ.del b)
     |_,_=>none
   |none=>none)
  |_=>none
 |_=>none
theorem arv {fl:Bool} {σ:ah} {ts:List Ty} {m:Mode} {v:SV} {k:List (Ty.DL ts)->Mode->ah->Option ρ} {r:ρ} (h:UU fl σ ts m v k=some r):
  ∃(ys:List (Ty.DL ts)) (m2:Mode) (σ1:ah),mq fl σ.er ts.length m v.er=some (List.map (Ty.aI ts) ys,m2,σ1.er)/\k ys m2 σ1=some r:=by
 unfold UU at h
 split at h
 ·exact⟨[],m,σ,rfl,h⟩
 ·rename_i us ys
  split at h
  ·rename_i zs hc
   obtain⟨e1,e2,e3⟩:=Nt hc
   have tf:Ty.er (.list us) ys=.list ts.length (List.map (Ty.aI ts) zs):=by rw[<-e1,<-e2];rfl
   split at h
   ·have hs:=(cB h).1;replace h:=(cB h).2
    refine⟨zs,m,σ,?_,h⟩
    simp only[SV.er,SC.er,tf,mq,if_true,Bool.true_and,adj ts zs hs]
   ·split at h
    ·cases h
    ·rename_i hm
     refine⟨zs,.aG,σ,?_,h⟩
     have bO:m≠ .live:=fun e=>hm e
     simp only[SV.er,SC.er,tf,mq,if_true,Bool.false_and,Bool.false_eq_true,if_false,if_neg bO]
  ·cases h
 ·rename_i b s lo len
  split at h
  ·rename_i gr m' us ys hn
   have bw:=(bi h).1;replace h:=(bi h).2;subst bw
   split at h
   ·rename_i zs hc
    obtain⟨e1,e2,e3⟩:=Nt hc
    have bm:σ.er.h b=some (.row gr m' ts.length (List.map (Ty.aI ts) zs)):=by simp[ah.er,dc,hn,SB.er,e1,e2]
    split at h
    ·have hs:=(cB h).1;replace h:=(cB h).2
     rw[eZ] at h
     obtain⟨ws,hw,h⟩:=h
     obtain⟨w1,w2⟩:=aeS hw
     refine⟨ws,m,σ,?_,h⟩
     simp only[SV.er,SC.er,mq,bm,List.length_map,w1,w2,and_self,if_true,Bool.true_and,adj ts ws hs]
    ·rw[eZ] at h
     obtain⟨_,hf,h⟩:=h
     obtain⟨rfl,hlen⟩:=O9 hf
     replace hlen:len=zs.length:=hlen
     subst hlen
     have Cm:List.take zs.length (List.map (Ty.aI ts) zs)=List.map (Ty.aI ts) zs:=by
      rw[List.take_of_length_le];simp
     cases m<;>cases m'<;>first
      |(cases h;done)
      |exact⟨zs,_,σ.del b,by simp[SV.er,SC.er,mq,bm,ah.Jz],h⟩
   ·cases h
  ·cases h
 ·cases h
def SC.ZX:SC->Bool
 |.fn _ _=>false
 |.bq=>false
 |_=>true
def Av:List SV->Option (List SC)
 |[]=>some []
 |.one c::vs=>match c.ZX,Av vs with
  |true,some cs=>some (c::cs)
  |_,_=>none
 |_::_=>none
theorem adM:∀{vs:List SV} {cs:List SC},Av vs=some cs->
  (vs.map SV.er).mapM (fun v=>match v with|.one c=>if c.lO=true then none else some c|_=>none)=some (cs.map SC.er)/\(cs.map SC.er).all aj.FX=true
 |[],cs,h=>by simp only[Av] at h;injection h with h;subst h;exact⟨rfl,rfl⟩
 |.one c::vs,cs,h=>by
  simp only[Av] at h
  split at h
  ·rename_i cs' e1 e2
   injection h with h
   subst h
   obtain⟨i1,i2⟩:=adM e2
   have hc:c.er.lO=false/\c.er.FX=true:=by cases c<;>first|exact⟨rfl,rfl⟩|(simp[SC.ZX] at e1)
   refine⟨?_,by simp[hc.2];simpa using i2⟩
   simp only[List.map_cons,List.mapM_cons,SV.er,hc.1]
   rw[i1]
   rfl
  ·cases h
 |.agg _::_,cs,h=>by simp[Av] at h
 |.br _::_,cs,h=>by simp[Av] at h
end
end Go.Am
