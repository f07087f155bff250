/- S3: typed functions, and one operation of the typed evaluator. No condition. -/
import Derived.Test.YtbgmbplglejidaaS2
set_option linter.unusedVariables false
set_option linter.unusedSimpArgs false
namespace Go.Am
def aQ:List (List Ty)->Type
 |[]=>Unit
 |ts::l=>match l with
  |[]=>Ty.DL ts
  |us::l'=>Ty.DL ts×aQ (us::l')
abbrev ak:=List (K×List Ty)
abbrev ak.aP (s:ak):List (List Ty):=s.map (·.2)
def c9:(as:ak)->aQ as.aP->List Dv
 |[],_=>[]
 |[a],x=>[(a.1,Ty.aH a.2 x)]
 |a::b::as,x=>(a.1,Ty.aH a.2 x.1)::c9 (b::as) x.2
def kC:(as:ak)->aQ as.aP->List bT
 |[],_=>[]
 |[a],x=>[(a.1,Ty.gT a.2 x)]
 |a::b::as,x=>(a.1,Ty.gT a.2 x.1)::kC (b::as) x.2
theorem vI:∀(as:ak) (x:aQ as.aP),(kC as x).map bT.er=c9 as x
 |[],_=>rfl
 |[a],x=>congrArg (fun l=>[((a.1,l):Dv)]) (Ty.pS a.2 x)
 |a::b::as,x=>by
  have:=vI (b::as) x.2
  simp only[kC,c9,List.map_cons,bT.er,Ty.pS,this]
def K.beq:K->K->Bool
 |.one,.one=>true
 |.agg,.agg=>true
 |.ptr,.ptr=>true
 |_,_=>false
theorem K.beq_eq {a b:K} (h:K.beq a b=true):a=b:=by cases a<;>cases b<;>first|rfl|cases h
def HO (ts:List Ty):(l:List (List Ty))->Ty.DL ts->aQ l->aQ (ts::l)
 |[],x,_=>x
 |_::_,x,y=>(x,y)
theorem Xq (a:K×List Ty):∀(as:ak) (x:Ty.DL a.2) (y:aQ (ak.aP as)),c9 (a::as) (HO a.2 (ak.aP as) x y)=(a.1,Ty.aH a.2 x)::c9 as y
 |[],_,_=>rfl
 |_::_,_,_=>rfl
def n8:(as:ak)->List bT->Option (aQ as.aP)
 |[],[]=>some ()
 |a::as,d::ds=>e7 (K.beq a.1 d.1) (match qy a.2 d.2,n8 as ds with
  |some x,some y=>some (HO a.2 (ak.aP as) x y)
  |_,_=>none)
 |_,_=>none
theorem s8:∀{as:ak} {ds:List bT} {x:aQ as.aP},n8 as ds=some x->ds.map bT.er=c9 as x
 |[],[],x,h=>rfl
 |a::as,d::ds,x,h=>by
  simp only[n8] at h
  have h1:=(cm h).1;replace h2:=(cm h).2
  split at h2
  ·rename_i y z e1 e2
   injection h2 with h2
   subst h2
   rw[Xq,List.map_cons,s8 e2,bT.er,<-K.beq_eq h1,<-wH e1]
  ·cases h2
 |[],_::_,x,h=>by simp[n8] at h
 |a::as,[],x,h=>by simp[n8] at h
mutual
theorem Ty.Xu:∀(t:Ty) (x y:t.D),t.er x=t.er y->x=y
 |.int k,x,y,h=>by simp only[Ty.er] at h;injection h
 |.bool,x,y,h=>by simp only[Ty.er] at h;injection h
 |.list ts,x,y,h=>by simp only[Ty.er] at h;injection h with _ h;exact Ty.Xt ts x y h
theorem Ty.Xt:∀(ts:List Ty) (xs ys:List (Ty.DL ts)),List.map (Ty.aH ts) xs=List.map (Ty.aH ts) ys->xs=ys
 |ts,[],[],h=>rfl
 |ts,x::xs,y::ys,h=>by
  simp only[List.map_cons,List.cons.injEq] at h
  rw[Ty.Ib ts x y h.1,Ty.Xt ts xs ys h.2]
 |ts,[],_::_,h=>by simp at h
 |ts,_::_,[],h=>by simp at h
theorem Ty.Ib:∀(ts:List Ty) (x y:Ty.DL ts),Ty.aH ts x=Ty.aH ts y->x=y
 |[],x,y,h=>rfl
 |[t],x,y,h=>by simp only[Ty.aH,List.cons.injEq,and_true] at h;exact Ty.Xu t x y h
 |t::u::ts,x,y,h=>by
  simp only[Ty.aH,List.cons.injEq] at h
  exact Prod.ext (Ty.Xu t x.1 y.1 h.1) (Ty.Ib (u::ts) x.2 y.2 h.2)
end
theorem Xr:∀(as:ak) (x y:aQ as.aP),c9 as x=c9 as y->x=y
 |[],x,y,h=>rfl
 |[a],x,y,h=>by simp[c9] at h;exact Ty.Ib a.2 x y h
 |a::b::as,x,y,h=>by
  simp only[c9,List.cons.injEq,Prod.mk.injEq,true_and] at h
  exact Prod.ext (Ty.Ib a.2 x.1 y.1 h.1) (Xr (b::as) x.2 y.2 h.2)
structure ar where
 id:FuncId
 args:ak
 mu:aN
 aA:ak
 F:aQ args.aP->Option (aQ aA.aP)
open Classical in
noncomputable def ar.M (fn:ar) (ds:List Dv):Option (List Dv):=
 if h:∃x,c9 fn.args x=ds then(fn.F h.choose).map (c9 fn.aA) else none
theorem ar.xB (fn:ar) (x:aQ fn.args.aP):fn.M (c9 fn.args x)=(fn.F x).map (c9 fn.aA):=by
 have h:∃y,c9 fn.args y=c9 fn.args x:=⟨x,rfl⟩
 unfold ar.M
 rw[dif_pos h,Xr _ _ _ h.choose_spec]
theorem ar.F8 {fn:ar} {ds rs:List Dv} (h:fn.M ds=some rs):∃x y,ds=c9 fn.args x/\fn.F x=some y/\rs=c9 fn.aA y:=by
 unfold ar.M at h
 split at h
 ·rename_i e
  rw[Option.map_eq_some_iff] at h
  obtain⟨y,h1,h2⟩:=h
  exact⟨_,y,e.choose_spec.symm,h1,h2.symm⟩
 ·cases h
def aN.gL:aN->Nat
 |[]=>0
 |s::l=>(s.filter Option.isSome).length+aN.gL l
def w9 (k:Nat) (rs:List Dv):List Dv×List C:=(rs.take k,(rs.drop k).flatMap (·.2))
noncomputable def ar.MM (fn:ar) (ds:List Dv):Option (List Dv×List C):=(fn.M ds).map (w9 (fn.aA.length - fn.mu.gL))
def aN.fO:aN->Nat
 |[]=>0
 |[[some .aD]]=>2
 |[some .aD,some .aD]::_=>3
 |_=>1
def AS:ak->Bool
 |[]=>false
 |(.ptr,_)::_=>true
 |_::as=>AS as
def pt (as:ak):Nat:=match AS as with
 |true=>1
 |false=>0
noncomputable def ar.MV (fn:ar) (ds:List Dv):Option (List Dv×List C):=(fn.M ds).map (w9 (fn.aA.length - pt fn.args))
def apA:List Dv->Option (Nat×Nat)
 |[(.one,[.int _ a]),(.one,[.int _ b])]=>some (a.toNat,(b - a).toNat)
 |_=>none
noncomputable def ar.MW (fn:ar) (ds:List Dv):Option (Nat×Nat):=(fn.M ds).bind apA
noncomputable def cL (T:List ar):aO:=
 ⟨T.filterMap fun fn=>match fn.mu.fO with|0=>some (fn.id,fn.M)|_=>none,T.filterMap fun fn=>match fn.mu.fO with|1=>some (fn.id,fn.mu,fn.MM)|_=>none,
  T.filterMap fun fn=>match fn.mu.fO with|2=>some (fn.id,fn.MV)|_=>none,T.filterMap fun fn=>match fn.mu.fO with|3=>some (fn.id,fn.mu.tl,fn.MW)|_=>none⟩
def ar.find:List ar->FuncId->Option ar
 |[],_=>none
 |fn::l,f=>match Nat.beq f fn.id with
  |true=>some fn
  |false=>ar.find l f
theorem ar.MF:∀{T:List ar} {f:FuncId} {fn:ar},ar.find T f=some fn->fn.mu.fO=0->aO.find (cL T).pure f=some fn.M
 |[],f,fn,h,_=>by simp[ar.find] at h
 |g::l,f,fn,h,hm=>by
  simp only[ar.find] at h
  split at h
  ·rename_i e
   injection h with h
   subst h
   simp only[cL,List.filterMap_cons,hm,aO.find]
   rw[if_pos (Nat.eq_of_beq_eq_true e)]
  ·rename_i e
   have ih:aO.find (cL l).pure f=some fn.M:=ar.MF h hm
   simp only[cL,List.filterMap_cons] at ih⊢
   by_cases hg:g.mu.fO=0
   ·simp only[hg,aO.find]
    rw[if_neg (fun he=>by rw[he,Nat.beq_refl] at e;cases e)]
    exact ih
   ·split
    ·exact ih
    ·rename_i z hz
     split at hz
     ·rename_i h0;exact absurd h0 hg
     ·cases hz
theorem ar.XS:∀{T:List ar} {f:FuncId} {fn:ar},ar.find T f=some fn->fn.mu.fO=1->aO.rl (cL T).BN f=some (fn.mu,fn.MM)
 |[],f,fn,h,_=>by simp[ar.find] at h
 |g::l,f,fn,h,hm=>by
  simp only[ar.find] at h
  split at h
  ·rename_i e
   injection h with h
   subst h
   simp only[cL,List.filterMap_cons,hm,aO.rl]
   rw[if_pos (Nat.eq_of_beq_eq_true e)]
  ·rename_i e
   have ih:aO.rl (cL l).BN f=some (fn.mu,fn.MM):=ar.XS h hm
   simp only[cL,List.filterMap_cons] at ih⊢
   by_cases hg:g.mu.fO=1
   ·simp only[hg,aO.rl]
    rw[if_neg (fun he=>by rw[he,Nat.beq_refl] at e;cases e)]
    exact ih
   ·split
    ·exact ih
    ·rename_i z hz
     split at hz
     ·rename_i h0;exact absurd h0 hg
     ·cases hz
theorem ar.XT:∀{T:List ar} {f:FuncId} {fn:ar},ar.find T f=some fn->fn.mu.fO=2->aO.j8 (cL T).vs f=some fn.MV
 |[],f,fn,h,_=>by simp[ar.find] at h
 |g::l,f,fn,h,hm=>by
  simp only[ar.find] at h
  split at h
  ·rename_i e
   injection h with h
   subst h
   simp only[cL,List.filterMap_cons,hm,aO.j8]
   rw[if_pos (Nat.eq_of_beq_eq_true e)]
  ·rename_i e
   have ih:aO.j8 (cL l).vs f=some fn.MV:=ar.XT h hm
   simp only[cL,List.filterMap_cons] at ih⊢
   by_cases hg:g.mu.fO=2
   ·simp only[hg,aO.j8]
    rw[if_neg (fun he=>by rw[he,Nat.beq_refl] at e;cases e)]
    exact ih
   ·split
    ·exact ih
    ·rename_i z hz
     split at hz
     ·rename_i h0;exact absurd h0 hg
     ·cases hz
def u5 (m:Mode) (σ:af):Nat->List TD->Option (List SC×Nat×af)
 |nm,[]=>some ([],nm,σ)
 |nm,⟨t,x⟩::cs=>match t,x with
  |.list ts,xs=>match σ.ins nm (.row true m ts xs) with
   |some σ1=>match u5 m σ1 (nm+1) cs with
    |some (l,fo,σ2)=>some (.sl nm ts.length 0 (J (α:=Ty.DL ts) xs)::l,fo,σ2)
    |none=>none
   |none=>none
  |.int k,x=>match u5 m σ nm cs with
   |some (l,fo,σ2)=>some (.v (.int k) x::l,fo,σ2)
   |none=>none
  |.bool,x=>match u5 m σ nm cs with
   |some (l,fo,σ2)=>some (.v .bool x::l,fo,σ2)
   |none=>none
theorem J8 (m:Mode):∀{cs:List TD} {σ σ1:af} {nm fo:Nat} {l:List SC},u5 m σ nm cs=some (l,fo,σ1)->
  σ.er.imp m nm (cD cs)=some (l.map SC.er,fo,σ1.er)
 |[],σ,σ1,nm,fo,l,h=>by
  simp only[u5] at h
  injection h with h
  injection h with h1 h2
  injection h2 with h2 h3
  subst h1 h2 h3
  rfl
 |⟨.list ts,xs⟩::cs,σ,σ2,nm,fo,l,h=>by
  simp only[u5] at h
  split at h
  ·rename_i σ1 e1
   split at h
   ·rename_i l' Eu gI e2
    injection h with h
    injection h with h1 h2
    injection h2 with h2 h3
    subst h1 h2 h3
    have i1:σ.er.ins nm (.row true m ts.length (List.map (Ty.aH ts) xs))=some σ1.er:=af.sy e1
    have i2:=J8 m e2
    simp only[cD] at i2
    simp only[cD,List.map_cons,Ty.er,St.imp,i1,i2,SC.er]
    exact congrArg (fun q=>some (ah.sl nm ts.length 0 q::List.map SC.er l',Eu,gI.er)) (List.length_map (Ty.aH ts))
   ·cases h
  ·cases h
 |⟨.int k,x⟩::cs,σ,σ2,nm,fo,l,h=>by
  simp only[u5] at h
  split at h
  ·rename_i l' Eu gI e2
   injection h with h
   injection h with h1 h2
   injection h2 with h2 h3
   subst h1 h2 h3
   have i2:=J8 m e2
   simp only[cD] at i2
   simp only[cD,List.map_cons,Ty.er,St.imp,i2,SC.er]
  ·cases h
 |⟨.bool,x⟩::cs,σ,σ2,nm,fo,l,h=>by
  simp only[u5] at h
  split at h
  ·rename_i l' Eu gI e2
   injection h with h
   injection h with h1 h2
   injection h2 with h2 h3
   subst h1 h2 h3
   have i2:=J8 m e2
   simp only[cD] at i2
   simp only[cD,List.map_cons,Ty.er,St.imp,i2,SC.er]
  ·cases h
def K.isAgg:K->Bool
 |.agg=>true
 |_=>false
def K.sY:K->Bool
 |.ptr=>true
 |_=>false
def Cb (m:Mode) (σ:af):Nat->List bT->Option (List (Bool×List SC)×af)
 |_,[]=>some ([],σ)
 |nm,(k,cs)::ds=>match k.sY with
  |true=>none
  |false=>match u5 m σ nm cs with
   |some (l,fo,σ1)=>match Cb m σ1 fo ds with
    |some (ls,σ2)=>some ((k.isAgg,l)::ls,σ2)
    |none=>none
   |none=>none
theorem Um (m:Mode):∀{ds:List bT} {σ σ1:af} {nm:Nat} {ls:List (Bool×List SC)},Cb m σ nm ds=some (ls,σ1)->
  σ.er.jC m nm (ds.map bT.er)=some (ls.map (fun x=>(x.1,x.2.map SC.er)),σ1.er)
 |[],σ,σ1,nm,ls,h=>by
  simp only[Cb] at h
  injection h with h
  injection h with h1 h2
  subst h1 h2
  rfl
 |(k,cs)::ds,σ,σ2,nm,ls,h=>by
  simp only[Cb] at h
  split at h
  ·cases h
  ·rename_i hk
   split at h
   ·rename_i l fo σ1 e1
    split at h
    ·rename_i yR gI e2
     injection h with h
     injection h with h1 h2
     subst h1 h2
     have i1:=J8 m e1
     have i2:=Um m e2
     have Zt:σ1.er.jC m fo (List.map bT.er ds)=some (yR.map (fun x=>(x.1,x.2.map SC.er)),gI.er):=i2
     cases k with
     |ptr=>cases hk
     |one=>simp only[List.map_cons,bT.er,St.jC,i1,Zt];rfl
     |agg=>simp only[List.map_cons,bT.er,St.jC,i1,Zt];rfl
    ·cases h
   ·cases h
def Cm:List (Bool×List SC)->SV
 |[(ag,cs)]=>zu ag cs
 |l=>.bn l
theorem Fb (l:List (Bool×List SC)):(Cm l).er=kQ (l.map fun x=>(x.1,x.2.map SC.er)):=by
 match l with
 |[]=>rfl
 |[(ag,cs)]=>exact Cr ag cs
 |_::_::_=>rfl
section
variable {ρ:Type}
def J3 (T:List ar) (m:Mode) (d:Option Nat) (f:FuncId) (as:List SV) (σ:af) (k:af->Option ρ):Option ρ:=
 match ar.find T f with
 |some fn=>match fn.mu.fO with
  |0=>Fj σ.h as fun ds=>match n8 fn.args ds with
   |some x=>(fn.F x).aa fun rs=>match Cb m σ (yW d) (kC fn.aA rs) with
    |some (ls,σ1)=>k (σ1.put d (Cm ls))
    |none=>none
   |none=>none
  |_=>none
 |none=>none
theorem abK {T:List ar} {m:Mode} {d:Option Nat} {f:FuncId} {as:List SV} {σ:af} {k:af->Option ρ} {r:ρ} (h:J3 T m d f as σ k=some r):
  ∃σ1:af,rf (cL T) m d f (as.map SV.er) σ.er=some σ1.er/\k σ1=some r:=by
 unfold J3 at h
 split at h
 ·rename_i fn hf
  split at h
  ·rename_i v8
   obtain⟨ds,h1,h2⟩:=U5 h
   split at h2
   ·rename_i x hx
    rw[eP] at h2
    obtain⟨rs,hF,h2⟩:=h2
    split at h2
    ·rename_i ls σ1 hs
     refine⟨_,?_,h2⟩
     have e:=Um m hs
     rw[vI] at e
     have hv:kx σ.er.h (as.map SV.er)=some (ds.map bT.er):=h1
     simp only[rf,hv,ar.MF hf v8,s8 hx,ar.xB,hF,Option.map_some,e,af.dj,Fb]
    ·cases h2
   ·cases h2
  ·cases h
 ·cases h
def zh:List bT->Option (List (Bool×List SC))
 |[]=>some []
 |(k,cs)::ds=>match k.sY with
  |true=>none
  |false=>match zh ds with
   |some ls=>some ((k.isAgg,cs.map fun x=>SC.v x.1 x.2)::ls)
   |none=>none
theorem J2:∀{ds:List bT} {ls:List (Bool×List SC)},zh ds=some ls->gx (ds.map bT.er)=some (ls.map fun x=>(x.1,x.2.map SC.er))
 |[],ls,h=>by simp only[zh] at h;injection h with h;subst h;rfl
 |(k,cs)::ds,ls,h=>by
  simp only[zh] at h
  split at h
  ·cases h
  ·rename_i hk
   split at h
   ·rename_i yR e
    injection h with h
    subst h
    have i2:=J2 e
    have ec:(cD cs).map ah.c=(cs.map fun x=>SC.v x.1 x.2).map SC.er:=by simp[cD,SC.er]
    cases k with
    |ptr=>cases hk
    |one=>simp only[List.map_cons,bT.er,gx];rw[show gx (List.map bT.er ds)=_ from i2];simp only;rw[ec];rfl
    |agg=>simp only[List.map_cons,bT.er,gx];rw[show gx (List.map bT.er ds)=_ from i2];simp only;rw[ec];rfl
   ·cases h
def Ue (T:List ar) (d:Option Nat) (f:FuncId) (as:List SV) (σ:af) (k:af->Option ρ):Option ρ:=
 match ar.find T f with
 |some fn=>match fn.mu.fO with
  |0=>Fj σ.h as fun ds=>match n8 fn.args ds with
   |some x=>(fn.F x).aa fun rs=>match zh (kC fn.aA rs) with
    |some ls=>k (σ.put d (Cm ls))
    |none=>none
   |none=>none
  |_=>none
 |none=>none
theorem aoc {T:List ar} {d:Option Nat} {f:FuncId} {as:List SV} {σ:af} {k:af->Option ρ} {r:ρ} (h:Ue T d f as σ k=some r):
  ∃v:SV,tF (cL T) f (as.map SV.er) σ.er.h=some v.er/\k (σ.put d v)=some r:=by
 unfold Ue at h
 split at h
 ·rename_i fn hf
  split at h
  ·rename_i v8
   obtain⟨ds,h1,h2⟩:=U5 h
   split at h2
   ·rename_i x hx
    rw[eP] at h2
    obtain⟨rs,hF,h2⟩:=h2
    split at h2
    ·rename_i ls hs
     refine⟨_,?_,h2⟩
     have e:=J2 hs
     rw[vI] at e
     have hv:kx σ.er.h (as.map SV.er)=some (ds.map bT.er):=h1
     simp only[tF,hv,ar.MF hf v8,s8 hx,ar.xB,hF,Option.map_some,e,Fb]
    ·cases h2
   ·cases h2
  ·cases h
 ·cases h
def Ty.su:Ty->Bool
 |.list ts=>Ty.fA ts
 |_=>true
def Vi:Mode->List Ty->Bool
 |.ae,ts=>Ty.fA ts
 |.live,ts=>ts.all Ty.su
 |.aD,_=>false
theorem zf (ts:List Ty) (xs:List (Ty.DL ts)) (h:Ty.fA ts=true):fZ (List.map (Ty.aH ts) xs)=true:=by
 simp only[fZ,List.all_eq_true,List.mem_map]
 rintro e ⟨x,_,rfl⟩
 rw[Ty.J0];exact h
theorem Xb (t:Ty) (x:t.D) (h:Ty.su t=true):C.su (t.er x)=true:=by
 cases t with
 |int k=>rfl
 |bool=>rfl
 |list ts=>exact zf ts x h
theorem Xa:∀(ts:List Ty) (x:Ty.DL ts),ts.all Ty.su=true->(Ty.aH ts x).all C.su=true
 |[],_,_=>rfl
 |[t],x,h=>by
  simp only[List.all_cons,List.all_nil,Bool.and_true] at h
  simp only[Ty.aH,List.all_cons,List.all_nil,Bool.and_true]
  exact Xb t x h
 |t::u::ts,x,h=>by
  simp only[List.all_cons (a:=t),Bool.and_eq_true] at h
  simp only[Ty.aH,List.all_cons (a:=Ty.er t x.1),Bool.and_eq_true]
  exact⟨Xb t x.1 h.1,Xa (u::ts) x.2 h.2⟩
theorem XX (m:Mode) (ts:List Ty) (xs:List (Ty.DL ts)) (h:Vi m ts=true):sB m (List.map (Ty.aH ts) xs)=true:=by
 cases m with
 |aD=>cases h
 |ae=>exact zf ts xs h
 |live=>
  simp only[sB,List.all_eq_true,List.mem_map]
  rintro e ⟨x,_,rfl⟩
  have:=Xa ts x h
  simpa[List.all_eq_true] using this
def Mode.Pl:Mode->Bool
 |.live=>true
 |_=>false
def Mode.ZG:Mode->Bool
 |.ae=>true
 |_=>false
def Uz (h:Nat->Option SB) (md:Mode) (c:SC) (k:cM->(t:Ty)->t.D->Option ρ):Option ρ:=
 match c with
 |.nil ts=>match ts with
  |[]=>none
  |t::us=>e7 md.own (k (.nil (us.length+1)) (.list (t::us)) ([]:List (Ty.DL (t::us))))
 |.sl n sz lo len=>match h n with
  |some (.row _ m ts xs)=>e7 (m.own&&((!md.Pl||m.Pl)&&Vi md ts)) (cJ ts.length sz ((ai lo len (J xs)).aa fun _=>k (.row n) (.list ts) xs))
  |_=>none
 |.bz n kk az off sz len=>match h n with
  |some (.row _ .live ts xs)=>e7 md.ZG (cJ ts.length az ((dv xs kk).aa fun e=>match(Ty.gT ts e)[off]? with
   |some ⟨.list us,ys⟩=>e7 (Ty.fA us) (k (.nest n kk off) (.list us) ys)
   |_=>none))
  |_=>none
 |_=>none
theorem aoD {h:Nat->Option SB} {md:Mode} {c:SC} {k:cM->(t:Ty)->t.D->Option ρ} {r:ρ} (hx:Uz h md c k=some r):
  ∃(it:cM) (t:Ty) (x:t.D),rR (cU h) md c.er=some (it,t.er x)/\k it t x=some r:=by
 unfold Uz at hx
 split at hx
 ·split at hx
  ·cases hx
  ·rename_i t us
   have hm:=(cm hx).1;replace hx:=(cm hx).2
   refine⟨_,.list (t::us),[],?_,hx⟩
   have bJ:md≠ .aD:=by rintro rfl;cases hm
   simp[SC.er,rR,Ty.er,bJ]
 ·rename_i n sz lo len
  split at hx
  ·rename_i gr m ts xs hn
   have hm:=(cm hx).1;replace hx:=(cm hx).2
   have bq:=(bg hx).1;replace hx:=(bg hx).2;subst bq
   rw[eP] at hx
   obtain⟨_,hf,hx⟩:=hx
   have Ob:lo=0/\len=J xs:=by
    unfold ai at hf
    split at hf
    ·assumption
    ·cases hf
   obtain⟨rfl,rfl⟩:=Ob
   simp only[Bool.and_eq_true] at hm
   have bJ:m≠ .aD:=by rintro rfl;cases hm.1
   have sI:md=.live->m=.live:=by
    rintro rfl
    have:=hm.2.1
    cases m<;>first|rfl|(simp[Mode.Pl] at this)
   refine⟨_,.list ts,xs,?_,hx⟩
   simp only[SC.er,rR,cU,hn,Option.map_some,SB.er,Ty.er]
   rw[if_pos ⟨bJ,sI,trivial,trivial,(List.length_map (Ty.aH ts)).symm,XX md ts xs hm.2.2⟩]
  ·cases hx
 ·rename_i n kk az off sz len
  split at hx
  ·rename_i gr ts xs hn
   have hm:=(cm hx).1;replace hx:=(cm hx).2
   have bq:=(bg hx).1;replace hx:=(bg hx).2;subst bq
   rw[eP] at hx
   obtain⟨e,he,hx⟩:=hx
   replace he:xs[kk]? =some e:=he
   split at hx
   ·rename_i us ys hd
    have hs:=(cm hx).1;replace hx:=(cm hx).2
    refine⟨_,.list us,ys,?_,hx⟩
    have IQ:md=.ae:=by cases md<;>first|rfl|(simp[Mode.ZG] at hm)
    have ni:=Mt hd
    simp only[SC.er,rR,cU,hn,Option.map_some,SB.er,List.getElem?_map,he,Option.bind_some,ni,Ty.er,IQ,and_self,if_true]
    rw[if_pos (zf us ys hs)]
   ·cases hx
  ·cases hx
 ·cases hx
def SC.nm:SC->List Nat
 |.sl n _ _ _=>[n]
 |.bz n _ _ _ _ _=>[n]
 |_=>[]
theorem SC.alN (c:SC):c.er.dA.toList=c.nm:=by cases c<;>rfl
def Cf:List (Option Mode)->List SC->List Nat
 |some _::fs,c::cs=>c.nm++Cf fs cs
 |none::fs,_::cs=>Cf fs cs
 |_,_=>[]
theorem UB:∀(fs:List (Option Mode)) (cs:List SC),mR fs (cs.map SC.er)=Cf fs cs
 |some m::fs,c::cs=>by simp only[List.map_cons,mR,Cf,SC.alN,UB fs cs]
 |none::fs,c::cs=>by simp only[List.map_cons,mR,Cf,UB fs cs]
 |[],cs=>by cases cs<;>rfl
 |some m::fs,[]=>rfl
 |none::fs,[]=>rfl
def Cg:aN->List (Bool×List SC)->List Nat
 |s::sig,a::as=>Cf s a.2++Cg sig as
 |_,_=>[]
theorem UA:∀(sig:aN) (as:List (Bool×List SC)),jV sig (as.map fun x=>(x.1,x.2.map SC.er))=Cg sig as
 |s::sig,a::as=>by simp only[List.map_cons,jV,Cg,UB,UA sig as]
 |[],as=>by cases as<;>rfl
 |s::sig,[]=>rfl
def J7 (h:Nat->Option SB) (ns:List Nat):Nat->Option SB:=fun n=>match ns.contains n with|true=>none|false=>h n
theorem abQ (h:Nat->Option SB) (ns:List Nat):cU (J7 h ns)=dN (cU h) ns:=by
 funext n
 simp only[cU,J7,dN]
 cases hc:ns.contains n<;>simp[hc]
def u7 (h h0:Nat->Option SB):List (Option Mode)->List SC->(List TD->List (cM×Mode)->Option ρ)->Option ρ
 |[],cs,k=>zq h0 cs fun l=>k l []
 |none::fs,c::cs,k=>xd h0 c fun t x=>u7 h h0 fs cs fun l its=>k (⟨t,x⟩::l) its
 |some md::fs,c::cs,k=>Uz h md c fun it t x=>u7 h h0 fs cs fun l its=>k (⟨t,x⟩::l) ((it,md)::its)
 |_::_,[],_=>none
theorem Uy {h h0:Nat->Option SB}:∀{fs:List (Option Mode)} {cs:List SC} {k:List TD->List (cM×Mode)->Option ρ} {r:ρ},u7 h h0 fs cs k=some r->
  ∃l its,jE (cU h) (cU h0) fs (cs.map SC.er)=some (cD l,its)/\k l its=some r
 |[],cs,k,r,hx=>by
  simp only[u7] at hx
  obtain⟨l,h1,h2⟩:=Fk hx
  exact⟨l,[],by simp only[jE,h1],h2⟩
 |none::fs,c::cs,k,r,hx=>by
  simp only[u7] at hx
  obtain⟨t,x,h1,h2⟩:=Cq hx
  obtain⟨l,its,h3,h4⟩:=Uy h2
  exact⟨⟨t,x⟩::l,its,by simp only[List.map_cons,jE,h1,h3,cD],h4⟩
 |some md::fs,c::cs,k,r,hx=>by
  simp only[u7] at hx
  obtain⟨it,t,x,h1,h2⟩:=aoD hx
  obtain⟨l,its,h3,h4⟩:=Uy h2
  exact⟨⟨t,x⟩::l,(it,md)::its,by simp only[List.map_cons,jE,h1,h3,cD],h4⟩
 |none::fs,[],k,r,hx=>by simp[u7] at hx
 |some md::fs,[],k,r,hx=>by simp[u7] at hx
def Jh:Bool->K
 |true=>.agg
 |false=>.one
def E6 (h h0:Nat->Option SB):aN->List (Bool×List SC)->(List bT->List (cM×Mode)->Option ρ)->Option ρ
 |_,[],k=>k [] []
 |sig,(ag,cs)::as,k=>u7 h h0 sig.hd cs fun l its=>E6 h h0 sig.tl as fun ds uI=>k ((Jh ag,l)::ds) (its++uI)
theorem UC {h h0:Nat->Option SB}:∀{as:List (Bool×List SC)} {sig:aN} {k:List bT->List (cM×Mode)->Option ρ} {r:ρ},E6 h h0 sig as k=some r->
  ∃ds its,kO (cU h) (cU h0) sig (as.map fun x=>(x.1,x.2.map SC.er))=some (ds.map bT.er,its)/\k ds its=some r
 |[],sig,k,r,hx=>⟨[],[],by simp only[List.map_nil,kO],hx⟩
 |(ag,cs)::as,sig,k,r,hx=>by
  simp only[E6] at hx
  obtain⟨l,its,h1,h2⟩:=Uy hx
  obtain⟨ds,uI,h3,h4⟩:=UC h2
  refine⟨_,_,?_,h4⟩
  simp only[List.map_cons,kO,h1,h3,bT.er]
  cases ag<;>rfl
def Cc:List SV->Option (List (Bool×List SC))
 |[]=>some []
 |v::vs=>match v.cells?,Cc vs with
  |some x,some xs=>some (x::xs)
  |_,_=>none
theorem Uv:∀{as:List SV} {dm:List (Bool×List SC)},Cc as=some dm->pj (as.map SV.er)=some (dm.map fun x=>(x.1,x.2.map SC.er))
 |[],dm,h=>by simp only[Cc] at h;injection h with h;subst h;rfl
 |v::vs,dm,h=>by
  simp only[Cc] at h
  split at h
  ·rename_i x xs e1 e2
   injection h with h
   subst h
   obtain⟨b,cs⟩:=x
   simp only[List.map_cons,pj,SV.lx e1,Uv e2]
  ·cases h
def J4 (ts:List Ty) (e:Ty.DL ts) (off:Nat) (x:TD):Option (Ty.DL ts):=qy ts ((Ty.gT ts e).set off x)
theorem abM {ts:List Ty} {e e':Ty.DL ts} {off:Nat} {x:TD} (h:J4 ts e off x=some e'):Ty.aH ts e'=(Ty.aH ts e).set off (x.1.er x.2):=by
 have:=wH h
 rw[this,cD,List.map_set,<-Ty.pS ts e]
 rfl
def UJ (σ:af) (it:cM) (x:TD) (k:af->Option ρ):Option ρ:=
 match it with
 |.nil _=>k σ
 |.row n=>match x with
  |⟨.list ts,xs⟩=>match σ.h n with
   |some (.row gr m us _)=>cJ us.length ts.length (k (σ.dn n (.row gr m ts xs)))
   |_=>none
  |_=>none
 |.nest n kk off=>match σ.h n with
  |some (.row gr m us xs)=>(dv xs kk).aa fun e=>match J4 us e off x with
   |some e'=>k (σ.dn n (.row gr m us (bW xs kk e')))
   |none=>none
  |_=>none
theorem aoO {σ:af} {it:cM} {x:TD} {k:af->Option ρ} {r:ρ} (hx:UJ σ it x k=some r):∃σ1,σ.er.nr it (x.1.er x.2)=some σ1.er/\k σ1=some r:=by
 unfold UJ at hx
 split at hx
 ·exact⟨σ,rfl,hx⟩
 ·rename_i n
  split at hx
  ·rename_i ts xs
   split at hx
   ·rename_i gr m us ys hn
    have bq:=(bg hx).1;replace hx:=(bg hx).2
    refine⟨_,?_,hx⟩
    have bj:σ.er.h n=some (.row gr m us.length (List.map (Ty.aH us) ys)):=by simp[af.er,cU,hn,SB.er]
    simp only[St.nr,Ty.er,bj,bq,if_true,af.oI,SB.er]
   ·cases hx
  ·cases hx
 ·rename_i n kk off
  split at hx
  ·rename_i gr m us xs hn
   rw[eP] at hx
   obtain⟨e,he,hx⟩:=hx
   replace he:xs[kk]? =some e:=he
   split at hx
   ·rename_i e' hs
    refine⟨_,?_,hx⟩
    have bj:σ.er.h n=some (.row gr m us.length (List.map (Ty.aH us) xs)):=by simp[af.er,cU,hn,SB.er]
    simp only[St.nr,bj,List.getElem?_map,he,Option.map_some,af.oI,SB.er,bW,List.map_set,abM hs]
   ·cases hx
  ·cases hx
def Cl (σ:af):List (cM×Mode)->List TD->(af->Option ρ)->Option ρ
 |[],[],k=>k σ
 |it::its,x::xs,k=>UJ σ it.1 x fun σ1=>Cl σ1 its xs k
 |_,_,_=>none
theorem acm:∀{its:List (cM×Mode)} {xs:List TD} {σ:af} {k:af->Option ρ} {r:ρ},Cl σ its xs k=some r->∃σ1,σ.er.pC its (cD xs)=some σ1.er/\k σ1=some r
 |[],[],σ,k,r,hx=>⟨σ,rfl,hx⟩
 |it::its,x::xs,σ,k,r,hx=>by
  simp only[Cl] at hx
  obtain⟨σ1,h1,h2⟩:=aoO hx
  obtain⟨σ2,h3,h4⟩:=acm h2
  refine⟨σ2,?_,h4⟩
  simp only[cD] at h3
  simp only[cD,List.map_cons,St.pC,h1,h3]
 |[],_::_,σ,k,r,hx=>by simp[Cl] at hx
 |_::_,[],σ,k,r,hx=>by simp[Cl] at hx
def JA:List Nat->Bool
 |[]=>true
 |n::l=> !(l.contains n)&&JA l
theorem aaA:∀{l:List Nat},JA l=true->l.Nodup
 |[],_=>List.nodup_nil
 |n::l,h=>by
  simp only[JA,Bool.and_eq_true,Bool.not_eq_true'] at h
  rw[List.nodup_cons]
  refine⟨fun hm=>?_,aaA h.2⟩
  have:l.contains n=true:=by simpa using hm
  rw[this] at h
  cases h.1
def Uf (T:List ar) (m:Mode) (d:Option Nat) (f:FuncId) (as:List SV) (σ:af) (k:af->Option ρ):Option ρ:=
 match ar.find T f with
 |some fn=>match fn.mu.fO with
  |1=>match Cc as with
   |some dm=>e7 (JA (Cg fn.mu dm)) (E6 σ.h (J7 σ.h (Cg fn.mu dm)) fn.mu dm fun ds its=>match n8 fn.args ds with
    |some x=>(fn.F x).aa fun y=>Cl σ its (((kC fn.aA y).drop (fn.aA.length - fn.mu.gL)).flatMap (·.2)) fun σ1=>match Cb m σ1 (yW d) ((kC fn.aA y).take (fn.aA.length - fn.mu.gL)) with
     |some (ls,σ2)=>k (σ2.put d (Cm ls))
     |none=>none
    |none=>none)
   |none=>none
  |_=>none
 |none=>none
theorem E9 (k:Nat) (l:List bT):w9 k (l.map bT.er)=((l.take k).map bT.er,cD ((l.drop k).flatMap (·.2))):=by
 simp only[w9,<-List.map_take,<-List.map_drop]
 congr 1
 induction l.drop k with
 |nil=>rfl
 |cons d l ih=>
  simp only[List.map_cons,List.flatMap_cons,ih,cD,List.map_append,bT.er]
theorem aod {T:List ar} {m:Mode} {d:Option Nat} {f:FuncId} {as:List SV} {σ:af} {k:af->Option ρ} {r:ρ} (h:Uf T m d f as σ k=some r):
  ∃σ1:af,tJ (cL T) m d f (as.map SV.er) σ.er=some σ1.er/\k σ1=some r:=by
 unfold Uf at h
 split at h
 ·rename_i fn hf
  split at h
  ·rename_i v8
   split at h
   ·rename_i dm hc
    have gi:=aaA (cm h).1;replace h:=(cm h).2
    obtain⟨ds,its,h1,h2⟩:=UC h
    split at h2
    ·rename_i x hx
     rw[eP] at h2
     obtain⟨y,hF,h2⟩:=h2
     obtain⟨σ1,h3,h4⟩:=acm h2
     split at h4
     ·rename_i ls σ2 hs
      refine⟨_,?_,h4⟩
      have e:=Um m hs
      have hM:fn.MM (c9 fn.args x)=some (((kC fn.aA y).take (fn.aA.length - fn.mu.gL)).map bT.er,cD (((kC fn.aA y).drop (fn.aA.length - fn.mu.gL)).flatMap (·.2))):=by
       unfold ar.MM
       rw[ar.xB,hF]
       simp only[Option.map_some]
       rw[<-vI,E9]
      have hh:σ.er.h=cU σ.h:=rfl
      rw[abQ] at h1
      simp only[tJ,ar.XS hf v8,Uv hc,UA,if_pos gi,hh,h1,s8 hx,hM,h3,e,af.dj,Fb]
     ·cases h4
    ·cases h2
   ·cases h
  ·cases h
 ·cases h
def w4:List SC->Option (List TD)
 |[]=>some []
 |.v t x::cs=>match w4 cs with
  |some l=>some (⟨t,x⟩::l)
  |none=>none
 |.nil (t::us)::cs=>match w4 cs with
  |some l=>some (⟨.list (t::us),([]:List (Ty.DL (t::us)))⟩::l)
  |none=>none
 |_::_=>none
theorem EY:∀{cs:List SC} {l:List TD},w4 cs=some l->jB (cs.map SC.er)=some (cD l)
 |[],l,h=>by simp only[w4] at h;injection h with h;subst h;rfl
 |c::cs,l,h=>by
  unfold w4 at h
  split at h
  ·rename_i e;cases e
  ·rename_i t x cs' e
   injection e with e1 e2
   subst e1 e2
   split at h
   ·rename_i l' e
    injection h with h
    subst h
    simp only[List.map_cons,jB,SC.er,n5,EY e,cD]
   ·cases h
  ·rename_i t us cs' e
   injection e with e1 e2
   subst e1 e2
   split at h
   ·rename_i l' e
    injection h with h
    subst h
    simp[jB,SC.er,n5,EY e,cD,Ty.er]
   ·cases h
  ·cases h
def JY (h:Nat->Option SB) (n kk off:Nat):Option (List TD):=
 match kk,off with
 |0,0=>match h n with
  |some (.box cs)=>w4 cs
  |_=>none
 |_,_=>none
theorem abE {h:Nat->Option SB} {n kk sz off:Nat} {l:List TD} (e:JY h n kk off=some l):lr (cU h) (SV.er (.one (.ptr n kk sz off)))=some (n,cD l):=by
 unfold JY at e
 split at e
 ·split at e
  ·rename_i cs hn
   simp[SV.er,SC.er,lr,cU,hn,SB.er,EY e]
  ·cases e
 ·cases e
def SV.pB:SV->Option (Nat×Nat×Nat)
 |.one (.ptr n kk _ off)=>some (n,kk,off)
 |_=>none
theorem aa1 {v:SV} (h:v.pB=none) (hh:Nat->Option ao):lr hh v.er=none:=by
 cases v with
 |one c=>cases c<;>first|rfl|(simp[SV.pB] at h)
 |agg cs=>rfl
 |bn xs=>rfl
theorem aa2 {v:SV} {n kk off:Nat} (h:v.pB=some (n,kk,off)):∃sz,v=.one (.ptr n kk sz off):=by
 cases v with
 |one c=>cases c<;>simp[SV.pB] at h;obtain⟨rfl,rfl,rfl⟩:=h;exact⟨_,rfl⟩
 |agg cs=>simp[SV.pB] at h
 |bn xs=>simp[SV.pB] at h
def EV (σ:af):List SV->(List bT->List Nat->af->Option ρ)->Option ρ
 |[],k=>k [] [] σ
 |v::vs,k=>match v.pB with
  |some (n,kk,off)=>match JY σ.h n kk off with
   |some l=>EV σ vs fun ds ns σ1=>k ((.ptr,l)::ds) (n::ns) σ1
   |none=>none
  |none=>match v.cells? with
   |some (ag,cs)=>zo σ cs fun l _ σ1=>EV σ1 vs fun ds ns σ2=>k ((Jh ag,l)::ds) ns σ2
   |none=>none
theorem S5:∀{vs:List SV} {σ:af} {k:List bT->List Nat->af->Option ρ} {r:ρ},EV σ vs k=some r->
  ∃ds ns σ1,σ.er.gK (vs.map SV.er)=some (ds.map bT.er,ns,σ1.er)/\k ds ns σ1=some r
 |[],σ,k,r,h=>⟨[],[],σ,rfl,h⟩
 |v::vs,σ,k,r,h=>by
  simp only[EV] at h
  split at h
  ·rename_i n kk off hv
   obtain⟨sz,rfl⟩:=aa2 hv
   split at h
   ·rename_i l hl
    obtain⟨ds,ns,σ1,h1,h2⟩:=S5 h
    refine⟨_,_,σ1,?_,h2⟩
    have:=abE (sz:=sz) hl
    have hh:σ.er.h=cU σ.h:=rfl
    simp only[List.map_cons,St.gK,hh,this,h1,bT.er]
   ·cases h
  ·rename_i hv
   split at h
   ·rename_i ag cs hc
    obtain⟨l,o,σ1,h1,h2⟩:=Fh h
    obtain⟨ds,ns,σ2,h3,h4⟩:=S5 h2
    refine⟨_,_,σ2,?_,h4⟩
    simp only[List.map_cons,St.gK,aa1 hv,SV.lx hc,h1,h3,bT.er]
    cases ag<;>rfl
   ·cases h
def UI (σ:af) (ns:List Nat) (out:List TD) (k:af->Option ρ):Option ρ:=
 match ns,out with
 |[],[]=>k σ
 |[n],out=>match σ.h n with
  |some (.box cs)=>cJ cs.length out.length (k (σ.dn n (.box (out.map fun x=>.v x.1 x.2))))
  |_=>none
 |_,_=>none
theorem KE (out:List TD):(out.map fun x=>SC.v x.1 x.2).map SC.er=(cD out).map .c:=by simp[cD,SC.er]
theorem aoN {σ:af} {ns:List Nat} {out:List TD} {k:af->Option ρ} {r:ρ} (h:UI σ ns out k=some r):∃σ1,σ.er.qB ns (cD out)=some σ1.er/\k σ1=some r:=by
 unfold UI at h
 split at h
 ·exact⟨σ,rfl,h⟩
 ·rename_i n
  split at h
  ·rename_i cs hn
   have he:=(bg h).1;replace h:=(bg h).2
   refine⟨_,?_,h⟩
   have bj:σ.er.h n=some (.box (cs.map SC.er)):=by simp[af.er,cU,hn,SB.er]
   simp only[St.qB,bj,List.length_map]
   rw[if_pos (by rw[he,cD,List.length_map]),af.oI,SB.er,KE]
  ·cases h
 ·cases h
def bT.pB:List bT->Option (List TD)
 |[(.ptr,cs)]=>some cs
 |_=>none
theorem aog {rs:List bT} {cs:List TD} (h:bT.pB rs=some cs):rs=[(.ptr,cs)]:=by
 unfold bT.pB at h
 split at h
 ·injection h with h;rw[h]
 ·cases h
def S6 (σ:af) (d:Option Nat) (rs:List bT) (k:af->Option ρ):Option ρ:=
 match bT.pB rs with
 |some cs=>match d with
  |some q=>match σ.ins q (.box (cs.map fun x=>.v x.1 x.2)) with
   |some σ1=>k (σ1.put d (.one (.ptr q 0 0 0)))
   |none=>none
  |none=>none
 |none=>match zh rs with
  |some ls=>k (σ.put d (Cm ls))
  |none=>none
theorem an3 {σ:af} {d:Option Nat} {rs:List bT} {k:af->Option ρ} {r:ρ} (h:S6 σ d rs k=some r):∃σ1,pQ σ.er d (rs.map bT.er)=some σ1.er/\k σ1=some r:=by
 unfold S6 at h
 split at h
 ·rename_i cs hp
  have:=aog hp
  subst this
  split at h
  ·rename_i q
   split at h
   ·rename_i σ1 hi
    refine⟨_,?_,h⟩
    have e:=af.sy hi
    rw[SB.er,KE] at e
    simp only[List.map_cons,List.map_nil,bT.er,pQ,e,af.dj]
    rfl
   ·cases h
  ·cases h
 ·split at h
  ·rename_i ls hs
   refine⟨_,?_,h⟩
   have e:=J2 hs
   have hb:pQ σ.er d (rs.map bT.er)=match gx (rs.map bT.er) with
     |some ls=>some (σ.er.put d (kQ ls))
     |none=>none:=by
    unfold pQ
    split
    ·rename_i cs he
     rw[he] at e
     simp[gx] at e
    ·rfl
   rw[hb,e,af.dj,Fb]
  ·cases h
def Ud (T:List ar) (d:Option Nat) (f:FuncId) (as:List SV) (σ:af) (k:af->Option ρ):Option ρ:=
 match ar.find T f with
 |some fn=>match fn.mu.fO with
  |2=>EV σ as fun ds ns σ1=>match n8 fn.args ds with
   |some x=>(fn.F x).aa fun y=>UI σ1 ns (((kC fn.aA y).drop (fn.aA.length - pt fn.args)).flatMap (·.2)) fun σ2=>S6 σ2 d ((kC fn.aA y).take (fn.aA.length - pt fn.args)) k
   |none=>none
  |_=>none
 |none=>none
theorem aob {T:List ar} {d:Option Nat} {f:FuncId} {as:List SV} {σ:af} {k:af->Option ρ} {r:ρ} (h:Ud T d f as σ k=some r):
  ∃σ1:af,pU (cL T) d f (as.map SV.er) σ.er=some σ1.er/\k σ1=some r:=by
 unfold Ud at h
 split at h
 ·rename_i fn hf
  split at h
  ·rename_i v8
   obtain⟨ds,ns,σ1,h1,h2⟩:=S5 h
   split at h2
   ·rename_i x hx
    rw[eP] at h2
    obtain⟨y,hF,h2⟩:=h2
    obtain⟨σ2,h3,h4⟩:=aoN h2
    obtain⟨gI,h5,h6⟩:=an3 h4
    refine⟨gI,?_,h6⟩
    have hM:fn.MV (c9 fn.args x)=some (((kC fn.aA y).take (fn.aA.length - pt fn.args)).map bT.er,cD (((kC fn.aA y).drop (fn.aA.length - pt fn.args)).flatMap (·.2))):=by
     unfold ar.MV
     rw[ar.xB,hF]
     simp only[Option.map_some]
     rw[<-vI,E9]
    simp only[pU,h1,ar.XT hf v8,s8 hx,hM,h3,h5]
   ·cases h2
  ·cases h
 ·cases h
def ar.tN (k:Nat):List ar->FuncId->Option ar
 |[],_=>none
 |fn::l,f=>match Nat.beq f fn.id&&Nat.beq fn.mu.fO k with
  |true=>some fn
  |false=>ar.tN k l f
theorem ar.XQ:∀{T:List ar} {f:FuncId} {fn:ar},ar.tN 2 T f=some fn->aO.j8 (cL T).vs f=some fn.MV
 |[],f,fn,h=>by simp[ar.tN] at h
 |g::l,f,fn,h=>by
  simp only[ar.tN] at h
  split at h
  ·rename_i e
   injection h with h
   subst h
   rw[Bool.and_eq_true] at e
   have hm:=Nat.eq_of_beq_eq_true e.2
   simp only[cL,List.filterMap_cons,hm,aO.j8]
   rw[if_pos (Nat.eq_of_beq_eq_true e.1)]
  ·rename_i e
   have ih:aO.j8 (cL l).vs f=some fn.MV:=ar.XQ h
   simp only[cL,List.filterMap_cons] at ih⊢
   by_cases hg:g.mu.fO=2
   ·simp only[hg,aO.j8]
    rw[if_neg (fun he=>by rw[he,hg,Nat.beq_refl] at e;cases e)]
    exact ih
   ·split
    ·exact ih
    ·rename_i z hz
     split at hz
     ·rename_i h0;exact absurd h0 hg
     ·cases hz
theorem ar.XR:∀{T:List ar} {f:FuncId} {fn:ar},ar.tN 3 T f=some fn->aO.rm (cL T).ws f=some (fn.mu.tl,fn.MW)
 |[],f,fn,h=>by simp[ar.tN] at h
 |g::l,f,fn,h=>by
  simp only[ar.tN] at h
  split at h
  ·rename_i e
   injection h with h
   subst h
   rw[Bool.and_eq_true] at e
   have hm:=Nat.eq_of_beq_eq_true e.2
   simp only[cL,List.filterMap_cons,hm,aO.rm]
   rw[if_pos (Nat.eq_of_beq_eq_true e.1)]
  ·rename_i e
   have ih:aO.rm (cL l).ws f=some (fn.mu.tl,fn.MW):=ar.XR h
   simp only[cL,List.filterMap_cons] at ih⊢
   by_cases hg:g.mu.fO=3
   ·simp only[hg,aO.rm]
    rw[if_neg (fun he=>by rw[he,hg,Nat.beq_refl] at e;cases e)]
    exact ih
   ·split
    ·exact ih
    ·rename_i z hz
     split at hz
     ·rename_i h0;exact absurd h0 hg
     ·cases hz
def Fa:List SV->Option (List bT)
 |[]=>some []
 |v::vs=>match v.cells? with
  |some (ag,cs)=>match w4 cs with
   |some l=>match Fa vs with
    |some ds=>some ((Jh ag,l)::ds)
    |none=>none
   |none=>none
  |none=>none
theorem acn:∀{vs:List SV} {ds:List bT},Fa vs=some ds->y7 (vs.map SV.er)=some (ds.map bT.er)
 |[],ds,h=>by simp only[Fa] at h;injection h with h;subst h;rfl
 |v::vs,ds,h=>by
  simp only[Fa] at h
  split at h
  ·rename_i ag cs hc
   split at h
   ·rename_i l hl
    split at h
    ·rename_i tK hd
     injection h with h
     subst h
     simp only[List.map_cons,y7,SV.lx hc,EY hl,acn hd,bT.er]
     cases ag<;>rfl
    ·cases h
   ·cases h
  ·cases h
def Ug (T:List ar) (d:Option Nat) (f:FuncId) (as:List SV) (σ:af) (k:af->Option ρ):Option ρ:=
 match ar.tN 2 T f with
 |some fn=>match Fa as with
  |some ds=>match n8 fn.args ds with
   |some x=>(fn.F x).aa fun y=>match((kC fn.aA y).drop (fn.aA.length - pt fn.args)).flatMap (·.2) with
    |[]=>match zh ((kC fn.aA y).take (fn.aA.length - pt fn.args)) with
     |some ls=>k (σ.put d (Cm ls))
     |none=>none
    |_=>none
   |none=>none
  |none=>none
 |none=>none
theorem aoe {T:List ar} {d:Option Nat} {f:FuncId} {as:List SV} {σ:af} {k:af->Option ρ} {r:ρ} (h:Ug T d f as σ k=some r):
  ∃v:SV,xU (cL T) f (as.map SV.er)=some v.er/\k (σ.put d v)=some r:=by
 unfold Ug at h
 split at h
 ·rename_i fn hf
  split at h
  ·rename_i ds hd
   split at h
   ·rename_i x hx
    rw[eP] at h
    obtain⟨y,hF,h⟩:=h
    split at h
    ·rename_i ho
     split at h
     ·rename_i ls hs
      refine⟨_,?_,h⟩
      have hM:fn.MV (c9 fn.args x)=some (((kC fn.aA y).take (fn.aA.length - pt fn.args)).map bT.er,[]):=by
       unfold ar.MV
       rw[ar.xB,hF]
       simp only[Option.map_some]
       rw[<-vI,E9,ho]
       rfl
      simp only[xU,acn hd,ar.XQ hf,s8 hx,hM,J2 hs,Fb]
     ·cases h
    ·cases h
   ·cases h
  ·cases h
 ·cases h
def Uh (T:List ar) (d:Option Nat) (f:FuncId) (as:List SV) (σ:af) (k:af->Option ρ):Option ρ:=
 match ar.tN 3 T f with
 |some fn=>match fn.mu.fO with
  |3=>match Cc as with
   |some dm=>match Cg fn.mu.tl dm with
    |[n]=>E6 σ.h (J7 σ.h [n]) fn.mu.tl dm fun ds its=>match its with
     |[(.row n',_)]=>cJ n' n (match σ.h n with
      |some (.row _ _ ts xs)=>match n8 fn.args ds with
       |some x=>(fn.F x).aa fun y=>match kC fn.aA y with
        |[(.one,[⟨.int _,a⟩]),(.one,[⟨.int _,b⟩])]=>(ib a b (J xs)).aa fun p=>k (σ.put d (.one (.sl n ts.length p.1 p.2)))
        |_=>none
       |none=>none
      |_=>none)
     |_=>none
    |_=>none
   |none=>none
  |_=>none
 |none=>none
theorem aof {T:List ar} {d:Option Nat} {f:FuncId} {as:List SV} {σ:af} {k:af->Option ρ} {r:ρ} (h:Uh T d f as σ k=some r):
  ∃v:SV,oH (cL T) f (as.map SV.er) σ.er.h=some v.er/\k (σ.put d v)=some r:=by
 unfold Uh at h
 split at h
 ·rename_i fn hf
  split at h
  ·rename_i v8
   split at h
   ·rename_i dm hc
    split at h
    ·rename_i n hn
     obtain⟨ds,its,h1,h2⟩:=UC h
     split at h2
     ·rename_i n' md
      have he:=(bg h2).1;replace h2:=(bg h2).2
      subst he
      split at h2
      ·rename_i gr mo ts xs fc
       split at h2
       ·rename_i x hx
        rw[eP] at h2
        obtain⟨y,hF,h2⟩:=h2
        split at h2
        ·rename_i ka a kb b hy
         rw[eP] at h2
         obtain⟨p,hs,h2⟩:=h2
         refine⟨_,?_,h2⟩
         unfold ib at hs
         split at hs
         ·rename_i cI
          injection hs with hs
          subst hs
          have hM:fn.MW (c9 fn.args x)=some (Int.toNat a,Int.toNat (@HSub.hSub Int Int Int instHSub b a)):=by
           unfold ar.MW
           rw[ar.xB,hF]
           simp only[Option.map_some,Option.bind_some]
           rw[<-vI,hy]
           rfl
          have hh:σ.er.h=cU σ.h:=rfl
          have bj:σ.er.h n'=some (.row gr mo ts.length (List.map (Ty.aH ts) xs)):=by simp[af.er,cU,fc,SB.er]
          rw[abQ] at h1
          simp only[oH,ar.XR hf,Uv hc,UA,hn,hh,h1,s8 hx,hM]
          rw[hh] at bj
          simp only[bj,if_true]
          rfl
         ·cases hs
        ·cases h2
       ·cases h2
      ·cases h2
     ·cases h2
    ·cases h
   ·cases h
  ·cases h
 ·cases h
def Ul (σ:af) (p:SC) (k:af->Option ρ):Option ρ:=
 match p with
 |.ptr n _ _ _=>match σ.h n with
  |some (.box cs)=>zo σ cs fun l _ σ1=>k (σ1.dn n (.box (l.map fun x=>.v x.1 x.2)))
  |_=>none
 |_=>none
theorem aol {σ:af} {p:SC} {k:af->Option ρ} {r:ρ} (h:Ul σ p k=some r):∃σ1,σ.er.qa p.er=some σ1.er/\k σ1=some r:=by
 unfold Ul at h
 split at h
 ·rename_i n kk sz off
  split at h
  ·rename_i cs hn
   obtain⟨l,o,σ1,h1,h2⟩:=Fh h
   refine⟨_,?_,h2⟩
   have bj:σ.er.h n=some (.box (cs.map SC.er)):=by simp[af.er,cU,hn,SB.er]
   simp only[SC.er,St.qa,bj,h1]
   rw[af.oI,SB.er,KE]
  ·cases h
 ·cases h
inductive cG where
 |mv (x:cC)
 |pick (c x y:cC)
 |alloc (zs:List SC)
 |box (sz:Nat) (x:cC)
 |build (zs:List SC) (parts:List (Nat×Nat×cC))
 |fI (ts:List Ty) (parts:List cC)
 |load (ag:Bool) (sz:Nat) (x:cC)
 |store (sz:Nat) (x v:cC)
 |gE (x:cC)
 |bin (op:BinOp) (x y:cC)
 |oF (op:BinOp) (x y:cC)
 |un (op:UnOp) (x:cC)
 |conv (k:IntKind) (x:cC)
 |jF (m:Mode) (ts:List Ty) (by_:Nat) (z:Ty.DL ts) (l c:cC)
 |slice (sz:Nat) (x:cC) (lo hi:Option cC)
 |tail (sz:Nat) (x lo:cC)
 |mQ (ag:Bool) (sz:Nat) (x:cC)
 |aF (off:Nat) (x:cC)
 |bX (sz:Nat) (x i:cC)
 |ext (i:Nat) (x:cC)
 |oM (ag:Bool) (off sz:Nat) (x:cC)
 |ou (f:FuncId) (bH:Bool) (x:cC)
 |len (x:cC)
 |append (fl:Bool) (ts:List Ty) (by_:Nat) (x y:cC)
 |mm (mx:Bool) (x y:cC)
 |call (m:Mode) (f:FuncId) (xs:List cC)
 |mh (f:FuncId) (xs:List cC)
 |copy (x y:cC)
 |kB (t:Ty) (z:t.D) (x:cC)
 |pq (f:FuncId) (xs:List cC)
 |mn (m:Mode) (x:cC) (xs:List cC)
 |gd (m:Mode) (f:FuncId) (xs:List cC)
 |du (f:FuncId) (xs:List cC)
 |mq (f:FuncId) (xs:List cC)
 |lv (f:FuncId) (xs:List cC)
def cG.er:cG->aE
 |.mv x=>.mv x.er
 |.pick c x y=>.pick c.er x.er y.er
 |.alloc zs=>.alloc (zs.map SC.er)
 |.box sz x=>.box sz x.er
 |.build zs ps=>.build (zs.map SC.er) (ps.map fun p=>(p.1,p.2.1,p.2.2.er))
 |.fI ts ps=>.fI ts.length (ps.map cC.er)
 |.load ag sz x=>.load ag sz x.er
 |.mQ ag sz x=>.mQ ag sz x.er
 |.store sz x v=>.store sz x.er v.er
 |.gE x=>.gE x.er
 |.bin op x y=>.bin op x.er y.er
 |.oF op x y=>.oF op x.er y.er
 |.un op x=>.un op x.er
 |.conv k x=>.conv k x.er
 |.jF m ts by_ z l c=>.jF m ts.length by_ (Ty.aH ts z) l.er c.er
 |.slice sz x lo hi=>.slice sz x.er (lo.map cC.er) (hi.map cC.er)
 |.tail sz x lo=>.tail sz x.er lo.er
 |.aF off x=>.aF off x.er
 |.bX sz x i=>.bX sz x.er i.er
 |.ext i x=>.ext i x.er
 |.oM ag off sz x=>.oM ag off sz x.er
 |.ou f bH x=>.ou f bH x.er
 |.len x=>.len x.er
 |.append fl ts by_ x y=>.append fl ts.length by_ x.er y.er
 |.mm b x y=>.mm b x.er y.er
 |.call m f xs=>.call m f (xs.map cC.er)
 |.mh f xs=>.mh f (xs.map cC.er)
 |.copy x y=>.copy 1 x.er y.er
 |.kB t z x=>.kB (t.er z) x.er
 |.pq f xs=>.pq f (xs.map cC.er)
 |.mn m x xs=>.mn m x.er (xs.map cC.er)
 |.gd m f xs=>.gd m f (xs.map cC.er)
 |.du f xs=>.du f (xs.map cC.er)
 |.mq f xs=>.mq f (xs.map cC.er)
 |.lv f xs=>.lv f (xs.map cC.er)
theorem tM (σ:af) (xs:List cC):(xs.map cC.er).map σ.er.ev=(xs.map σ.ev).map SV.er:=by
 simp[af.di]
def Fg (ev:cC->SV):List SC->List (Nat×Nat×cC)->Option (List SC)
 |zs,[]=>some zs
 |zs,(off,sz,x)::ps=>match(ev x).cells? with
  |some (_,cs)=>cJ cs.length sz (e7 (Nat.ble (off+sz) zs.length) (Fg ev (cj zs off cs) ps))
  |none=>none
theorem acy {σ:af}:∀{ps:List (Nat×Nat×cC)} {zs cs:List SC},Fg σ.ev zs ps=some cs->
  pH σ.er.ev (zs.map SC.er) (ps.map fun p=>(p.1,p.2.1,p.2.2.er))=some (cs.map SC.er)
 |[],zs,cs,h=>by simp only[Fg] at h;injection h with h;subst h;rfl
 |(off,sz,x)::ps,zs,cs,h=>by
  simp only[Fg] at h
  split at h
  ·rename_i b W3 hc
   have bq:=(bg h).1;replace h:=(bg h).2;subst bq
   have hb:=(cm h).1;replace h:=(cm h).2
   have ih:=acy h
   rw[Ck] at ih
   have iY:=Nat.le_of_ble_eq_true hb
   simp only[List.map_cons,pH,af.di,SV.lx hc,List.length_map,iY,and_self,if_true,ih]
  ·cases h
def JZ (l:List TD):Bool:=l.all fun x=>x.1.eN
theorem an4 (l:List TD):fA (cD l)=JZ l:=by
 simp[fA,cD,JZ,List.all_map,Function.comp_def,Ty.wX]
def UW (σ:af) (n:Nat) (gr:Bool) (m:Mode) (ts:List Ty) (xs:List (Ty.DL ts)) (kk off:Nat) (e:Ty.DL ts) (vs:List SC) (k:af->Option ρ):Option ρ:=
 match sub (Ty.gT ts e) off vs.length with
 |none=>none
 |some fq=>zo σ vs fun cs o σ1=>match qy ts (cj (Ty.gT ts e) off cs) with
  |none=>none
  |some e'=>match m with
   |.live=>e7 (JZ cs&&JZ fq&&(σ1.h n).isSome) (k (σ1.dn n (.row gr .live ts (bW xs kk e'))))
   |.ae=>e7 (σ1.h n).isSome (k (σ1.dn n (.row gr (match o with|true=>.ae|false=>.aD) ts (bW xs kk e'))))
   |.aD=>e7 (σ1.h n).isSome (k (σ1.dn n (.row gr .aD ts (bW xs kk e'))))
theorem Xs (h:Nat->Option SB) (n:Nat):(cU h n).isSome=(h n).isSome:=by
 unfold cU;cases h n<;>rfl
theorem aoV {σ:af} {n:Nat} {gr:Bool} {m:Mode} {ts:List Ty} {xs:List (Ty.DL ts)} {kk off:Nat} {e:Ty.DL ts} {vs:List SC} {k:af->Option ρ} {r:ρ}
  (h:UW σ n gr m ts xs kk off e vs k=some r):
  ∃σ1:af,mX σ.er n gr m ts.length (List.map (Ty.aH ts) xs) kk off (Ty.aH ts e) (vs.map SC.er)=some σ1.er/\k σ1=some r:=by
 unfold UW at h
 split at h
 ·cases h
 ·rename_i fq ho
  obtain⟨cs,o,σ1,h1,h2⟩:=Fh h
  have hold:sub (Ty.aH ts e) off (vs.map SC.er).length=some (cD fq):=by
   rw[<-Ty.pS]
   simp only[cD]
   rw[tj,List.length_map,ho]
   rfl
  split at h2
  ·cases h2
  ·rename_i e' he
   have yw:cj (Ty.aH ts e) off (cD cs)=Ty.aH ts e':=by
    rw[wH he,<-Ty.pS]
    simp only[cD]
    rw[<-Ck]
   have Be:(List.map (Ty.aH ts) xs).set kk (Ty.aH ts e')=List.map (Ty.aH ts) (bW xs kk e'):=by
    show _=List.map (Ty.aH ts) (xs.set kk e')
    rw[List.map_set]
   have Bf:σ1.er.h n=(σ1.h n).map SB.er:=rfl
   split at h2
   ·have hb:=(cm h2).1;replace h2:=(cm h2).2
    simp only[Bool.and_eq_true] at hb
    refine⟨_,?_,h2⟩
    simp only[mX,hold,h1,if_true,an4,hb.1.1,hb.1.2,Bf,Option.isSome_map,hb.2,and_self,yw,Be,af.oI,SB.er]
   ·have hb:=(cm h2).1;replace h2:=(cm h2).2
    refine⟨_,?_,h2⟩
    cases o<;>simp only[mX,hold,h1,Bf,Option.isSome_map,hb,yw,Be,af.oI,SB.er,reduceCtorEq,if_false,if_true,Bool.false_eq_true,cond_true,cond_false,ite_self]
   ·have hb:=(cm h2).1;replace h2:=(cm h2).2
    refine⟨_,?_,h2⟩
    cases o<;>simp only[mX,hold,h1,Bf,Option.isSome_map,hb,yw,Be,af.oI,SB.er,reduceCtorEq,if_false,if_true,Bool.false_eq_true,cond_true,cond_false,ite_self]
def vF (us ts:List Ty) (xs:List (Ty.DL us)):Option (List (Ty.DL ts)):=if h:Ty.q8 us ts=true then some (Ty.si h▸xs) else none
theorem L6 {us ts:List Ty} {xs:List (Ty.DL us)} {ys:List (Ty.DL ts)} (h:vF us ts xs=some ys):us.length=ts.length/\List.map (Ty.aH us) xs=List.map (Ty.aH ts) ys/\xs.length=ys.length:=by
 unfold vF at h
 split at h
 ·rename_i he
  have:=Ty.si he
  subst this
  injection h with h
  rw[<-h]
  exact⟨rfl,rfl,rfl⟩
 ·cases h
def S3 (σ:af) (ts:List Ty) (v:SV) (k:List (Ty.DL ts)->Mode->af->Option ρ):Option ρ:=
 match v with
 |.one (.nil _)=>k [] .ae σ
 |.one (.sl a s lo len)=>match σ.h a with
  |some (.row true m us xs)=>cJ s ts.length (cJ lo 0 (match vF us ts xs with
   |some ys=>(ai lo len (J ys)).aa fun _=>k ys m (σ.del a)
   |none=>none))
  |_=>none
 |_=>none
theorem NJ {lo len l:Nat} {u:Unit} (h:ai lo len l=some u):lo=0/\len=l:=by
 unfold ai at h
 split at h
 ·rename_i hc;exact hc
 ·cases h
theorem an1 {σ:af} {ts:List Ty} {v:SV} {k:List (Ty.DL ts)->Mode->af->Option ρ} {r:ρ} (h:S3 σ ts v k=some r):
  ∃(xs:List (Ty.DL ts)) (m:Mode) (σ1:af),pP σ.er ts.length v.er=some (List.map (Ty.aH ts) xs,m,σ1.er)/\k xs m σ1=some r:=by
 unfold S3 at h
 split at h
 ·exact⟨[],.ae,σ,rfl,h⟩
 ·rename_i a s lo len
  split at h
  ·rename_i m us xs hn
   have bq:=(bg h).1;replace h:=(bg h).2;subst bq
   have bq:=(bg h).1;replace h:=(bg h).2;subst bq
   split at h
   ·rename_i ys hc
    obtain⟨c1,c2,c3⟩:=L6 hc
    rw[eP] at h
    obtain⟨_,hf,h⟩:=h
    obtain⟨_,hlen⟩:=NJ hf
    replace hlen:len=ys.length:=hlen
    refine⟨ys,m,σ.del a,?_,h⟩
    have bj:σ.er.h a=some (.row true m ts.length (List.map (Ty.aH ts) ys)):=by simp[af.er,cU,hn,SB.er,c1,c2]
    subst hlen
    simp only[SV.er,SC.er,pP,bj,List.length_map,and_self,if_true,af.Ic]
   ·cases h
  ·cases h
 ·cases h
theorem abF (ts:List Ty) (xs:List (Ty.DL ts)) (h:Ty.fA ts=true):fZ (List.map (Ty.aH ts) xs)=true:=by
 simp only[fZ,List.all_eq_true,List.mem_map]
 rintro _ ⟨e,_,rfl⟩
 rw[Ty.J0]
 exact h
def S4 (fl:Bool) (σ:af) (ts:List Ty) (m:Mode) (v:SV) (k:List (Ty.DL ts)->Mode->af->Option ρ):Option ρ:=
 match v with
 |.one (.nil _)=>k [] m σ
 |.one (.v (.list us) ys)=>match vF us ts ys with
  |some zs=>match fl with
   |true=>e7 (Ty.fA ts) (k zs m σ)
   |false=>match m with
    |.live=>none
    |_=>k zs .aD σ
  |none=>none
 |.one (.sl b s lo len)=>match σ.h b with
  |some (.row _ m' us ys)=>cJ s ts.length (match vF us ts ys with
   |some zs=>match fl with
    |true=>e7 (Ty.fA ts) ((c6 zs lo len).aa fun ws=>k ws m σ)
    |false=>(ai lo len (J zs)).aa fun _=>match m,m' with
     |.ae,.ae=>k zs .ae (σ.del b)
     |.live,.live=>k zs .live (σ.del b)
     |.aD,.aD=>k zs .aD (σ.del b)
     |.ae,.aD=>k zs .aD (σ.del b)
     |.aD,.ae=>k zs .aD (σ.del b)
     |_,_=>none
   |none=>none)
  |_=>none
 |_=>none
theorem an2 {fl:Bool} {σ:af} {ts:List Ty} {m:Mode} {v:SV} {k:List (Ty.DL ts)->Mode->af->Option ρ} {r:ρ} (h:S4 fl σ ts m v k=some r):
  ∃(ys:List (Ty.DL ts)) (m2:Mode) (σ1:af),lm fl σ.er ts.length m v.er=some (List.map (Ty.aH ts) ys,m2,σ1.er)/\k ys m2 σ1=some r:=by
 unfold S4 at h
 split at h
 ·exact⟨[],m,σ,rfl,h⟩
 ·rename_i us ys
  split at h
  ·rename_i zs hc
   obtain⟨e1,e2,e3⟩:=L6 hc
   have sv:Ty.er (.list us) ys=.list ts.length (List.map (Ty.aH ts) zs):=by rw[<-e1,<-e2];rfl
   split at h
   ·have hs:=(cm h).1;replace h:=(cm h).2
    refine⟨zs,m,σ,?_,h⟩
    simp only[SV.er,SC.er,sv,lm,if_true,Bool.true_and,abF ts zs hs]
   ·split at h
    ·cases h
    ·rename_i hm
     refine⟨zs,.aD,σ,?_,h⟩
     have bJ:m≠ .live:=fun e=>hm e
     simp only[SV.er,SC.er,sv,lm,if_true,Bool.false_and,Bool.false_eq_true,if_false,if_neg bJ]
  ·cases h
 ·rename_i b s lo len
  split at h
  ·rename_i gr m' us ys hn
   have bq:=(bg h).1;replace h:=(bg h).2;subst bq
   split at h
   ·rename_i zs hc
    obtain⟨e1,e2,e3⟩:=L6 hc
    have bj:σ.er.h b=some (.row gr m' ts.length (List.map (Ty.aH ts) zs)):=by simp[af.er,cU,hn,SB.er,e1,e2]
    split at h
    ·have hs:=(cm h).1;replace h:=(cm h).2
     rw[eP] at h
     obtain⟨ws,hw,h⟩:=h
     obtain⟨w1,w2⟩:=ac5 hw
     refine⟨ws,m,σ,?_,h⟩
     simp only[SV.er,SC.er,lm,bj,List.length_map,w1,w2,and_self,if_true,Bool.true_and,abF ts ws hs]
    ·rw[eP] at h
     obtain⟨_,hf,h⟩:=h
     obtain⟨rfl,hlen⟩:=NJ hf
     replace hlen:len=zs.length:=hlen
     subst hlen
     have wh:List.take zs.length (List.map (Ty.aH ts) zs)=List.map (Ty.aH ts) zs:=by
      rw[List.take_of_length_le];simp
     cases m<;>cases m'<;>first
      |(cases h;done)
      |exact⟨zs,_,σ.del b,by simp[SV.er,SC.er,lm,bj,af.Ic],h⟩
   ·cases h
  ·cases h
 ·cases h
def SC.X6:SC->Bool
 |.fn _ _=>false
 |.bm=>false
 |_=>true
def zm:List SV->Option (List SC)
 |[]=>some []
 |.one c::vs=>match c.X6,zm vs with
  |true,some cs=>some (c::cs)
  |_,_=>none
 |_::_=>none
theorem ab5:∀{vs:List SV} {cs:List SC},zm vs=some cs->
  (vs.map SV.er).mapM (fun v=>match v with|.one c=>if c.kJ=true then none else some c|_=>none)=some (cs.map SC.er)/\(cs.map SC.er).all ah.EA=true
 |[],cs,h=>by simp only[zm] at h;injection h with h;subst h;exact⟨rfl,rfl⟩
 |.one c::vs,cs,h=>by
  simp only[zm] at h
  split at h
  ·rename_i cs' e1 e2
   injection h with h
   subst h
   obtain⟨i1,i2⟩:=ab5 e2
   have hc:c.er.kJ=false/\c.er.EA=true:=by cases c<;>first|exact⟨rfl,rfl⟩|(simp[SC.X6] at e1)
   refine⟨?_,by simp[hc.2];simpa using i2⟩
   simp only[List.map_cons,List.mapM_cons,SV.er,hc.1]
   rw[i1]
   rfl
  ·cases h
 |.agg _::_,cs,h=>by simp[zm] at h
 |.bn _::_,cs,h=>by simp[zm] at h
end
end Go.Am
