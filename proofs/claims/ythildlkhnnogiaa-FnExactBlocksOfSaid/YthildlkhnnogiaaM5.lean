/- S3, S4, S4c, S5, S6, AmY, AmZ, S7, MB, B0, B1, B2, MT, Mx, M1, M4, M5: parts of the proof. No condition. -/
import Derived.Test.YthildlkhnnogiaaS2
import Derived.Laws.BitsLemmas
set_option linter.unusedVariables false
set_option linter.unusedSimpArgs false
set_option synthInstance.maxSize 1000
set_option synthInstance.maxHeartbeats 400000
namespace Go.Am
section
def ba:List (List Ty)->Type
 |[]=>Unit
 |ts::l=>match l with
  |[]=>Ty.DL ts
  |us::l'=>Ty.DL ts×ba (us::l')
abbrev ak:=List (K×List Ty)
abbrev ak.aZ (s:ak):List (List Ty):=s.map (·.2)
def dE:(as:ak)->ba as.aZ->List Dv
 |[],_=>[]
 |[a],x=>[(a.1,Ty.aE a.2 x)]
 |a::b::as,x=>(a.1,Ty.aE a.2 x.1)::dE (b::as) x.2
def h9:(as:ak)->ba as.aZ->List cd
 |[],_=>[]
 |[a],x=>[(a.1,Ty.gO a.2 x)]
 |a::b::as,x=>(a.1,Ty.gO a.2 x.1)::h9 (b::as) x.2
theorem s6:∀(as:ak) (x:ba as.aZ),(h9 as x).map cd.er=dE as x
 |[],_=>rfl
 |[a],x=>congrArg (fun l=>[((a.1,l):Dv)]) (Ty.pw a.2 x)
 |a::b::as,x=>by
  have:=s6 (b::as) x.2;simp only[h9,dE,List.map_cons,cd.er,Ty.pw,this]
def K.beq:K->K->Bool
 |.one,.one=>true
 |.agg,.agg=>true
 |.ptr,.ptr=>true
 |_,_=>false
theorem K.beq_eq {a b:K} (h:K.beq a b=true):a=b:=by cases a<;>cases b<;>first|rfl|cases h
def J5 (ts:List Ty):(l:List (List Ty))->Ty.DL ts->ba l->ba (ts::l)
 |[],x,_=>x
 |_::_,x,y=>(x,y)
theorem XN (a:K×List Ty):∀(as:ak) (x:Ty.DL a.2) (y:ba (ak.aZ as)),dE (a::as) (J5 a.2 (ak.aZ as) x y)=(a.1,Ty.aE a.2 x)::dE as y
 |[],_,_=>rfl
 |_::_,_,_=>rfl
def mM:(as:ak)->List cd->Option (ba as.aZ)
 |[],[]=>some ()
 |a::as,d::ds=>eC (K.beq a.1 d.1) (match qV a.2 d.2,mM as ds with
  |some x,some y=>some (J5 a.2 (ak.aZ as) x y)
  |_,_=>none)
 |_,_=>none
theorem pP:∀{as:ak} {ds:List cd} {x:ba as.aZ},mM as ds=some x->ds.map cd.er=dE as x
 |[],[],x,h=>rfl
 |a::as,d::ds,x,h=>by
  simp only[mM] at h;have h1:=(bX h).1;replace h2:=(bX h).2;split at h2
  ·rename_i y z e1 e2;injection h2 with h2;subst h2;rw[XN,List.map_cons,pP e2,cd.er,<-K.beq_eq h1,<-wN e1]
  ·cases h2
 |[],_::_,x,h=>by simp[mM] at h
 |a::as,[],x,h=>by simp[mM] at h
mutual
theorem Ty.XR:∀(t:Ty) (x y:t.D),t.er x=t.er y->x=y
 |.int k,x,y,h=>by simp only[Ty.er] at h;injection h
 |.bool,x,y,h=>by simp only[Ty.er] at h;injection h
 |.list ts,x,y,h=>by simp only[Ty.er] at h;injection h with _ h;exact Ty.XQ ts x y h
theorem Ty.XQ:∀(ts:List Ty) (xs ys:List (Ty.DL ts)),List.map (Ty.aE ts) xs=List.map (Ty.aE ts) ys->xs=ys
 |ts,[],[],h=>rfl
 |ts,x::xs,y::ys,h=>by
  simp only[List.map_cons,List.cons.injEq] at h;rw[Ty.Ki ts x y h.1,Ty.XQ ts xs ys h.2]
 |ts,[],_::_,h=>by simp at h
 |ts,_::_,[],h=>by simp at h
theorem Ty.Ki:∀(ts:List Ty) (x y:Ty.DL ts),Ty.aE ts x=Ty.aE ts y->x=y
 |[],x,y,h=>rfl
 |[t],x,y,h=>by simp only[Ty.aE,List.cons.injEq,and_true] at h;exact Ty.XR t x y h
 |t::u::ts,x,y,h=>by
  simp only[Ty.aE,List.cons.injEq] at h;exact Prod.ext (Ty.XR t x.1 y.1 h.1) (Ty.Ki (u::ts) x.2 y.2 h.2)
end
theorem XO:∀(as:ak) (x y:ba as.aZ),dE as x=dE as y->x=y
 |[],x,y,h=>rfl
 |[a],x,y,h=>by simp[dE] at h;exact Ty.Ki a.2 x y h
 |a::b::as,x,y,h=>by
  simp only[dE,List.cons.injEq,Prod.mk.injEq,true_and] at h;exact Prod.ext (Ty.Ki a.2 x.1 y.1 h.1) (XO (b::as) x.2 y.2 h.2)
structure au where
 id:FuncId
 args:ak
 mu:aM
 aw:ak
 F:ba args.aZ->Option (ba aw.aZ)
open Classical in
noncomputable def au.M (fn:au) (ds:List Dv):Option (List Dv):=
 if h:∃x,dE fn.args x=ds then(fn.F h.choose).map (dE fn.aw) else none
theorem au.t5 (fn:au) (x:ba fn.args.aZ):fn.M (dE fn.args x)=(fn.F x).map (dE fn.aw):=by
 have h:∃y,dE fn.args y=dE fn.args x:=⟨x,rfl⟩;unfold au.M;rw[dif_pos h,XO _ _ _ h.choose_spec]
theorem au.Ie {fn:au} {ds rs:List Dv} (h:fn.M ds=some rs):∃x y,ds=dE fn.args x/\fn.F x=some y/\rs=dE fn.aw y:=by
 unfold au.M at h;split at h
 ·rename_i e;rw[Option.map_eq_some_iff] at h;obtain⟨y,h1,h2⟩:=h;exact⟨_,y,e.choose_spec.symm,h1,h2.symm⟩
 ·cases h
def aM.cA:aM->Nat
 |[]=>0
 |s::l=>(s.filter Option.isSome).length+aM.cA l
def w9 (k:Nat) (rs:List Dv):List Dv×List C:=(rs.take k,(rs.drop k).flatMap (·.2))
noncomputable def au.MM (fn:au) (ds:List Dv):Option (List Dv×List C):=(fn.M ds).map (w9 (fn.aw.length - fn.mu.cA))
def aM.fo:aM->Nat
 |[]=>0
 |[[some .aI]]=>2
 |[some .aI,some .aI]::_=>3
 |[some .aI,some .aI,some .aI]::_=>4
 |[some .aI,some .aI,some .aI,some .aI]::_=>5
 |_=>1
def C6:ak->Bool
 |[]=>false
 |(.ptr,_)::_=>true
 |_::as=>C6 as
def qW (as:ak):Nat:=match C6 as with
 |true=>1
 |false=>0
noncomputable def au.MV (fn:au) (ds:List Dv):Option (List Dv×List C):=(fn.M ds).map (w9 (fn.aw.length - qW fn.args))
def at7:List Dv->Option (Nat×Nat)
 |[(.one,[.int _ a]),(.one,[.int _ b])]=>some (a.toNat,(b - a).toNat)
 |_=>none
noncomputable def au.MW (fn:au) (ds:List Dv):Option (Nat×Nat):=(fn.M ds).bind at7
def aM.oz (s:aM):Nat:=s.length - 2
noncomputable def au.MX (fn:au) (ds:List Dv):Option (List Dv×List C):=(fn.M ds).map (w9 (fn.aw.length - 1))
noncomputable def cI (T:List au):aN:=
 ⟨T.filterMap fun fn=>match fn.mu.fo with|0=>some (fn.id,fn.M)|_=>none,T.filterMap fun fn=>match fn.mu.fo with|1=>some (fn.id,fn.mu,fn.MM)|_=>none,
  T.filterMap fun fn=>match fn.mu.fo with|2=>some (fn.id,fn.MV)|_=>none,T.filterMap fun fn=>match fn.mu.fo with|3=>some (fn.id,fn.mu.tl,fn.MW)|_=>none,
  T.filterMap fun fn=>match fn.mu.fo with|4=>some (fn.id,fn.mu.oz,fn.MX)|_=>none,T.filterMap fun fn=>match fn.mu.fo with|5=>some (fn.id,fn.M)|_=>none⟩
def au.find:List au->FuncId->Option au
 |[],_=>none
 |fn::l,f=>match Nat.beq f fn.id with
  |true=>some fn
  |false=>au.find l f
theorem au.P3:∀{T:List au} {f:FuncId} {fn:au},au.find T f=some fn->fn.mu.fo=0->aN.find (cI T).pure f=some fn.M
 |[],f,fn,h,_=>by simp[au.find] at h
 |g::l,f,fn,h,hm=>by
  simp only[au.find] at h;split at h
  ·rename_i e;injection h with h;subst h;simp only[cI,List.filterMap_cons,hm,aN.find];rw[if_pos (Nat.eq_of_beq_eq_true e)]
  ·rename_i e;have ih:aN.find (cI l).pure f=some fn.M:=au.P3 h hm;simp only[cI,List.filterMap_cons] at ih⊢;by_cases hg:g.mu.fo=0
   ·simp only[hg,aN.find];rw[if_neg (fun he=>by rw[he,Nat.beq_refl] at e;cases e)];exact ih
   ·split
    ·exact ih
    ·rename_i z hz;split at hz
     ·rename_i h0;exact absurd h0 hg
     ·cases hz
theorem au.P2:∀{T:List au} {f:FuncId} {fn:au},au.find T f=some fn->fn.mu.fo=1->aN.nO (cI T).u4 f=some (fn.mu,fn.MM)
 |[],f,fn,h,_=>by simp[au.find] at h
 |g::l,f,fn,h,hm=>by
  simp only[au.find] at h;split at h
  ·rename_i e;injection h with h;subst h;simp only[cI,List.filterMap_cons,hm,aN.nO];rw[if_pos (Nat.eq_of_beq_eq_true e)]
  ·rename_i e;have ih:aN.nO (cI l).u4 f=some (fn.mu,fn.MM):=au.P2 h hm;simp only[cI,List.filterMap_cons] at ih⊢;by_cases hg:g.mu.fo=1
   ·simp only[hg,aN.nO];rw[if_neg (fun he=>by rw[he,Nat.beq_refl] at e;cases e)];exact ih
   ·split
    ·exact ih
    ·rename_i z hz;split at hz
     ·rename_i h0;exact absurd h0 hg
     ·cases hz
theorem au.Yl:∀{T:List au} {f:FuncId} {fn:au},au.find T f=some fn->fn.mu.fo=2->aN.lM (cI T).vs f=some fn.MV
 |[],f,fn,h,_=>by simp[au.find] at h
 |g::l,f,fn,h,hm=>by
  simp only[au.find] at h;split at h
  ·rename_i e;injection h with h;subst h;simp only[cI,List.filterMap_cons,hm,aN.lM];rw[if_pos (Nat.eq_of_beq_eq_true e)]
  ·rename_i e;have ih:aN.lM (cI l).vs f=some fn.MV:=au.Yl h hm;simp only[cI,List.filterMap_cons] at ih⊢;by_cases hg:g.mu.fo=2
   ·simp only[hg,aN.lM];rw[if_neg (fun he=>by rw[he,Nat.beq_refl] at e;cases e)];exact ih
   ·split
    ·exact ih
    ·rename_i z hz;split at hz
     ·rename_i h0;exact absurd h0 hg
     ·cases hz
def w7 (m:Mode) (σ:af):Nat->List TD->Option (List SC×Nat×af)
 |nm,[]=>some ([],nm,σ)
 |nm,⟨t,x⟩::cs=>match t,x with
  |.list ts,xs=>match σ.ins nm (.row m.tA m ts xs) with
   |some σ1=>match w7 m σ1 (nm+1) cs with
    |some (l,gu,σ2)=>some (.sl nm ts.length 0 (aa (α:=Ty.DL ts) xs)::l,gu,σ2)
    |none=>none
   |none=>none
  |.int k,x=>match w7 m σ nm cs with
   |some (l,gu,σ2)=>some (.v (.int k) x::l,gu,σ2)
   |none=>none
  |.bool,x=>match w7 m σ nm cs with
   |some (l,gu,σ2)=>some (.v .bool x::l,gu,σ2)
   |none=>none
theorem Mu (m:Mode):∀{cs:List TD} {σ σ1:af} {nm gu:Nat} {l:List SC},w7 m σ nm cs=some (l,gu,σ1)->
  σ.er.imp m nm (dj cs)=some (l.map SC.er,gu,σ1.er)
 |[],σ,σ1,nm,gu,l,h=>by
  simp only[w7] at h;injection h with h;injection h with h1 h2;injection h2 with h2 h3;subst h1 h2 h3;rfl
 |⟨.list ts,xs⟩::cs,σ,σ2,nm,gu,l,h=>by
  simp only[w7] at h;split at h
  ·rename_i σ1 e1;split at h
   ·rename_i l' G4 gK e2;injection h with h;injection h with h1 h2;injection h2 with h2 h3;subst h1 h2 h3;have i1:σ.er.ins nm (.row m.tA m ts.length (List.map (Ty.aE ts) xs))=some σ1.er:=af.oJ e1;have i2:=Mu m e2;simp only[dj] at i2;simp only[dj,List.map_cons,Ty.er,St.imp,i1,i2,SC.er];exact congrArg (fun q=>some (ah.sl nm ts.length 0 q::List.map SC.er l',G4,gK.er)) (List.length_map (Ty.aE ts))
   ·cases h
  ·cases h
 |⟨.int k,x⟩::cs,σ,σ2,nm,gu,l,h=>by
  simp only[w7] at h;split at h
  ·rename_i l' G4 gK e2;injection h with h;injection h with h1 h2;injection h2 with h2 h3;subst h1 h2 h3;have i2:=Mu m e2;simp only[dj] at i2;simp only[dj,List.map_cons,Ty.er,St.imp,i2,SC.er]
  ·cases h
 |⟨.bool,x⟩::cs,σ,σ2,nm,gu,l,h=>by
  simp only[w7] at h;split at h
  ·rename_i l' G4 gK e2;injection h with h;injection h with h1 h2;injection h2 with h2 h3;subst h1 h2 h3;have i2:=Mu m e2;simp only[dj] at i2;simp only[dj,List.map_cons,Ty.er,St.imp,i2,SC.er]
  ·cases h
def K.isAgg:K->Bool
 |.agg=>true
 |_=>false
def K.uQ:K->Bool
 |.ptr=>true
 |_=>false
def y9 (m:Mode) (σ:af):Nat->List cd->Option (List (Bool×List SC)×af)
 |_,[]=>some ([],σ)
 |nm,(k,cs)::ds=>match k.uQ with
  |true=>none
  |false=>match w7 m σ nm cs with
   |some (l,gu,σ1)=>match y9 m σ1 gu ds with
    |some (ls,σ2)=>some ((k.isAgg,l)::ls,σ2)
    |none=>none
   |none=>none
theorem HA (m:Mode):∀{ds:List cd} {σ σ1:af} {nm:Nat} {ls:List (Bool×List SC)},y9 m σ nm ds=some (ls,σ1)->
  σ.er.jE m nm (ds.map cd.er)=some (ls.map (fun x=>(x.1,x.2.map SC.er)),σ1.er)
 |[],σ,σ1,nm,ls,h=>by
  simp only[y9] at h;injection h with h;injection h with h1 h2;subst h1 h2;rfl
 |(k,cs)::ds,σ,σ2,nm,ls,h=>by
  simp only[y9] at h;split at h
  ·cases h
  ·rename_i hk;split at h
   ·rename_i l gu σ1 e1;split at h
    ·rename_i GV gK e2;injection h with h;injection h with h1 h2;subst h1 h2;have i1:=Mu m e1;have i2:=HA m e2;have i2':σ1.er.jE m gu (List.map cd.er ds)=some (GV.map (fun x=>(x.1,x.2.map SC.er)),gK.er):=i2;cases k with
     |ptr=>cases hk
     |one=>simp only[List.map_cons,cd.er,St.jE,i1,i2'];rfl
     |agg=>simp only[List.map_cons,cd.er,St.jE,i1,i2'];rfl
    ·cases h
   ·cases h
def ze:List (Bool×List SC)->SV
 |[(ag,cs)]=>Bx ag cs
 |l=>.bH l
theorem Bp (l:List (Bool×List SC)):(ze l).er=lZ (l.map fun x=>(x.1,x.2.map SC.er)):=by
 match l with
 |[]=>rfl
 |[(ag,cs)]=>exact EG ag cs
 |_::_::_=>rfl
section
variable {ρ:Type}
def Mp (T:List au) (m:Mode) (d:Option Nat) (f:FuncId) (as:List SV) (σ:af) (k:af->Option ρ):Option ρ:=
 match au.find T f with
 |some fn=>match fn.mu.fo with
  |0=>EC σ.h as fun ds=>match mM fn.args ds with
   |some x=>(fn.F x).ae fun rs=>match y9 m σ (jI d) (h9 fn.aw rs) with
    |some (ls,σ1)=>k (σ1.put d (ze ls))
    |none=>none
   |none=>none
  |_=>none
 |none=>none
theorem afo {T:List au} {m:Mode} {d:Option Nat} {f:FuncId} {as:List SV} {σ:af} {k:af->Option ρ} {r:ρ} (h:Mp T m d f as σ k=some r):
  ∃σ1:af,vL (cI T) m d f (as.map SV.er) σ.er=some σ1.er/\k σ1=some r:=by
 unfold Mp at h;split at h
 ·rename_i fn hf;split at h
  ·rename_i uE;obtain⟨ds,h1,h2⟩:=M1 h;split at h2
   ·rename_i x hx;rw[d7] at h2;obtain⟨rs,hF,h2⟩:=h2;split at h2
    ·rename_i ls σ1 hs;refine⟨_,?_,h2⟩;have e:=HA m hs;rw[s6] at e;have hv:kU σ.er.h (as.map SV.er)=some (ds.map cd.er):=h1;simp only[vL,hv,au.P3 hf uE,pP hx,au.t5,hF,Option.map_some,e,af.dT,Bp]
    ·cases h2
   ·cases h2
  ·cases h
 ·cases h
def Bi:List cd->Option (List (Bool×List SC))
 |[]=>some []
 |(k,cs)::ds=>match k.uQ with
  |true=>none
  |false=>match Bi ds with
   |some ls=>some ((k.isAgg,cs.map fun x=>SC.v x.1 x.2)::ls)
   |none=>none
theorem Mo:∀{ds:List cd} {ls:List (Bool×List SC)},Bi ds=some ls->kl (ds.map cd.er)=some (ls.map fun x=>(x.1,x.2.map SC.er))
 |[],ls,h=>by simp only[Bi] at h;injection h with h;subst h;rfl
 |(k,cs)::ds,ls,h=>by
  simp only[Bi] at h;split at h
  ·cases h
  ·rename_i hk;split at h
   ·rename_i GV e;injection h with h;subst h;have i2:=Mo e;have ec:(dj cs).map ah.c=(cs.map fun x=>SC.v x.1 x.2).map SC.er:=by simp[dj,SC.er]
    cases k with
    |ptr=>cases hk
    |one=>simp only[List.map_cons,cd.er,kl];rw[show kl (List.map cd.er ds)=_ from i2];simp only;rw[ec];rfl
    |agg=>simp only[List.map_cons,cd.er,kl];rw[show kl (List.map cd.er ds)=_ from i2];simp only;rw[ec];rfl
   ·cases h
def U0 (T:List au) (d:Option Nat) (f:FuncId) (as:List SV) (σ:af) (k:af->Option ρ):Option ρ:=
 match au.find T f with
 |some fn=>match fn.mu.fo with
  |0=>EC σ.h as fun ds=>match mM fn.args ds with
   |some x=>(fn.F x).ae fun rs=>match Bi (h9 fn.aw rs) with
    |some ls=>k (σ.put d (ze ls))
    |none=>none
   |none=>none
  |_=>none
 |none=>none
theorem asT {T:List au} {d:Option Nat} {f:FuncId} {as:List SV} {σ:af} {k:af->Option ρ} {r:ρ} (h:U0 T d f as σ k=some r):
  ∃v:SV,Cv (cI T) f (as.map SV.er) σ.er.h=some v.er/\k (σ.put d v)=some r:=by
 unfold U0 at h;split at h
 ·rename_i fn hf;split at h
  ·rename_i uE;obtain⟨ds,h1,h2⟩:=M1 h;split at h2
   ·rename_i x hx;rw[d7] at h2;obtain⟨rs,hF,h2⟩:=h2;split at h2
    ·rename_i ls hs;refine⟨_,?_,h2⟩;have e:=Mo hs;rw[s6] at e;have hv:kU σ.er.h (as.map SV.er)=some (ds.map cd.er):=h1;simp only[Cv,hv,au.P3 hf uE,pP hx,au.t5,hF,Option.map_some,e,Bp]
    ·cases h2
   ·cases h2
  ·cases h
 ·cases h
def Ty.uq:Ty->Bool
 |.list ts=>Ty.fF ts
 |_=>true
def VU:Mode->List Ty->Bool
 |.aO,ts=>Ty.fF ts
 |.live,ts=>ts.all Ty.uq
 |.aI,_=>false
theorem tG (ts:List Ty) (xs:List (Ty.DL ts)) (h:Ty.fF ts=true):eO (List.map (Ty.aE ts) xs)=true:=by
 simp only[eO,List.all_eq_true,List.mem_map];rintro e ⟨x,_,rfl⟩;rw[Ty.Hu];exact h
theorem Xz (t:Ty) (x:t.D) (h:Ty.uq t=true):C.uq (t.er x)=true:=by
 cases t with
 |int k=>rfl
 |bool=>rfl
 |list ts=>exact tG ts x h
theorem Xy:∀(ts:List Ty) (x:Ty.DL ts),ts.all Ty.uq=true->(Ty.aE ts x).all C.uq=true
 |[],_,_=>rfl
 |[t],x,h=>by
  simp only[List.all_cons,List.all_nil,Bool.and_true] at h;simp only[Ty.aE,List.all_cons,List.all_nil,Bool.and_true];exact Xz t x h
 |t::u::ts,x,h=>by
  simp only[List.all_cons (a:=t),Bool.and_eq_true] at h;simp only[Ty.aE,List.all_cons (a:=Ty.er t x.1),Bool.and_eq_true];exact⟨Xz t x.1 h.1,Xy (u::ts) x.2 h.2⟩
theorem Yq (m:Mode) (ts:List Ty) (xs:List (Ty.DL ts)) (h:VU m ts=true):uu m (List.map (Ty.aE ts) xs)=true:=by
 cases m with
 |aI=>cases h
 |aO=>exact tG ts xs h
 |live=>
  simp only[uu,List.all_eq_true,List.mem_map];rintro e ⟨x,_,rfl⟩;have:=Xy ts x h;simpa[List.all_eq_true] using this
def Mode.GD:Mode->Bool
 |.live=>true
 |_=>false
def Mode.aaL:Mode->Bool
 |.aO=>true
 |_=>false
def Vh (h:Nat->Option SB) (md:Mode) (c:SC) (k:dz->(t:Ty)->t.D->Option ρ):Option ρ:=
 match c with
 |.nil ts=>match ts with
  |[]=>none
  |t::us=>eC md.own (k (.nil (us.length+1)) (.list (t::us)) ([]:List (Ty.DL (t::us))))
 |.sl n sz lo len=>match h n with
  |some (.row gr m ts xs)=>eC (m.own&&((!md.GD||m.GD)&&(VU md ts&&(!m.GD|| !gr)))) (cr ts.length sz ((bo lo len (aa xs)).ae fun _=>k (.row n) (.list ts) xs))
  |_=>none
 |.bw n kk aB off sz len=>match h n with
  |some (.row false .live ts xs)=>eC md.aaL (cr ts.length aB ((cu xs kk).ae fun e=>match(Ty.gO ts e)[off]? with
   |some ⟨.list us,ys⟩=>eC (Ty.fF us) (k (.nest n kk off) (.list us) ys)
   |_=>none))
  |_=>none
 |_=>none
theorem ate {h:Nat->Option SB} {md:Mode} {c:SC} {k:dz->(t:Ty)->t.D->Option ρ} {r:ρ} (hx:Vh h md c k=some r):
  ∃(it:dz) (t:Ty) (x:t.D),tx (df h) md c.er=some (it,t.er x)/\k it t x=some r:=by
 unfold Vh at hx;split at hx
 ·split at hx
  ·cases hx
  ·rename_i t us;have hm:=(bX hx).1;replace hx:=(bX hx).2;refine⟨_,.list (t::us),[],?_,hx⟩;have bL:md≠ .aI:=by rintro rfl;cases hm
   simp[SC.er,tx,Ty.er,bL]
 ·rename_i n sz lo len;split at hx
  ·rename_i gr m ts xs hn;have hm:=(bX hx).1;replace hx:=(bX hx).2;have be:=(aP hx).1;replace hx:=(aP hx).2;subst be;rw[d7] at hx;obtain⟨_,hf,hx⟩:=hx;have QK:lo=0/\len=aa xs:=by
    unfold bo at hf;split at hf
    ·assumption
    ·cases hf
   obtain⟨rfl,rfl⟩:=QK;simp only[Bool.and_eq_true] at hm;have bL:m≠ .aI:=by rintro rfl;cases hm.1
   have wi:md=.live->m=.live:=by
    rintro rfl;have:=hm.2.1;cases m<;>first|rfl|(simp[Mode.GD] at this)
   refine⟨_,.list ts,xs,?_,hx⟩;simp only[SC.er,tx,df,hn,Option.map_some,SB.er,Ty.er];rw[if_pos ⟨bL,wi,trivial,trivial,(List.length_map (Ty.aE ts)).symm,Yq md ts xs hm.2.2.1,fun hl=>by
    have:=hm.2.2.2;subst hl;simpa[Mode.GD] using this⟩]
  ·cases hx
 ·rename_i n kk aB off sz len;split at hx
  ·rename_i ts xs hn;have hm:=(bX hx).1;replace hx:=(bX hx).2;have be:=(aP hx).1;replace hx:=(aP hx).2;subst be;rw[d7] at hx;obtain⟨e,he,hx⟩:=hx
   replace he:xs[kk]? =some e:=he
   split at hx
   ·rename_i us ys hd;have hs:=(bX hx).1;replace hx:=(bX hx).2;refine⟨_,.list us,ys,?_,hx⟩;have KV:md=.aO:=by cases md<;>first|rfl|(simp[Mode.aaL] at hm)
    have iT:=J9 hd;simp only[SC.er,tx,df,hn,Option.map_some,SB.er,List.getElem?_map,he,Option.bind_some,iT,Ty.er,KV,and_self,if_true];rw[if_pos (tG us ys hs)]
   ·cases hx
  ·cases hx
 ·cases hx
def SC.nm:SC->List Nat
 |.sl n _ _ _=>[n]
 |.bw n _ _ _ _ _=>[n]
 |_=>[]
theorem SC.aqt (c:SC):c.er.eN.toList=c.nm:=by cases c<;>rfl
def Bn:List (Option Mode)->List SC->List Nat
 |some _::fs,c::cs=>c.nm++Bn fs cs
 |none::fs,_::cs=>Bn fs cs
 |_,_=>[]
theorem MC:∀(fs:List (Option Mode)) (cs:List SC),nz fs (cs.map SC.er)=Bn fs cs
 |some m::fs,c::cs=>by simp only[List.map_cons,nz,Bn,SC.aqt,MC fs cs]
 |none::fs,c::cs=>by simp only[List.map_cons,nz,Bn,MC fs cs]
 |[],cs=>by cases cs<;>rfl
 |some m::fs,[]=>rfl
 |none::fs,[]=>rfl
def za:aM->List (Bool×List SC)->List Nat
 |s::sig,a::as=>Bn s a.2++za sig as
 |_,_=>[]
theorem MB:∀(sig:aM) (as:List (Bool×List SC)),oS sig (as.map fun x=>(x.1,x.2.map SC.er))=za sig as
 |s::sig,a::as=>by simp only[List.map_cons,oS,za,MC,MB sig as]
 |[],as=>by cases as<;>rfl
 |s::sig,[]=>rfl
def El (h:Nat->Option SB) (ns:List Nat):Nat->Option SB:=fun n=>match ns.contains n with|true=>none|false=>h n
theorem Mt (h:Nat->Option SB) (ns:List Nat):df (El h ns)=dH (df h) ns:=by
 funext n;simp only[df,El,dH];cases hc:ns.contains n<;>simp[hc]
def vf (h h0:Nat->Option SB):List (Option Mode)->List SC->(List TD->List (dz×Mode)->Option ρ)->Option ρ
 |[],cs,k=>Bw h0 cs fun l=>k l []
 |none::fs,c::cs,k=>xc h0 c fun t x=>vf h h0 fs cs fun l its=>k (⟨t,x⟩::l) its
 |some md::fs,c::cs,k=>Vh h md c fun it t x=>vf h h0 fs cs fun l its=>k (⟨t,x⟩::l) ((it,md)::its)
 |_::_,[],_=>none
theorem MA {h h0:Nat->Option SB}:∀{fs:List (Option Mode)} {cs:List SC} {k:List TD->List (dz×Mode)->Option ρ} {r:ρ},vf h h0 fs cs k=some r->
  ∃l its,jY (df h) (df h0) fs (cs.map SC.er)=some (dj l,its)/\k l its=some r
 |[],cs,k,r,hx=>by
  simp only[vf] at hx;obtain⟨l,h1,h2⟩:=HP hx;exact⟨l,[],by simp only[jY,h1],h2⟩
 |none::fs,c::cs,k,r,hx=>by
  simp only[vf] at hx;obtain⟨t,x,h1,h2⟩:=Bv hx;obtain⟨l,its,h3,h4⟩:=MA h2;exact⟨⟨t,x⟩::l,its,by simp only[List.map_cons,jY,h1,h3,dj],h4⟩
 |some md::fs,c::cs,k,r,hx=>by
  simp only[vf] at hx;obtain⟨it,t,x,h1,h2⟩:=ate hx;obtain⟨l,its,h3,h4⟩:=MA h2;exact⟨⟨t,x⟩::l,(it,md)::its,by simp only[List.map_cons,jY,h1,h3,dj],h4⟩
 |none::fs,[],k,r,hx=>by simp[vf] at hx
 |some md::fs,[],k,r,hx=>by simp[vf] at hx
def DJ:Bool->K
 |true=>.agg
 |false=>.one
def Ep (h h0:Nat->Option SB):aM->List (Bool×List SC)->(List cd->List (dz×Mode)->Option ρ)->Option ρ
 |_,[],k=>k [] []
 |sig,(ag,cs)::as,k=>vf h h0 sig.hd cs fun l its=>Ep h h0 sig.tl as fun ds pK=>k ((DJ ag,l)::ds) (its++pK)
theorem MD {h h0:Nat->Option SB}:∀{as:List (Bool×List SC)} {sig:aM} {k:List cd->List (dz×Mode)->Option ρ} {r:ρ},Ep h h0 sig as k=some r->
  ∃ds its,mN (df h) (df h0) sig (as.map fun x=>(x.1,x.2.map SC.er))=some (ds.map cd.er,its)/\k ds its=some r
 |[],sig,k,r,hx=>⟨[],[],by simp only[List.map_nil,mN],hx⟩
 |(ag,cs)::as,sig,k,r,hx=>by
  simp only[Ep] at hx;obtain⟨l,its,h1,h2⟩:=MA hx;obtain⟨ds,pK,h3,h4⟩:=MD h2;refine⟨_,_,?_,h4⟩;simp only[List.map_cons,mN,h1,h3,cd.er];cases ag<;>rfl
def Bl:List SV->Option (List (Bool×List SC))
 |[]=>some []
 |v::vs=>match v.cells?,Bl vs with
  |some x,some xs=>some (x::xs)
  |_,_=>none
theorem My:∀{as:List SV} {cZ:List (Bool×List SC)},Bl as=some cZ->qT (as.map SV.er)=some (cZ.map fun x=>(x.1,x.2.map SC.er))
 |[],cZ,h=>by simp only[Bl] at h;injection h with h;subst h;rfl
 |v::vs,cZ,h=>by
  simp only[Bl] at h;split at h
  ·rename_i x xs e1 e2;injection h with h;subst h;obtain⟨b,cs⟩:=x;simp only[List.map_cons,qT,SV.kC e1,My e2]
  ·cases h
def Hw (ts:List Ty) (e:Ty.DL ts) (off:Nat) (x:TD):Option (Ty.DL ts):=qV ts ((Ty.gO ts e).set off x)
theorem U7 {ts:List Ty} {e e':Ty.DL ts} {off:Nat} {x:TD} (h:Hw ts e off x=some e'):Ty.aE ts e'=(Ty.aE ts e).set off (x.1.er x.2):=by
 have:=wN h;rw[this,dj,List.map_set,<-Ty.pw ts e];rfl
def Vn (σ:af) (it:dz) (x:TD) (k:af->Option ρ):Option ρ:=
 match it with
 |.nil _=>k σ
 |.row n=>match x with
  |⟨.list ts,xs⟩=>match σ.h n with
   |some (.row gr m us _)=>cr us.length ts.length (k (σ.eD n (.row gr m ts xs)))
   |_=>none
  |_=>none
 |.nest n kk off=>match σ.h n with
  |some (.row gr m us xs)=>(cu xs kk).ae fun e=>match Hw us e off x with
   |some e'=>k (σ.eD n (.row gr m us (bS xs kk e')))
   |none=>none
  |_=>none
theorem atp {σ:af} {it:dz} {x:TD} {k:af->Option ρ} {r:ρ} (hx:Vn σ it x k=some r):∃σ1,σ.er.oW it (x.1.er x.2)=some σ1.er/\k σ1=some r:=by
 unfold Vn at hx;split at hx
 ·exact⟨σ,rfl,hx⟩
 ·rename_i n;split at hx
  ·rename_i ts xs;split at hx
   ·rename_i gr m us ys hn;have be:=(aP hx).1;replace hx:=(aP hx).2;refine⟨_,?_,hx⟩;have bu:σ.er.h n=some (.row gr m us.length (List.map (Ty.aE us) ys)):=by simp[af.er,df,hn,SB.er]
    simp only[St.oW,Ty.er,bu,be,if_true,af.pz,SB.er]
   ·cases hx
  ·cases hx
 ·rename_i n kk off;split at hx
  ·rename_i gr m us xs hn;rw[d7] at hx;obtain⟨e,he,hx⟩:=hx
   replace he:xs[kk]? =some e:=he
   split at hx
   ·rename_i e' hs;refine⟨_,?_,hx⟩;have bu:σ.er.h n=some (.row gr m us.length (List.map (Ty.aE us) xs)):=by simp[af.er,df,hn,SB.er]
    simp only[St.oW,bu,List.getElem?_map,he,Option.map_some,af.pz,SB.er,bS,List.map_set,U7 hs]
   ·cases hx
  ·cases hx
def zd (σ:af):List (dz×Mode)->List TD->(af->Option ρ)->Option ρ
 |[],[],k=>k σ
 |it::its,x::xs,k=>Vn σ it.1 x fun σ1=>zd σ1 its xs k
 |_,_,_=>none
theorem MG:∀{its:List (dz×Mode)} {xs:List TD} {σ:af} {k:af->Option ρ} {r:ρ},zd σ its xs k=some r->∃σ1,σ.er.od its (dj xs)=some σ1.er/\k σ1=some r
 |[],[],σ,k,r,hx=>⟨σ,rfl,hx⟩
 |it::its,x::xs,σ,k,r,hx=>by
  simp only[zd] at hx;obtain⟨σ1,h1,h2⟩:=atp hx;obtain⟨σ2,h3,h4⟩:=MG h2;refine⟨σ2,?_,h4⟩;simp only[dj] at h3;simp only[dj,List.map_cons,St.od,h1,h3]
 |[],_::_,σ,k,r,hx=>by simp[zd] at hx
 |_::_,[],σ,k,r,hx=>by simp[zd] at hx
def DU:List Nat->Bool
 |[]=>true
 |n::l=> !(l.contains n)&&DU l
theorem LX:∀{l:List Nat},DU l=true->l.Nodup
 |[],_=>List.nodup_nil
 |n::l,h=>by
  simp only[DU,Bool.and_eq_true,Bool.not_eq_true'] at h;rw[List.nodup_cons];refine⟨fun hm=>?_,LX h.2⟩;have:l.contains n=true:=by simpa using hm
  rw[this] at h;cases h.1
def U1 (T:List au) (m:Mode) (d:Option Nat) (f:FuncId) (as:List SV) (σ:af) (k:af->Option ρ):Option ρ:=
 match au.find T f with
 |some fn=>match fn.mu.fo with
  |1=>match Bl as with
   |some cZ=>eC (DU (za fn.mu cZ)) (Ep σ.h (El σ.h (za fn.mu cZ)) fn.mu cZ fun ds its=>match mM fn.args ds with
    |some x=>(fn.F x).ae fun y=>zd σ its (((h9 fn.aw y).drop (fn.aw.length - fn.mu.cA)).flatMap (·.2)) fun σ1=>match y9 m σ1 (jI d) ((h9 fn.aw y).take (fn.aw.length - fn.mu.cA)) with
     |some (ls,σ2)=>k (σ2.put d (ze ls))
     |none=>none
    |none=>none)
   |none=>none
  |_=>none
 |none=>none
def Vk (h:Nat->Option SB) (s:List (Option Mode)) (v:SV):Option (K×List SC):=
 match v with
 |.one (.ptr n k _ off)=>match h n with
  |some (.box cs)=>match Nat.beq k 0&&(Nat.beq off 0&&Tc s cs.length) with
   |true=>some (.ptr,cs)
   |false=>none
  |_=>none
 |v=>match v.cells? with
  |some (ag,cs)=>some (DJ ag,cs)
  |none=>none
theorem aqw {v:SV} (h:∀n k z off,v≠ .one (.ptr n k z off)):∀n k z off,v.er≠ .one (.ptr n k z off):=by
 intro n k z off e;cases v with
 |one c=>
  cases c with
  |ptr n' k' z' lE=>exact h n' k' z' lE rfl
  |_=>simp[SV.er,SC.er] at e
 |agg cs=>simp[SV.er] at e
 |bH xs=>simp[SV.er] at e
theorem atk {h:Nat->Option SB} {s:List (Option Mode)} {v:SV} {x:K×List SC} (hx:Vk h s v=some x):yQ (df h) s v.er=some (x.1,x.2.map SC.er):=by
 unfold Vk at hx;split at hx
 ·rename_i n k z off;split at hx
  ·rename_i cs hn;split at hx
   ·rename_i hc;injection hx with hx;subst hx;simp only[Bool.and_eq_true] at hc;have h1:=Nat.eq_of_beq_eq_true hc.1;have h2:=Nat.eq_of_beq_eq_true hc.2.1;subst h1 h2;simp only[SV.er,SC.er,yQ,df,hn,Option.map_some,SB.er,List.length_map];rw[if_pos ⟨trivial,trivial,hc.2.2⟩]
   ·cases hx
  ·cases hx
 ·rename_i v aF;split at hx
  ·rename_i ag cs hv;injection hx with hx;subst hx;have gh:=SV.kC hv;have db:∀u:aj,(∀n k z off,u≠ .one (.ptr n k z off))->u.cells?=some (ag,cs.map SC.er)->yQ (df h) s u=some (DJ ag,cs.map SC.er):=by
    intro u hu hc;unfold yQ;split
    ·rename_i n k z off;exact absurd rfl (hu n k z off)
    ·rw[hc];cases ag<;>rfl
   exact db _ (aqw fun n k z off e=>aF n k z off e) gh
  ·cases hx
def HG (h:Nat->Option SB):aM->List SV->Option (List (K×List SC))
 |_,[]=>some []
 |sig,v::vs=>match Vk h sig.hd v,HG h sig.tl vs with
  |some x,some xs=>some (x::xs)
  |_,_=>none
theorem afK {h:Nat->Option SB}:∀{as:List SV} {sig:aM} {cZ:List (K×List SC)},HG h sig as=some cZ->yR (df h) sig (as.map SV.er)=some (cZ.map fun x=>(x.1,x.2.map SC.er))
 |[],sig,cZ,hx=>by simp only[HG] at hx;injection hx with hx;subst hx;rfl
 |v::vs,sig,cZ,hx=>by
  simp only[HG] at hx;split at hx
  ·rename_i x xs e1 e2;injection hx with hx;subst hx;simp only[List.map_cons,yR,atk e1,afK e2]
  ·cases hx
def HJ:aM->List (K×List SC)->List Nat
 |s::sig,a::as=>Bn s a.2++HJ sig as
 |_,_=>[]
theorem afP:∀(sig:aM) (as:List (K×List SC)),yV sig (as.map fun x=>(x.1,x.2.map SC.er))=HJ sig as
 |s::sig,a::as=>by simp only[List.map_cons,yV,HJ,MC,afP sig as]
 |[],as=>by cases as<;>rfl
 |s::sig,[]=>rfl
def MH (h h0:Nat->Option SB):aM->List (K×List SC)->(List cd->List (dz×Mode)->Option ρ)->Option ρ
 |_,[],k=>k [] []
 |sig,(kk,cs)::as,k=>vf h h0 sig.hd cs fun l its=>MH h h0 sig.tl as fun ds pK=>k ((kk,l)::ds) (its++pK)
theorem afS {h h0:Nat->Option SB}:∀{as:List (K×List SC)} {sig:aM} {k:List cd->List (dz×Mode)->Option ρ} {r:ρ},MH h h0 sig as k=some r->
  ∃ds its,su (df h) (df h0) sig (as.map fun x=>(x.1,x.2.map SC.er))=some (ds.map cd.er,its)/\k ds its=some r
 |[],sig,k,r,hx=>⟨[],[],by simp only[List.map_nil,su],hx⟩
 |(kk,cs)::as,sig,k,r,hx=>by
  simp only[MH] at hx;obtain⟨l,its,h1,h2⟩:=MA hx;obtain⟨ds,pK,h3,h4⟩:=afS h2;exact⟨_,_,by simp only[List.map_cons,su,h1,h3,cd.er],h4⟩
def U3 (T:List au) (m:Mode) (d:Option Nat) (f:FuncId) (as:List SV) (σ:af) (k:af->Option ρ):Option ρ:=
 match au.find T f with
 |some fn=>match fn.mu.fo with
  |1=>match HG σ.h fn.mu as with
   |some cZ=>eC (DU (HJ fn.mu cZ)) (MH σ.h (El σ.h (HJ fn.mu cZ)) fn.mu cZ fun ds its=>match mM fn.args ds with
    |some x=>(fn.F x).ae fun y=>zd σ its (((h9 fn.aw y).drop (fn.aw.length - fn.mu.cA)).flatMap (·.2)) fun σ1=>match y9 m σ1 (jI d) ((h9 fn.aw y).take (fn.aw.length - fn.mu.cA)) with
     |some (ls,σ2)=>k (σ2.put d (ze ls))
     |none=>none
    |none=>none)
   |none=>none
  |_=>none
 |none=>none
theorem Bo (k:Nat) (l:List cd):w9 k (l.map cd.er)=((l.take k).map cd.er,dj ((l.drop k).flatMap (·.2))):=by
 simp only[w9,<-List.map_take,<-List.map_drop];congr 1;induction l.drop k with
 |nil=>rfl
 |cons d l ih=>
  simp only[List.map_cons,List.flatMap_cons,ih,dj,List.map_append,cd.er]
theorem asU {T:List au} {m:Mode} {d:Option Nat} {f:FuncId} {as:List SV} {σ:af} {k:af->Option ρ} {r:ρ} (h:U1 T m d f as σ k=some r):
  ∃σ1:af,rF (cI T) m d f (as.map SV.er) σ.er=some σ1.er/\k σ1=some r:=by
 unfold U1 at h;split at h
 ·rename_i fn hf;split at h
  ·rename_i uE;split at h
   ·rename_i cZ hc;have fx:=LX (bX h).1;replace h:=(bX h).2;obtain⟨ds,its,h1,h2⟩:=MD h;split at h2
    ·rename_i x hx;rw[d7] at h2;obtain⟨y,hF,h2⟩:=h2;obtain⟨σ1,h3,h4⟩:=MG h2;split at h4
     ·rename_i ls σ2 hs;refine⟨_,?_,h4⟩;have e:=HA m hs;have hM:fn.MM (dE fn.args x)=some (((h9 fn.aw y).take (fn.aw.length - fn.mu.cA)).map cd.er,dj (((h9 fn.aw y).drop (fn.aw.length - fn.mu.cA)).flatMap (·.2))):=by
       unfold au.MM;rw[au.t5,hF];simp only[Option.map_some];rw[<-s6,Bo]
      have hh:σ.er.h=df σ.h:=rfl;rw[Mt] at h1;simp only[rF,au.P2 hf uE,My hc,MB,if_pos fx,hh,h1,pP hx,hM,h3,e,af.dT,Bp]
     ·cases h4
    ·cases h2
   ·cases h
  ·cases h
 ·cases h
theorem asW {T:List au} {m:Mode} {d:Option Nat} {f:FuncId} {as:List SV} {σ:af} {k:af->Option ρ} {r:ρ} (h:U3 T m d f as σ k=some r):
  ∃σ1:af,vM (cI T) m d f (as.map SV.er) σ.er=some σ1.er/\k σ1=some r:=by
 unfold U3 at h;split at h
 ·rename_i fn hf;split at h
  ·rename_i uE;split at h
   ·rename_i cZ hc;have fx:=LX (bX h).1;replace h:=(bX h).2;obtain⟨ds,its,h1,h2⟩:=afS h;split at h2
    ·rename_i x hx;rw[d7] at h2;obtain⟨y,hF,h2⟩:=h2;obtain⟨σ1,h3,h4⟩:=MG h2;split at h4
     ·rename_i ls σ2 hs;refine⟨_,?_,h4⟩;have e:=HA m hs;have hM:fn.MM (dE fn.args x)=some (((h9 fn.aw y).take (fn.aw.length - fn.mu.cA)).map cd.er,dj (((h9 fn.aw y).drop (fn.aw.length - fn.mu.cA)).flatMap (·.2))):=by
       unfold au.MM;rw[au.t5,hF];simp only[Option.map_some];rw[<-s6,Bo]
      have hh:σ.er.h=df σ.h:=rfl;rw[Mt] at h1;simp only[vM,au.P2 hf uE,hh,afK hc,afP,if_pos fx,h1,pP hx,hM,h3,e,af.dT,Bp]
     ·cases h4
    ·cases h2
   ·cases h
  ·cases h
 ·cases h
def y8:List SC->Option (List TD)
 |[]=>some []
 |.v t x::cs=>match y8 cs with
  |some l=>some (⟨t,x⟩::l)
  |none=>none
 |.nil (t::us)::cs=>match y8 cs with
  |some l=>some (⟨.list (t::us),([]:List (Ty.DL (t::us)))⟩::l)
  |none=>none
 |_::_=>none
theorem Hz:∀{cs:List SC} {l:List TD},y8 cs=some l->kJ (cs.map SC.er)=some (dj l)
 |[],l,h=>by simp only[y8] at h;injection h with h;subst h;rfl
 |c::cs,l,h=>by
  unfold y8 at h;split at h
  ·rename_i e;cases e
  ·rename_i t x cs' e;injection e with e1 e2;subst e1 e2;split at h
   ·rename_i l' e;injection h with h;subst h;simp only[List.map_cons,kJ,SC.er,pI,Hz e,dj]
   ·cases h
  ·rename_i t us cs' e;injection e with e1 e2;subst e1 e2;split at h
   ·rename_i l' e;injection h with h;subst h;simp[kJ,SC.er,pI,Hz e,dj,Ty.er]
   ·cases h
  ·cases h
def Ml (h:Nat->Option SB) (n kk off:Nat):Option (List TD):=
 match kk,off with
 |0,0=>match h n with
  |some (.box cs)=>y8 cs
  |_=>none
 |_,_=>none
theorem ad0 {h:Nat->Option SB} {n kk sz off:Nat} {l:List TD} (e:Ml h n kk off=some l):mY (df h) (SV.er (.one (.ptr n kk sz off)))=some (n,dj l):=by
 unfold Ml at e;split at e
 ·split at e
  ·rename_i cs hn;simp[SV.er,SC.er,mY,df,hn,SB.er,Hz e]
  ·cases e
 ·cases e
def SV.qY:SV->Option (Nat×Nat×Nat)
 |.one (.ptr n kk _ off)=>some (n,kk,off)
 |_=>none
theorem adn {v:SV} (h:v.qY=none) (hh:Nat->Option aq):mY hh v.er=none:=by
 cases v with
 |one c=>cases c<;>first|rfl|(simp[SV.qY] at h)
 |agg cs=>rfl
 |bH xs=>rfl
theorem ado {v:SV} {n kk off:Nat} (h:v.qY=some (n,kk,off)):∃sz,v=.one (.ptr n kk sz off):=by
 cases v with
 |one c=>cases c<;>simp[SV.qY] at h;obtain⟨rfl,rfl,rfl⟩:=h;exact⟨_,rfl⟩
 |agg cs=>simp[SV.qY] at h
 |bH xs=>simp[SV.qY] at h
def Ht (σ:af):List SV->(List cd->List Nat->af->Option ρ)->Option ρ
 |[],k=>k [] [] σ
 |v::vs,k=>match v.qY with
  |some (n,kk,off)=>match Ml σ.h n kk off with
   |some l=>Ht σ vs fun ds ns σ1=>k ((.ptr,l)::ds) (n::ns) σ1
   |none=>none
  |none=>match v.cells? with
   |some (ag,cs)=>Br σ cs fun l _ σ1=>Ht σ1 vs fun ds ns σ2=>k ((DJ ag,l)::ds) ns σ2
   |none=>none
theorem UW:∀{vs:List SV} {σ:af} {k:List cd->List Nat->af->Option ρ} {r:ρ},Ht σ vs k=some r->
  ∃ds ns σ1,σ.er.iP (vs.map SV.er)=some (ds.map cd.er,ns,σ1.er)/\k ds ns σ1=some r
 |[],σ,k,r,h=>⟨[],[],σ,rfl,h⟩
 |v::vs,σ,k,r,h=>by
  simp only[Ht] at h;split at h
  ·rename_i n kk off hv;obtain⟨sz,rfl⟩:=ado hv;split at h
   ·rename_i l hl;obtain⟨ds,ns,σ1,h1,h2⟩:=UW h;refine⟨_,_,σ1,?_,h2⟩;have:=ad0 (sz:=sz) hl;have hh:σ.er.h=df σ.h:=rfl;simp only[List.map_cons,St.iP,hh,this,h1,cd.er]
   ·cases h
  ·rename_i hv;split at h
   ·rename_i ag cs hc;obtain⟨l,o,σ1,h1,h2⟩:=HN h;obtain⟨ds,ns,σ2,h3,h4⟩:=UW h2;refine⟨_,_,σ2,?_,h4⟩;simp only[List.map_cons,St.iP,adn hv,SV.kC hc,h1,h3,cd.er];cases ag<;>rfl
   ·cases h
def Vm (σ:af) (ns:List Nat) (out:List TD) (k:af->Option ρ):Option ρ:=
 match ns,out with
 |[],[]=>k σ
 |[n],out=>match σ.h n with
  |some (.box cs)=>cr cs.length out.length (k (σ.eD n (.box (out.map fun x=>.v x.1 x.2))))
  |_=>none
 |_,_=>none
theorem Nh (out:List TD):(out.map fun x=>SC.v x.1 x.2).map SC.er=(dj out).map .c:=by simp[dj,SC.er]
theorem ato {σ:af} {ns:List Nat} {out:List TD} {k:af->Option ρ} {r:ρ} (h:Vm σ ns out k=some r):∃σ1,σ.er.sq ns (dj out)=some σ1.er/\k σ1=some r:=by
 unfold Vm at h;split at h
 ·exact⟨σ,rfl,h⟩
 ·rename_i n;split at h
  ·rename_i cs hn;have he:=(aP h).1;replace h:=(aP h).2;refine⟨_,?_,h⟩;have bu:σ.er.h n=some (.box (cs.map SC.er)):=by simp[af.er,df,hn,SB.er]
   simp only[St.sq,bu,List.length_map];rw[if_pos (by rw[he,dj,List.length_map]),af.pz,SB.er,Nh]
  ·cases h
 ·cases h
def cd.qY:List cd->Option (List TD)
 |[(.ptr,cs)]=>some cs
 |_=>none
theorem as0 {rs:List cd} {cs:List TD} (h:cd.qY rs=some cs):rs=[(.ptr,cs)]:=by
 unfold cd.qY at h;split at h
 ·injection h with h;rw[h]
 ·cases h
def UX (σ:af) (d:Option Nat) (rs:List cd) (k:af->Option ρ):Option ρ:=
 match cd.qY rs with
 |some cs=>match d with
  |some q=>match σ.ins q (.box (cs.map fun x=>.v x.1 x.2)) with
   |some σ1=>k (σ1.put d (.one (.ptr q 0 0 0)))
   |none=>none
  |none=>none
 |none=>match Bi rs with
  |some ls=>k (σ.put d (ze ls))
  |none=>none
theorem asN {σ:af} {d:Option Nat} {rs:List cd} {k:af->Option ρ} {r:ρ} (h:UX σ d rs k=some r):∃σ1,rz σ.er d (rs.map cd.er)=some σ1.er/\k σ1=some r:=by
 unfold UX at h;split at h
 ·rename_i cs hp;have:=as0 hp;subst this;split at h
  ·rename_i q;split at h
   ·rename_i σ1 hi;refine⟨_,?_,h⟩;have e:=af.oJ hi;rw[SB.er,Nh] at e;simp only[List.map_cons,List.map_nil,cd.er,rz,e,af.dT];rfl
   ·cases h
  ·cases h
 ·split at h
  ·rename_i ls hs;refine⟨_,?_,h⟩;have e:=Mo hs;have hb:rz σ.er d (rs.map cd.er)=match kl (rs.map cd.er) with
     |some ls=>some (σ.er.put d (lZ ls))
     |none=>none:=by
    unfold rz;split
    ·rename_i cs he;rw[he] at e;simp[kl] at e
    ·rfl
   rw[hb,e,af.dT,Bp]
  ·cases h
def UZ (T:List au) (d:Option Nat) (f:FuncId) (as:List SV) (σ:af) (k:af->Option ρ):Option ρ:=
 match au.find T f with
 |some fn=>match fn.mu.fo with
  |2=>Ht σ as fun ds ns σ1=>match mM fn.args ds with
   |some x=>(fn.F x).ae fun y=>Vm σ1 ns (((h9 fn.aw y).drop (fn.aw.length - qW fn.args)).flatMap (·.2)) fun σ2=>UX σ2 d ((h9 fn.aw y).take (fn.aw.length - qW fn.args)) k
   |none=>none
  |_=>none
 |none=>none
theorem asS {T:List au} {d:Option Nat} {f:FuncId} {as:List SV} {σ:af} {k:af->Option ρ} {r:ρ} (h:UZ T d f as σ k=some r):
  ∃σ1:af,rE (cI T) d f (as.map SV.er) σ.er=some σ1.er/\k σ1=some r:=by
 unfold UZ at h;split at h
 ·rename_i fn hf;split at h
  ·rename_i uE;obtain⟨ds,ns,σ1,h1,h2⟩:=UW h;split at h2
   ·rename_i x hx;rw[d7] at h2;obtain⟨y,hF,h2⟩:=h2;obtain⟨σ2,h3,h4⟩:=ato h2;obtain⟨gK,h5,h6⟩:=asN h4;refine⟨gK,?_,h6⟩;have hM:fn.MV (dE fn.args x)=some (((h9 fn.aw y).take (fn.aw.length - qW fn.args)).map cd.er,dj (((h9 fn.aw y).drop (fn.aw.length - qW fn.args)).flatMap (·.2))):=by
     unfold au.MV;rw[au.t5,hF];simp only[Option.map_some];rw[<-s6,Bo]
    simp only[rE,h1,au.Yl hf uE,pP hx,hM,h3,h5]
   ·cases h2
  ·cases h
 ·cases h
def au.m9 (k:Nat):List au->FuncId->Option au
 |[],_=>none
 |fn::l,f=>match Nat.beq f fn.id&&Nat.beq fn.mu.fo k with
  |true=>some fn
  |false=>au.m9 k l f
theorem au.Yi:∀{T:List au} {f:FuncId} {fn:au},au.m9 2 T f=some fn->aN.lM (cI T).vs f=some fn.MV
 |[],f,fn,h=>by simp[au.m9] at h
 |g::l,f,fn,h=>by
  simp only[au.m9] at h;split at h
  ·rename_i e;injection h with h;subst h;rw[Bool.and_eq_true] at e;have hm:=Nat.eq_of_beq_eq_true e.2;simp only[cI,List.filterMap_cons,hm,aN.lM];rw[if_pos (Nat.eq_of_beq_eq_true e.1)]
  ·rename_i e;have ih:aN.lM (cI l).vs f=some fn.MV:=au.Yi h;simp only[cI,List.filterMap_cons] at ih⊢;by_cases hg:g.mu.fo=2
   ·simp only[hg,aN.lM];rw[if_neg (fun he=>by rw[he,hg,Nat.beq_refl] at e;cases e)];exact ih
   ·split
    ·exact ih
    ·rename_i z hz;split at hz
     ·rename_i h0;exact absurd h0 hg
     ·cases hz
theorem au.Yj:∀{T:List au} {f:FuncId} {fn:au},au.m9 3 T f=some fn->aN.s8 (cI T).ws f=some (fn.mu.tl,fn.MW)
 |[],f,fn,h=>by simp[au.m9] at h
 |g::l,f,fn,h=>by
  simp only[au.m9] at h;split at h
  ·rename_i e;injection h with h;subst h;rw[Bool.and_eq_true] at e;have hm:=Nat.eq_of_beq_eq_true e.2;simp only[cI,List.filterMap_cons,hm,aN.s8];rw[if_pos (Nat.eq_of_beq_eq_true e.1)]
  ·rename_i e;have ih:aN.s8 (cI l).ws f=some (fn.mu.tl,fn.MW):=au.Yj h;simp only[cI,List.filterMap_cons] at ih⊢;by_cases hg:g.mu.fo=3
   ·simp only[hg,aN.s8];rw[if_neg (fun he=>by rw[he,hg,Nat.beq_refl] at e;cases e)];exact ih
   ·split
    ·exact ih
    ·rename_i z hz;split at hz
     ·rename_i h0;exact absurd h0 hg
     ·cases hz
theorem au.Yk:∀{T:List au} {f:FuncId} {fn:au},au.m9 4 T f=some fn->aN.s9 (cI T).xs f=some (fn.mu.oz,fn.MX)
 |[],f,fn,h=>by simp[au.m9] at h
 |g::l,f,fn,h=>by
  simp only[au.m9] at h;split at h
  ·rename_i e;injection h with h;subst h;rw[Bool.and_eq_true] at e;have hm:=Nat.eq_of_beq_eq_true e.2;simp only[cI,List.filterMap_cons,hm,aN.s9];rw[if_pos (Nat.eq_of_beq_eq_true e.1)]
  ·rename_i e;have ih:aN.s9 (cI l).xs f=some (fn.mu.oz,fn.MX):=au.Yk h;simp only[cI,List.filterMap_cons] at ih⊢;by_cases hg:g.mu.fo=4
   ·simp only[hg,aN.s9];rw[if_neg (fun he=>by rw[he,hg,Nat.beq_refl] at e;cases e)];exact ih
   ·split
    ·exact ih
    ·rename_i z hz;split at hz
     ·rename_i h0;exact absurd h0 hg
     ·cases hz
theorem au.Yh:∀{T:List au} {f:FuncId} {fn:au},au.m9 5 T f=some fn->aN.find (cI T).ns f=some fn.M
 |[],f,fn,h=>by simp[au.m9] at h
 |g::l,f,fn,h=>by
  simp only[au.m9] at h;split at h
  ·rename_i e;injection h with h;subst h;rw[Bool.and_eq_true] at e;have hm:=Nat.eq_of_beq_eq_true e.2;simp only[cI,List.filterMap_cons,hm,aN.find];rw[if_pos (Nat.eq_of_beq_eq_true e.1)]
  ·rename_i e;have ih:aN.find (cI l).ns f=some fn.M:=au.Yh h;simp only[cI,List.filterMap_cons] at ih⊢;by_cases hg:g.mu.fo=5
   ·simp only[hg,aN.find];rw[if_neg (fun he=>by rw[he,hg,Nat.beq_refl] at e;cases e)];exact ih
   ·split
    ·exact ih
    ·rename_i z hz;split at hz
     ·rename_i h0;exact absurd h0 hg
     ·cases hz
def VG (T:List cd) (i:Nat):Bool:=match T[i]? with
 |some (.one,[⟨.list [.int .i64],_⟩])=>true
 |_=>false
theorem atF {ds:List cd} {i:Nat} (h:VG ds i=true):∃ys,(ds.map cd.er)[i]? =some (.one,[.list 1 ys]):=by
 unfold VG at h;split at h
 ·rename_i x e;exact⟨_,by rw[List.getElem?_map,e];rfl⟩
 ·cases h
def sdI (a:Int):cd:=(.one,[⟨.int .i64,a⟩])
def U6 (T:List au) (m:Mode) (d:Option Nat) (f:FuncId) (as:List SV) (σ:af) (k:af->Option ρ):Option ρ:=
 match au.m9 4 T f with
 |some fn=>match as[fn.mu.oz]? with
  |some (.one (.sl n s lo len))=>match σ.h n with
   |some (.row _ _ ts xs)=>cr s 1 (cr ts.length 1 ((cu xs lo).ae fun _=>(cX xs lo len).ae fun _=>match Bl (as.set fn.mu.oz (.one (.sl n 1 0 (aa xs)))) with
    |some cZ=>eC (DU (za (zm fn.mu.oz) cZ)) (Ep σ.h (El σ.h (za (zm fn.mu.oz) cZ)) (zm fn.mu.oz) cZ fun ds its=>eC (VG ds fn.mu.oz) (match mM fn.args (sdI (aC lo)::sdI (aC (aG lo len))::ds) with
     |some x=>(fn.F x).ae fun y=>zd σ its (((h9 fn.aw y).drop (fn.aw.length - 1)).flatMap (·.2)) fun σ1=>match y9 m σ1 (jI d) ((h9 fn.aw y).take (fn.aw.length - 1)) with
      |some (ls,σ2)=>k (σ2.put d (ze ls))
      |none=>none
     |none=>none))
    |none=>none))
   |_=>none
  |_=>none
 |none=>none
theorem asZ {T:List au} {m:Mode} {d:Option Nat} {f:FuncId} {as:List SV} {σ:af} {k:af->Option ρ} {r:ρ} (h:U6 T m d f as σ k=some r):
  ∃σ1:af,vN (cI T) m d f (as.map SV.er) σ.er=some σ1.er/\k σ1=some r:=by
 unfold U6 at h;split at h
 ·rename_i fn hf;split at h
  ·rename_i n s lo len ha;split at h
   ·rename_i gr mo ts xs eW;have hs1:=(aP h).1
    replace h:=(aP h).2
    have ht1:=(aP h).1
    replace h:=(aP h).2
    rw[d7] at h;obtain⟨el,he,h⟩:=h;rw[d7] at h;obtain⟨wl,hw,h⟩:=h;subst hs1;have qz:lo<xs.length:=(List.getElem?_eq_some_iff.1 (show xs[lo]? =some el from he)).1
    have gH:lo+len<=xs.length:=by
     unfold cX at hw;split at hw
     ·rename_i hc;exact hc
     ·cases hw
    split at h
    ·rename_i cZ hc;have fx:=LX (bX h).1;replace h:=(bX h).2;obtain⟨ds,its,h1,h2⟩:=MD h;have jS:=atF (bX h2).1;replace h2:=(bX h2).2;obtain⟨ys,pG⟩:=jS;split at h2
     ·rename_i x hx;rw[d7] at h2;obtain⟨y,hF,h2⟩:=h2;obtain⟨σ1,h3,h4⟩:=MG h2;split at h4
      ·rename_i ls σ2 hs;refine⟨_,?_,h4⟩;have e:=HA m hs;have hM:fn.MX (dE fn.args x)=some (((h9 fn.aw y).take (fn.aw.length - 1)).map cd.er,dj (((h9 fn.aw y).drop (fn.aw.length - 1)).flatMap (·.2))):=by
        unfold au.MX;rw[au.t5,hF];simp only[Option.map_some];rw[<-s6,Bo]
       have hh:σ.er.h=df σ.h:=rfl;have bu:σ.er.h n=some (.row gr mo ts.length (List.map (Ty.aE ts) xs)):=by simp[af.er,df,eW,SB.er]
       have eH:dI lo::dI (lo+len)::ds.map cd.er=dE fn.args x:=pP hx;have wD:xM fn.mu.oz lo (lo+len) fn.MX (ds.map cd.er)=some (((h9 fn.aw y).take (fn.aw.length - 1)).map cd.er,dj (((h9 fn.aw y).drop (fn.aw.length - 1)).flatMap (·.2))):=by
        unfold xM;rw[pG];simp only
        rw[eH,hM]
       have hxr:EN σ.er.h (.one (.sl n 1 lo len))=some (n,lo,len,xs.length):=by
        unfold EN;simp only[bu];rw[if_pos ⟨trivial,ht1,by rw[List.length_map];exact qz,by rw[List.length_map];exact gH⟩,List.length_map]
       have vT:(as.map SV.er)[fn.mu.oz]? =some (.one (.sl n 1 lo len)):=by
        rw[List.getElem?_map,ha];rfl
       have uH:(as.map SV.er).set fn.mu.oz (.one (.sl n 1 0 xs.length))=(as.set fn.mu.oz (.one (.sl n 1 0 (aa xs)))).map SV.er:=by
        rw[List.map_set];rfl
       rw[Mt] at h1;unfold vN;rw[au.Yk hf];simp only[vT,hxr,uH];unfold rF;simp only[aN.nO,if_true,My hc,MB,if_pos fx,hh,h1,wD,h3,e,af.dT,Bp]
      ·cases h4
     ·cases h2
    ·cases h
   ·cases h
  ·cases h
 ·cases h
def HK:List SV->Option (List cd)
 |[]=>some []
 |v::vs=>match v.cells? with
  |some (ag,cs)=>match y8 cs with
   |some l=>match HK vs with
    |some ds=>some ((DJ ag,l)::ds)
    |none=>none
   |none=>none
  |none=>none
theorem afT:∀{vs:List SV} {ds:List cd},HK vs=some ds->Ba (vs.map SV.er)=some (ds.map cd.er)
 |[],ds,h=>by simp only[HK] at h;injection h with h;subst h;rfl
 |v::vs,ds,h=>by
  simp only[HK] at h;split at h
  ·rename_i ag cs hc;split at h
   ·rename_i l hl;split at h
    ·rename_i ur hd;injection h with h;subst h;simp only[List.map_cons,Ba,SV.kC hc,Hz hl,afT hd,cd.er];cases ag<;>rfl
    ·cases h
   ·cases h
  ·cases h
def U4 (T:List au) (d:Option Nat) (f:FuncId) (as:List SV) (σ:af) (k:af->Option ρ):Option ρ:=
 match au.m9 2 T f with
 |some fn=>match HK as with
  |some ds=>match mM fn.args ds with
   |some x=>(fn.F x).ae fun y=>match((h9 fn.aw y).drop (fn.aw.length - qW fn.args)).flatMap (·.2) with
    |[]=>match Bi ((h9 fn.aw y).take (fn.aw.length - qW fn.args)) with
     |some ls=>k (σ.put d (ze ls))
     |none=>none
    |_=>none
   |none=>none
  |none=>none
 |none=>none
theorem asX {T:List au} {d:Option Nat} {f:FuncId} {as:List SV} {σ:af} {k:af->Option ρ} {r:ρ} (h:U4 T d f as σ k=some r):
  ∃v:SV,zQ (cI T) f (as.map SV.er)=some v.er/\k (σ.put d v)=some r:=by
 unfold U4 at h;split at h
 ·rename_i fn hf;split at h
  ·rename_i ds hd;split at h
   ·rename_i x hx;rw[d7] at h;obtain⟨y,hF,h⟩:=h;split at h
    ·rename_i ho;split at h
     ·rename_i ls hs;refine⟨_,?_,h⟩;have hM:fn.MV (dE fn.args x)=some (((h9 fn.aw y).take (fn.aw.length - qW fn.args)).map cd.er,[]):=by
       unfold au.MV;rw[au.t5,hF];simp only[Option.map_some];rw[<-s6,Bo,ho];rfl
      simp only[zQ,afT hd,au.Yi hf,pP hx,hM,Mo hs,Bp]
     ·cases h
    ·cases h
   ·cases h
  ·cases h
 ·cases h
def U5 (T:List au) (d:Option Nat) (f:FuncId) (as:List SV) (σ:af) (k:af->Option ρ):Option ρ:=
 match au.m9 3 T f with
 |some fn=>match fn.mu.fo with
  |3=>match Bl as with
   |some cZ=>match za fn.mu.tl cZ with
    |[n]=>Ep σ.h (El σ.h [n]) fn.mu.tl cZ fun ds its=>match its with
     |[(.row n',_)]=>cr n' n (match σ.h n with
      |some (.row _ _ ts xs)=>match mM fn.args ds with
       |some x=>(fn.F x).ae fun y=>match h9 fn.aw y with
        |[(.one,[⟨.int _,a⟩]),(.one,[⟨.int _,b⟩])]=>(mQ a b (aa xs)).ae fun p=>k (σ.put d (.one (.sl n ts.length p.1 p.2)))
        |_=>none
       |none=>none
      |_=>none)
     |_=>none
    |_=>none
   |none=>none
  |_=>none
 |none=>none
theorem asY {T:List au} {d:Option Nat} {f:FuncId} {as:List SV} {σ:af} {k:af->Option ρ} {r:ρ} (h:U5 T d f as σ k=some r):
  ∃v:SV,qk (cI T) f (as.map SV.er) σ.er.h=some v.er/\k (σ.put d v)=some r:=by
 unfold U5 at h;split at h
 ·rename_i fn hf;split at h
  ·rename_i uE;split at h
   ·rename_i cZ hc;split at h
    ·rename_i n hn;obtain⟨ds,its,h1,h2⟩:=MD h;split at h2
     ·rename_i n' md;have he:=(aP h2).1;replace h2:=(aP h2).2;subst he;split at h2
      ·rename_i gr mo ts xs eW;split at h2
       ·rename_i x hx;rw[d7] at h2;obtain⟨y,hF,h2⟩:=h2;split at h2
        ·rename_i ka a kb b hy;rw[d7] at h2;obtain⟨p,hs,h2⟩:=h2;refine⟨_,?_,h2⟩;unfold mQ at hs;split at hs
         ·rename_i cR;injection hs with hs;subst hs;have hM:fn.MW (dE fn.args x)=some (Int.toNat a,Int.toNat (@HSub.hSub Int Int Int instHSub b a)):=by
           unfold au.MW;rw[au.t5,hF];simp only[Option.map_some,Option.bind_some];rw[<-s6,hy];rfl
          have hh:σ.er.h=df σ.h:=rfl;have bu:σ.er.h n'=some (.row gr mo ts.length (List.map (Ty.aE ts) xs)):=by simp[af.er,df,eW,SB.er]
          rw[Mt] at h1;simp only[qk,au.Yj hf,My hc,MB,hn,hh,h1,pP hx,hM];rw[hh] at bu;simp only[bu,if_true];rfl
         ·cases hs
        ·cases h2
       ·cases h2
      ·cases h2
     ·cases h2
    ·cases h
   ·cases h
  ·cases h
 ·cases h
def Va (σ:af) (p:SC) (k:af->Option ρ):Option ρ:=
 match p with
 |.ptr n _ _ _=>match σ.h n with
  |some (.box cs)=>Br σ cs fun l _ σ1=>k (σ1.eD n (.box (l.map fun x=>.v x.1 x.2)))
  |_=>none
 |_=>none
theorem as4 {σ:af} {p:SC} {k:af->Option ρ} {r:ρ} (h:Va σ p k=some r):∃σ1,σ.er.uw p.er=some σ1.er/\k σ1=some r:=by
 unfold Va at h;split at h
 ·rename_i n kk sz off;split at h
  ·rename_i cs hn;obtain⟨l,o,σ1,h1,h2⟩:=HN h;refine⟨_,?_,h2⟩;have bu:σ.er.h n=some (.box (cs.map SC.er)):=by simp[af.er,df,hn,SB.er]
   simp only[SC.er,St.uw,bu,h1];rw[af.pz,SB.er,Nh]
  ·cases h
 ·cases h
inductive du where
 |mv (x:cL)
 |pick (c x y:cL)
 |alloc (zs:List SC)
 |box (sz:Nat) (x:cL)
 |build (zs:List SC) (parts:List (Nat×Nat×cL))
 |ft (ts:List Ty) (parts:List cL)
 |load (ag:Bool) (sz:Nat) (x:cL)
 |store (sz:Nat) (x v:cL)
 |pT (x:cL)
 |bin (op:BinOp) (x y:cL)
 |nE (op:BinOp) (x y:cL)
 |un (op:UnOp) (x:cL)
 |conv (k:IntKind) (x:cL)
 |iJ (m:Mode) (ts:List Ty) (by_:Nat) (z:Ty.DL ts) (l c:cL)
 |slice (sz:Nat) (x:cL) (lo hi:Option cL)
 |tail (sz:Nat) (x lo:cL)
 |qS (ag:Bool) (sz:Nat) (x:cL)
 |nN (off:Nat) (x:cL)
 |nj (sz:Nat) (x i:cL)
 |ext (i:Nat) (x:cL)
 |rM (ag:Bool) (off sz:Nat) (x:cL)
 |re (f:FuncId) (gm:Bool) (x:cL)
 |len (x:cL)
 |append (fl:Bool) (ts:List Ty) (by_:Nat) (x y:cL)
 |mm (mx:Bool) (x y:cL)
 |call (m:Mode) (f:FuncId) (xs:List cL)
 |oF (f:FuncId) (xs:List cL)
 |copy (x y:cL)
 |mA (t:Ty) (z:t.D) (x:cL)
 |sj (f:FuncId) (xs:List cL)
 |oG (m:Mode) (x:cL) (xs:List cL)
 |hZ (m:Mode) (f:FuncId) (xs:List cL)
 |ki (f:FuncId) (xs:List cL)
 |nG (f:FuncId) (xs:List cL)
 |mr (f:FuncId) (xs:List cL)
 |nH (m:Mode) (f:FuncId) (xs:List cL)
 |pq (m:Mode) (f:FuncId) (x:cL) (xs:List cL)
def du.er:du->aU
 |.mv x=>.mv x.er
 |.pick c x y=>.pick c.er x.er y.er
 |.alloc zs=>.alloc (zs.map SC.er)
 |.box sz x=>.box sz x.er
 |.build zs ps=>.build (zs.map SC.er) (ps.map fun p=>(p.1,p.2.1,p.2.2.er))
 |.ft ts ps=>.ft ts.length (ps.map cL.er)
 |.load ag sz x=>.load ag sz x.er
 |.qS ag sz x=>.qS ag sz x.er
 |.store sz x v=>.store sz x.er v.er
 |.pT x=>.pT x.er
 |.bin op x y=>.bin op x.er y.er
 |.nE op x y=>.nE op x.er y.er
 |.un op x=>.un op x.er
 |.conv k x=>.conv k x.er
 |.iJ m ts by_ z l c=>.iJ m ts.length by_ (Ty.aE ts z) l.er c.er
 |.slice sz x lo hi=>.slice sz x.er (lo.map cL.er) (hi.map cL.er)
 |.tail sz x lo=>.tail sz x.er lo.er
 |.nN off x=>.nN off x.er
 |.nj sz x i=>.nj sz x.er i.er
 |.ext i x=>.ext i x.er
 |.rM ag off sz x=>.rM ag off sz x.er
 |.re f gm x=>.re f gm x.er
 |.len x=>.len x.er
 |.append fl ts by_ x y=>.append fl ts.length by_ x.er y.er
 |.mm b x y=>.mm b x.er y.er
 |.call m f xs=>.call m f (xs.map cL.er)
 |.oF f xs=>.oF f (xs.map cL.er)
 |.copy x y=>.copy 1 x.er y.er
 |.mA t z x=>.mA (t.er z) x.er
 |.sj f xs=>.sj f (xs.map cL.er)
 |.oG m x xs=>.oG m x.er (xs.map cL.er)
 |.hZ m f xs=>.hZ m f (xs.map cL.er)
 |.ki f xs=>.ki f (xs.map cL.er)
 |.nG f xs=>.nG f (xs.map cL.er)
 |.mr f xs=>.mr f (xs.map cL.er)
 |.nH m f xs=>.nH m f (xs.map cL.er)
 |.pq m f x xs=>.pq m f x.er (xs.map cL.er)
theorem s7 (σ:af) (xs:List cL):(xs.map cL.er).map σ.er.ev=(xs.map σ.ev).map SV.er:=by
 simp[af.dL]
def HM (ev:cL->SV):List SC->List (Nat×Nat×cL)->Option (List SC)
 |zs,[]=>some zs
 |zs,(off,sz,x)::ps=>match(ev x).cells? with
  |some (_,cs)=>cr cs.length sz (eC (Nat.ble (off+sz) zs.length) (HM ev (dn zs off cs) ps))
  |none=>none
theorem af4 {σ:af}:∀{ps:List (Nat×Nat×cL)} {zs cs:List SC},HM σ.ev zs ps=some cs->
  rh σ.er.ev (zs.map SC.er) (ps.map fun p=>(p.1,p.2.1,p.2.2.er))=some (cs.map SC.er)
 |[],zs,cs,h=>by simp only[HM] at h;injection h with h;subst h;rfl
 |(off,sz,x)::ps,zs,cs,h=>by
  simp only[HM] at h;split at h
  ·rename_i b Xr hc;have be:=(aP h).1;replace h:=(aP h).2;subst be;have hb:=(bX h).1;replace h:=(bX h).2;have ih:=af4 h;rw[Eu] at ih;have gH:=Nat.le_of_ble_eq_true hb;simp only[List.map_cons,rh,af.dL,SV.kC hc,List.length_map,gH,and_self,if_true,ih]
  ·cases h
def Mm (l:List TD):Bool:=l.all fun x=>x.1.fh
theorem asO (l:List TD):fF (dj l)=Mm l:=by
 simp[fF,dj,Mm,List.all_map,Function.comp_def,Ty.w5]
def Vy (σ:af) (n:Nat) (gr:Bool) (m:Mode) (ts:List Ty) (xs:List (Ty.DL ts)) (kk off:Nat) (e:Ty.DL ts) (vs:List SC) (k:af->Option ρ):Option ρ:=
 match sub (Ty.gO ts e) off vs.length with
 |none=>none
 |some ii=>Br σ vs fun cs o σ1=>match qV ts (dn (Ty.gO ts e) off cs) with
  |none=>none
  |some e'=>match m with
   |.live=>eC (Mm cs&&Mm ii&&(σ1.h n).isSome&& !gr) (k (σ1.eD n (.row gr .live ts (bS xs kk e'))))
   |.aO=>eC (σ1.h n).isSome (k (σ1.eD n (.row gr (match o with|true=>.aO|false=>.aI) ts (bS xs kk e'))))
   |.aI=>eC (σ1.h n).isSome (k (σ1.eD n (.row gr .aI ts (bS xs kk e'))))
theorem XP (h:Nat->Option SB) (n:Nat):(df h n).isSome=(h n).isSome:=by
 unfold df;cases h n<;>rfl
theorem atu {σ:af} {n:Nat} {gr:Bool} {m:Mode} {ts:List Ty} {xs:List (Ty.DL ts)} {kk off:Nat} {e:Ty.DL ts} {vs:List SC} {k:af->Option ρ} {r:ρ}
  (h:Vy σ n gr m ts xs kk off e vs k=some r):
  ∃σ1:af,oq σ.er n gr m ts.length (List.map (Ty.aE ts) xs) kk off (Ty.aE ts e) (vs.map SC.er)=some σ1.er/\k σ1=some r:=by
 unfold Vy at h;split at h
 ·cases h
 ·rename_i ii ho;obtain⟨cs,o,σ1,h1,h2⟩:=HN h;have hold:sub (Ty.aE ts e) off (vs.map SC.er).length=some (dj ii):=by
   rw[<-Ty.pw];simp only[dj];rw[sG,List.length_map,ho];rfl
  split at h2
  ·cases h2
  ·rename_i e' he;have wz:dn (Ty.aE ts e) off (dj cs)=Ty.aE ts e':=by
    rw[wN he,<-Ty.pw];simp only[dj];rw[<-Eu]
   have uH:(List.map (Ty.aE ts) xs).set kk (Ty.aE ts e')=List.map (Ty.aE ts) (bS xs kk e'):=by
    show _=List.map (Ty.aE ts) (xs.set kk e');rw[List.map_set]
   have Dl:σ1.er.h n=(σ1.h n).map SB.er:=rfl;split at h2
   ·have hb:=(bX h2).1;replace h2:=(bX h2).2;simp only[Bool.and_eq_true,Bool.not_eq_true'] at hb;refine⟨_,?_,h2⟩;simp only[oq,hold,h1,if_true,asO,hb.1.1.1,hb.1.1.2,Dl,Option.isSome_map,hb.1.2,hb.2,and_self,wz,uH,af.pz,SB.er]
   ·have hb:=(bX h2).1;replace h2:=(bX h2).2;refine⟨_,?_,h2⟩;cases o<;>simp only[oq,hold,h1,Dl,Option.isSome_map,hb,wz,uH,af.pz,SB.er,reduceCtorEq,if_false,if_true,Bool.false_eq_true,cond_true,cond_false,ite_self]
   ·have hb:=(bX h2).1;replace h2:=(bX h2).2;refine⟨_,?_,h2⟩;cases o<;>simp only[oq,hold,h1,Dl,Option.isSome_map,hb,wz,uH,af.pz,SB.er,reduceCtorEq,if_false,if_true,Bool.false_eq_true,cond_true,cond_false,ite_self]
def xJ (us ts:List Ty) (xs:List (Ty.DL us)):Option (List (Ty.DL ts)):=if h:Ty.sU us ts=true then some (Ty.sV h▸xs) else none
theorem Pg {us ts:List Ty} {xs:List (Ty.DL us)} {ys:List (Ty.DL ts)} (h:xJ us ts xs=some ys):us.length=ts.length/\List.map (Ty.aE us) xs=List.map (Ty.aE ts) ys/\xs.length=ys.length:=by
 unfold xJ at h;split at h
 ·rename_i he;have:=Ty.sV he;subst this;injection h with h;rw[<-h];exact⟨rfl,rfl,rfl⟩
 ·cases h
def US (σ:af) (ts:List Ty) (v:SV) (k:List (Ty.DL ts)->Mode->af->Option ρ):Option ρ:=
 match v with
 |.one (.nil _)=>k [] .aO σ
 |.one (.sl a s lo len)=>match σ.h a with
  |some (.row true m us xs)=>cr s ts.length (cr lo 0 (match xJ us ts xs with
   |some ys=>(bo lo len (aa ys)).ae fun _=>k ys m (σ.del a)
   |none=>none))
  |_=>none
 |_=>none
theorem Kz {lo len l:Nat} {u:Unit} (h:bo lo len l=some u):lo=0/\len=l:=by
 unfold bo at h;split at h
 ·rename_i hc;exact hc
 ·cases h
theorem asK {σ:af} {ts:List Ty} {v:SV} {k:List (Ty.DL ts)->Mode->af->Option ρ} {r:ρ} (h:US σ ts v k=some r):
  ∃(xs:List (Ty.DL ts)) (m:Mode) (σ1:af),rv σ.er ts.length v.er=some (List.map (Ty.aE ts) xs,m,σ1.er)/\k xs m σ1=some r:=by
 unfold US at h;split at h
 ·exact⟨[],.aO,σ,rfl,h⟩
 ·rename_i a s lo len;split at h
  ·rename_i m us xs hn;have be:=(aP h).1;replace h:=(aP h).2;subst be;have be:=(aP h).1;replace h:=(aP h).2;subst be;split at h
   ·rename_i ys hc;obtain⟨c1,c2,c3⟩:=Pg hc;rw[d7] at h;obtain⟨_,hf,h⟩:=h;obtain⟨_,hlen⟩:=Kz hf
    replace hlen:len=ys.length:=hlen
    refine⟨ys,m,σ.del a,?_,h⟩;have bu:σ.er.h a=some (.row true m ts.length (List.map (Ty.aE ts) ys)):=by simp[af.er,df,hn,SB.er,c1,c2]
    subst hlen;simp only[SV.er,SC.er,rv,bu,List.length_map,and_self,if_true,af.zS]
   ·cases h
  ·cases h
 ·cases h
theorem afi (ts:List Ty) (xs:List (Ty.DL ts)) (h:Ty.fF ts=true):eO (List.map (Ty.aE ts) xs)=true:=by
 simp only[eO,List.all_eq_true,List.mem_map];rintro _ ⟨e,_,rfl⟩;rw[Ty.Hu];exact h
def UT (fl:Bool) (σ:af) (ts:List Ty) (m:Mode) (v:SV) (k:List (Ty.DL ts)->Mode->af->Option ρ):Option ρ:=
 match v with
 |.one (.nil _)=>k [] m σ
 |.one (.v (.list us) ys)=>match xJ us ts ys with
  |some zs=>match fl with
   |true=>eC (Ty.fF ts) (k zs m σ)
   |false=>match m with
    |.live=>none
    |_=>k zs .aI σ
  |none=>none
 |.one (.sl b s lo len)=>match σ.h b with
  |some (.row gr m' us ys)=>cr s ts.length (match xJ us ts ys with
   |some zs=>match fl with
    |true=>eC (Ty.fF ts) ((cX zs lo len).ae fun ws=>k ws m σ)
    |false=>(bo lo len (aa zs)).ae fun _=>match m,m' with
     |.aO,.aO=>k zs .aO (σ.del b)
     |.live,.live=>eC gr (k zs .live (σ.del b))
     |.aI,.aI=>k zs .aI (σ.del b)
     |.aO,.aI=>k zs .aI (σ.del b)
     |.aI,.aO=>k zs .aI (σ.del b)
     |_,_=>none
   |none=>none)
  |_=>none
 |_=>none
theorem asL {fl:Bool} {σ:af} {ts:List Ty} {m:Mode} {v:SV} {k:List (Ty.DL ts)->Mode->af->Option ρ} {r:ρ} (h:UT fl σ ts m v k=some r):
  ∃(ys:List (Ty.DL ts)) (m2:Mode) (σ1:af),mq fl σ.er ts.length m v.er=some (List.map (Ty.aE ts) ys,m2,σ1.er)/\k ys m2 σ1=some r:=by
 unfold UT at h;split at h
 ·exact⟨[],m,σ,rfl,h⟩
 ·rename_i us ys;split at h
  ·rename_i zs hc;obtain⟨e1,e2,e3⟩:=Pg hc;have nJ:Ty.er (.list us) ys=.list ts.length (List.map (Ty.aE ts) zs):=by rw[<-e1,<-e2];rfl
   split at h
   ·have hs:=(bX h).1;replace h:=(bX h).2;refine⟨zs,m,σ,?_,h⟩;simp only[SV.er,SC.er,nJ,mq,if_true,Bool.true_and,afi ts zs hs]
   ·split at h
    ·cases h
    ·rename_i hm;refine⟨zs,.aI,σ,?_,h⟩;have bL:m≠ .live:=fun e=>hm e;simp only[SV.er,SC.er,nJ,mq,if_true,Bool.false_and,Bool.false_eq_true,if_false,if_neg bL]
  ·cases h
 ·rename_i b s lo len;split at h
  ·rename_i gr m' us ys hn;have be:=(aP h).1;replace h:=(aP h).2;subst be;split at h
   ·rename_i zs hc;obtain⟨e1,e2,e3⟩:=Pg hc;have bu:σ.er.h b=some (.row gr m' ts.length (List.map (Ty.aE ts) zs)):=by simp[af.er,df,hn,SB.er,e1,e2]
    split at h
    ·have hs:=(bX h).1;replace h:=(bX h).2;rw[d7] at h;obtain⟨ws,hw,h⟩:=h;obtain⟨w1,w2⟩:=agT hw;refine⟨ws,m,σ,?_,h⟩;simp only[SV.er,SC.er,mq,bu,List.length_map,w1,w2,and_self,if_true,Bool.true_and,afi ts ws hs]
    ·rw[d7] at h;obtain⟨_,hf,h⟩:=h;obtain⟨rfl,hlen⟩:=Kz hf
     replace hlen:len=zs.length:=hlen
     subst hlen;have mI:List.take zs.length (List.map (Ty.aE ts) zs)=List.map (Ty.aE ts) zs:=by
      rw[List.take_of_length_le];simp
     cases m<;>cases m'<;>first
      |(cases h;done)
      |exact⟨zs,_,σ.del b,by simp[SV.er,SC.er,mq,bu,af.zS],h⟩
      |exact⟨zs,_,σ.del b,by have hg:=(bX h).1;subst hg;simp[SV.er,SC.er,mq,bu,af.zS],(bX h).2⟩
   ·cases h
  ·cases h
 ·cases h
def SC.Yx:SC->Bool
 |.fn _ _=>false
 |.bm=>false
 |_=>true
def Bm:List SV->Option (List SC)
 |[]=>some []
 |.one c::vs=>match c.Yx,Bm vs with
  |true,some cs=>some (c::cs)
  |_,_=>none
 |_::_=>none
theorem afE:∀{vs:List SV} {cs:List SC},Bm vs=some cs->
  (vs.map SV.er).mapM (fun v=>match v with|.one c=>if c.jW=true then none else some c|_=>none)=some (cs.map SC.er)/\(cs.map SC.er).all ah.LY=true
 |[],cs,h=>by simp only[Bm] at h;injection h with h;subst h;exact⟨rfl,rfl⟩
 |.one c::vs,cs,h=>by
  simp only[Bm] at h;split at h
  ·rename_i cs' e1 e2;injection h with h;subst h;obtain⟨i1,i2⟩:=afE e2;have hc:c.er.jW=false/\c.er.LY=true:=by cases c<;>first|exact⟨rfl,rfl⟩|(simp[SC.Yx] at e1)
   refine⟨?_,by simp[hc.2];simpa using i2⟩;simp only[List.map_cons,List.mapM_cons,SV.er,hc.1];rw[i1];rfl
  ·cases h
 |.agg _::_,cs,h=>by simp[Bm] at h
 |.bH _::_,cs,h=>by simp[Bm] at h
end
end
theorem anM {α β:Type} (f:α->β) {l:List α} {i:Nat} {e:α} (h:l[i]? =some e):(l.map f)[i]? =some (f e):=by rw[List.getElem?_map,h];rfl
section
variable {ρ:Type}
def L4:Bool->Mode
 |true=>.aO
 |false=>.aI
theorem aqJ (o:Bool):(if o=true then Mode.aO else .aI)=L4 o:=by cases o<;>rfl
def L0 (σ:af) (d:Int) (o:Option cL):Option Int:=
 match o with
 |none=>some d
 |some q=>(σ.ev q).dV
theorem L3 {σ:af} {d l:Int} {o:Option cL} (h:L0 σ d o=some l):(match o.map cL.er with|none=>some d|some q=>(σ.er.ev q).dV)=some l:=by
 cases o with
 |none=>exact h
 |some q=>simp only[Option.map_some,af.dL];exact SV.yx h
def vh (gm:Bool) (n:Int) (c:SC):List SC:=match gm with
 |true=>[.v (.int .i64) n,.v (.int .i64) (1:Int),c]
 |false=>[.v (.int .i64) (1:Int),.v (.int .i64) n,c]
theorem Vv (gm:Bool) (n:Int) (c:SC):(vh gm n c).map SC.er=Be gm n c.er:=by cases gm<;>rfl
def Bh:List SC->Option (List TD)
 |[]=>some []
 |.v t x::l=>match t.fh with
  |true=>match Bh l with
   |some ds=>some (⟨t,x⟩::ds)
   |none=>none
  |false=>none
 |_::_=>none
theorem afn:∀{vs:List SC} {ds:List TD},Bh vs=some ds->mB (vs.map SC.er)=some (dj ds)
 |[],ds,h=>by simp only[Bh] at h;injection h with h;subst h;rfl
 |c::vs,ds,h=>by
  cases c with
  |v t x=>
   simp only[Bh] at h;split at h
   ·rename_i hs;split at h
    ·rename_i l hl;injection h with h;subst h;simp only[List.map_cons,SC.er,mB,Ty.w5,hs,if_true,afn hl,dj,Option.map_some]
    ·cases h
   ·cases h
  |_=>simp[Bh] at h
def Vx (us:List Ty) (e:Ty.DL us) (off s i:Nat) (vs:List SC) (k:Ty.DL us->Option ρ):Option ρ:=
 match(Ty.gO us e)[off]? with
 |some ⟨.list ts,ys⟩=>cr ts.length s (cr vs.length s (eC (Ty.fF ts) ((cu (α:=Ty.DL ts) ys i).ae fun _=>match Bh vs with
  |some ds=>match qV ts ds with
   |some el=>match Hw us e off ⟨.list ts,bS (α:=Ty.DL ts) ys i el⟩ with
    |some e'=>k e'
    |none=>none
   |none=>none
  |none=>none)))
 |_=>none
theorem as2 {us ts:List Ty} {xs:List (Ty.DL us)} {kk off i:Nat} {e e':Ty.DL us} {vs:List SC} {ds:List TD} {el y0:Ty.DL ts} (ys:List (Ty.DL ts)) (he:xs[kk]? =some e) (hd:(Ty.gO us e)[off]? =some ⟨.list ts,ys⟩)
  (iW:vs.length=ts.length) (hs:Ty.fF ts=true) (hy:ys[i]? =some y0) (jS:Bh vs=some ds) (lm:qV ts ds=some el) (wz:Hw us e off ⟨.list ts,bS ys i el⟩=some e'):
  w6 (List.map (Ty.aE us) xs) kk off ts.length i (vs.map SC.er)=some (List.map (Ty.aE us) (bS xs kk e')):=by
 have iT:(Ty.aE us e)[off]? =some (.list ts.length (List.map (Ty.aE ts) ys)):=J9 hd;have hx:(List.map (Ty.aE us) xs)[kk]? =some (Ty.aE us e):=by rw[List.getElem?_map,he];rfl
 have hi:i<(List.map (Ty.aE ts) ys).length:=by rw[List.length_map];exact(List.getElem?_eq_some_iff.1 hy).1
 have aal:Ty.aE us e'=(Ty.aE us e).set off (.list ts.length (List.map (Ty.aE ts) (bS ys i el))):=U7 wz;unfold w6;rw[hx,Option.bind_some,iT];simp only
 rw[if_pos ⟨trivial,by simpa using iW,hi,tG ts ys hs⟩,afn jS,List.getD_eq_getElem?_getD,hx];simp only[Option.map_some,Option.getD_some];unfold bS at aal⊢;rw[List.map_set,aal,List.map_set,wN lm]
theorem att {us:List Ty} {xs:List (Ty.DL us)} {kk:Nat} {e:Ty.DL us} {off s i:Nat} {vs:List SC} {k:Ty.DL us->Option ρ} {r:ρ} (he:xs[kk]? =some e) (h:Vx us e off s i vs k=some r):
  ∃e',w6 (List.map (Ty.aE us) xs) kk off s i (vs.map SC.er)=some (List.map (Ty.aE us) (bS xs kk e'))/\k e'=some r:=by
 unfold Vx at h;split at h
 ·rename_i ts ys hd;have x5:=(aP h).1;replace h:=(aP h).2;have v5:=(aP h).1;replace h:=(aP h).2;have hs:=(bX h).1;replace h:=(bX h).2;rw[d7] at h;obtain⟨y0,hy,h⟩:=h;split at h
  ·rename_i ds jS;split at h
   ·rename_i el lm;split at h
    ·rename_i e' wz;subst x5;exact⟨e',as2 ys he hd v5 hs hy jS lm wz,h⟩
    ·cases h
   ·cases h
  ·cases h
 ·cases h
def ff (T:List au) (d:Option Nat) (op:du) (σ:af) (k:af->Option ρ):Option ρ:=
 match op with
 |.mv x=>k (σ.put d (σ.ev x))
 |.pick c x y=>match σ.ev c with
  |.one (.v .bool b)=>match σ.ev x,σ.ev y with
   |.one (.v t x'),.one (.v u y')=>match Ty.cast u t y' with
    |some z=>k (σ.put d (.one (.v t (av b x' z))))
    |none=>av b (k (σ.put d (σ.ev x))) (k (σ.put d (σ.ev y)))
   |_,_=>av b (k (σ.put d (σ.ev x))) (k (σ.put d (σ.ev y)))
  |_=>none
 |.alloc zs=>match d with
  |some n=>match σ.ins n (.box zs) with
   |some σ1=>k (σ1.put d (.one (.ptr n 0 0 0)))
   |none=>none
  |none=>none
 |.box sz x=>match d,(σ.ev x).cells? with
  |some n,some (_,cs)=>cr cs.length sz (match σ.ins n (.box cs) with
   |some σ1=>k (σ1.put d (.one (.ptr n 0 0 0)))
   |none=>none)
  |_,_=>none
 |.build zs parts=>match HM σ.ev zs parts with
  |some cs=>k (σ.put d (.agg cs))
  |none=>none
 |.ft ts parts=>match d with
  |some n=>MS ts σ (parts.map σ.ev) fun es o σ1=>match σ1.ins n (.row true (L4 o) ts es) with
   |some σ2=>k (σ2.put d (.one (.sl n ts.length 0 es.length)))
   |none=>none
  |none=>none
 |.load ag sz x=>match σ.ev x with
  |.one p=>HE σ.h p sz fun cs=>k (σ.put d (Bx ag cs))
  |_=>none
 |.qS ag sz x=>match σ.ev x with
  |.one p=>Va σ p fun σ1=>HE σ1.h p sz fun cs=>k (σ1.put d (Bx ag cs))
  |_=>none
 |.store sz x v=>match σ.ev x,(σ.ev v).cells? with
  |.one (.ptr n kk aB off),some (_,vs)=>cr vs.length sz (match σ.h n with
   |some (.box cs)=>cr kk 0 (eC (Nat.ble (off+sz) cs.length) (k (σ.eD n (.box (dn cs off vs)))))
   |some (.row gr m ts xs)=>cr aB ts.length ((cu xs kk).ae fun e=>Vy σ n gr m ts xs kk off e vs k)
   |none=>none)
  |.one (.cY n kk aB off s i),some (_,vs)=>cr vs.length sz (match σ.h n with
   |some (.row false .live us xs)=>cr aB us.length ((cu xs kk).ae fun e=>Vx us e off s i vs fun e'=>k (σ.eD n (.row false .live us (bS xs kk e'))))
   |_=>none)
  |_,_=>none
 |.pT x=>match σ.ev x with
  |.one (.ptr n kk sz off)=>eC (σ.h n).isSome (k (σ.put d (.one (.ptr n kk sz off))))
  |.one (.de ts x off)=>k (σ.put d (.one (.de ts x off)))
  |.one (.cE ts x off j n s len)=>k (σ.put d (.one (.cE ts x off j n s len)))
  |_=>none
 |.bin op x y=>O7 op (σ.ev x) (σ.ev y) fun t z=>k (σ.put d (.one (.v t z)))
 |.nE op x y=>O6 op (σ.ev x) (σ.ev y) fun t z=>k (σ.put d (.one (.v t z)))
 |.un op x=>VW op (σ.ev x) fun t z=>k (σ.put d (.one (.v t z)))
 |.conv kd x=>match σ.ev x with
  |.one (.v (.int _) n)=>k (σ.put d (.one (.v (.int kd) (ah1 kd n))))
  |_=>none
 |.iJ m ts by_ z l c=>match d,(σ.ev l).dV,(σ.ev c).dV with
  |some n,some a,some b=>(lV a b by_).ae fun len=>match σ.ins n (.row true m ts (dC len z)) with
   |some σ1=>k (σ1.put d (.one (.sl n ts.length 0 len)))
   |none=>none
  |_,_,_=>none
 |.slice sz x lo hi=>
  match σ.ev x,L0 σ 0 lo with
  |.one (.sl n s l0 len),some l=>
   match L0 σ (aC len) hi with
   |some h=>cr s sz (eC (σ.h n).isSome ((mQ l h len).ae fun p=>k (σ.put d (.one (.sl n s (aG l0 p.1) p.2)))))
   |none=>none
  |.one (.v (.list ts) xs),some l=>
   match L0 σ (aC (aa (α:=Ty.DL ts) xs)) hi with
   |some h=>cr ts.length sz ((mQ l h (aa (α:=Ty.DL ts) xs)).ae fun p=>k (σ.put d (.one (.v (.list ts) (f9 (α:=Ty.DL ts) xs p.1 p.2)))))
   |none=>none
  |_,_=>none
 |.tail sz x lo=>match d,σ.ev x,(σ.ev lo).dV with
  |some n,.one (.sl a s l0 len),some l=>match σ.h a with
   |some (.row true m ts xs)=>cr s ts.length (cr ts.length sz (cr l0 0 ((bo l0 len (aa xs)).ae fun _=>(mQ l (aC (aa xs)) (aa xs)).ae fun p=>
    match(σ.del a).ins n (.row true m ts (f9 xs p.1 p.2)) with
    |some σ1=>k (σ1.put d (.one (.sl n sz 0 p.2)))
    |none=>none)))
   |_=>none
  |_,_,_=>none
 |.nN off x=>match σ.ev x with
  |.one (.ptr n kk sz o)=>eC (σ.h n).isSome (k (σ.put d (.one (.ptr n kk sz (o+off)))))
  |.one (.de ts x o)=>k (σ.put d (.one (.de ts x (o+off))))
  |.one (.cE ts x o j n s len)=>k (σ.put d (.one (.cE ts x (o+off) j n s len)))
  |_=>none
 |.nj sz x i=>match σ.ev x,(σ.ev i).dV with
  |.one (.sl n s lo len),some j=>cr s sz (eC (σ.h n).isSome ((eX j len).ae fun q=>k (σ.put d (.one (.ptr n (aG lo q) s 0)))))
  |.one (.v (.list ts) xs),some j=>cr ts.length sz ((cM (α:=Ty.DL ts) xs j).ae fun e=>k (σ.put d (.one (.de ts e 0))))
  |.one (.bw n kk aB off s len),some j=>xc σ.h (.bw n kk aB off s len) fun t x=>match t,x with
   |.list ts,ys=>cr ts.length sz ((eX j (aa (α:=Ty.DL ts) ys)).ae fun q=>k (σ.put d (.one (.cY n kk aB off sz q))))
   |_,_=>none
  |_,_=>none
 |.ext i x=>match σ.ev x with
  |.bH xs=>match xs[i]? with
   |some (ag,cs)=>k (σ.put d (Bx ag cs))
   |none=>none
  |_=>none
 |.rM ag off sz x=>match σ.ev x with
  |.agg cs=>match sub cs off sz with
   |some l=>k (σ.put d (Bx ag l))
   |none=>none
  |_=>none
 |.re f gm x=>match σ.ev x with
  |.one (.sl n sz lo len)=>eC (σ.h n).isSome (k (σ.put d (.agg (vh gm (aC len) (.sl n sz lo len)))))
  |.one (.v (.list ts) xs)=>k (σ.put d (.agg (vh gm (aC (aa (α:=Ty.DL ts) xs)) (.v (.list ts) xs))))
  |.one (.nil ts)=>k (σ.put d (.agg (vh gm (0:Int) (.nil ts))))
  |_=>none
 |.len x=>match σ.ev x with
  |.one (.sl n sz lo len)=>eC (σ.h n).isSome (k (σ.put d (.one (.v (.int .i64) (aC len)))))
  |.one (.v (.list ts) xs)=>k (σ.put d (.one (.v (.int .i64) (aC (aa (α:=Ty.DL ts) xs)))))
  |.one (.nil ts)=>k (σ.put d (.one (.v (.int .i64) (0:Int))))
  |.one (.bw n kk aB off sz len)=>xc σ.h (.bw n kk aB off sz len) fun t x=>match t,x with
   |.list ts,ys=>k (σ.put d (.one (.v (.int .i64) (aC (aa (α:=Ty.DL ts) ys)))))
   |_,_=>none
  |_=>none
 |.append fl ts by_ x y=>match d with
  |none=>none
  |some n=>US σ ts (σ.ev x) fun xs m σ1=>UT fl σ1 ts m (σ.ev y) fun ys m2 σ2=>
   (jR (aG (aa xs) (aa ys)) by_).ae fun _=>match σ2.ins n (.row true m2 ts (dF xs ys)) with
    |some gK=>k (gK.put d (.one (.sl n ts.length 0 (aG (aa xs) (aa ys)))))
    |none=>none
 |.mm mx x y=>match σ.ev x,σ.ev y with
  |.one (.v (.int kd) a),.one (.v (.int kd') b)=>match mx with
   |true=>k (σ.put d (.one (.v (.int kd) (SD a b))))
   |false=>k (σ.put d (.one (.v (.int kd) (DO a b))))
  |_,_=>none
 |.call m f xs=>Mp T m d f (xs.map σ.ev) σ k
 |.oF f xs=>U0 T d f (xs.map σ.ev) σ k
 |.copy x y=>match σ.ev x,σ.ev y with
  |.one (.sl n s lo len),.one c=>match σ.h n with
   |some (.row gr m ts xs)=>cr s 1 (cr ts.length 1 (eC (m.own&&Ty.fF ts) (xc σ.h c fun u ys=>match u,ys with
    |.list us,ys=>match Ty.cast (.list us) (.list ts) ys with
     |some zs=>(J6 (α:=Ty.DL ts) xs lo len (List.take (α:=Ty.DL ts) len zs)).ae fun ar=>k ((σ.eD n (.row gr m ts ar)).put d (.one (.v (.int .i64) (aC (Nat.min (aa (α:=Ty.DL ts) zs) len)))))
     |none=>none
    |_,_=>none)))
   |_=>none
  |_,_=>none
 |.mA t z x=>match σ.ev x with
  |.one (.sl n s lo len)=>match σ.h n with
   |some (.row gr m ts xs)=>cr s 1 (eC (m.own&&t.fh) (match qV ts [⟨t,z⟩] with
    |some e=>(J6 (α:=Ty.DL ts) xs lo len (dC len e)).ae fun ar=>k ((σ.eD n (.row gr m ts ar)).put d (.bH []))
    |none=>none))
   |_=>none
  |_=>none
 |.sj f xs=>match Bm (xs.map σ.ev) with
  |some cs=>k (σ.put d (.one (.fn f cs)))
  |none=>none
 |.oG m x xs=>match σ.ev x with
  |.one (.fn f cK)=>Mp T m d f (xs.map σ.ev++cK.map .one) σ k
  |_=>none
 |.hZ m f xs=>U1 T m d f (xs.map σ.ev) σ k
 |.ki f xs=>UZ T d f (xs.map σ.ev) σ k
 |.nG f xs=>U5 T d f (xs.map σ.ev) σ k
 |.mr f xs=>U4 T d f (xs.map σ.ev) σ k
 |.nH m f xs=>U6 T m d f (xs.map σ.ev) σ k
 |.pq m f x xs=>match σ.ev x with
  |.one (.fn g cK)=>cr g f (U3 T m d f (xs.map σ.ev++cK.map .one) σ k)
  |_=>none
theorem FH {σ:af} {n:Nat} {b:SB} (h:σ.h n=some b):σ.er.h n=some b.er:=by simp[af.er,df,h]
theorem CR {σ:af} {n:Nat} (h:(σ.h n).isSome=true):(σ.er.h n).isSome=true:=by
 simp only[af.er,XP,h]
theorem V0 (t:Ty) (x:t.D):(SV.one (.v t x)).er=.one (.c (t.er x)):=rfl
theorem Xq {ts:List Ty} {xs ar ys:List (Ty.DL ts)} {lo len:Nat} (h:J6 xs lo len ys=some ar):lo+len<=xs.length/\List.map (Ty.aE ts) ar=dn (List.map (Ty.aE ts) xs) lo (List.map (Ty.aE ts) ys):=by
 unfold J6 at h;split at h
 ·rename_i hc;injection h with h;subst h;exact⟨hc,Eu (Ty.aE ts) xs ys lo⟩
 ·cases h
theorem Ty.ahE {t u:Ty} {x:t.D} {y:u.D} (h:Ty.cast t u x=some y):t.er x=u.er y:=by
 unfold Ty.cast at h;split at h
 ·rename_i he;have:=Ty.beq_eq he;subst this;injection h with h;rw[<-h]
 ·cases h
theorem afr {T:List au} {d:Option Nat} {op:du} {σ:af} {k:af->Option ρ} {r:ρ} (h:ff T d op σ k=some r):
  ∃σ1:af,exec (cI T) d op.er σ.er=some σ1.er/\k σ1=some r:=by
 cases op with
 |mv x=>exact⟨_,by simp only[du.er,exec,af.dT,af.dL],h⟩
 |pick c x y=>
  simp only[ff] at h;split at h
  ·rename_i b hc;have dm:σ.er.ev c.er=.one (.c (.bool b)):=by rw[af.dL,hc];rfl
   have db:∀σ1:af,σ1.er=σ.er.put d (cond b (σ.ev x).er (σ.ev y).er)->exec (cI T) d (du.er (.pick c x y)) σ.er=some σ1.er:=by
    intro σ1 e;simp only[du.er,exec,dm,af.dL,e];cases b<;>rfl
   have gen:av b (k (σ.put d (σ.ev x))) (k (σ.put d (σ.ev y)))=some r->∃σ1:af,exec (cI T) d (du.er (.pick c x y)) σ.er=some σ1.er/\k σ1=some r:=by
    intro h;cases hb:(b:Bool) with
    |true=>rw[hb] at h;exact⟨_,db _ (by rw[af.dT,hb];rfl),h⟩
    |false=>rw[hb] at h;exact⟨_,db _ (by rw[af.dT,hb];rfl),h⟩
   split at h
   ·rename_i t x' u y' ex ey;split at h
    ·rename_i z hz;refine⟨_,db _ ?_,h⟩;rw[af.dT,ex,ey,V0,V0,V0,Ty.Ph hz];cases (b:Bool)<;>rfl
    ·exact gen h
   ·exact gen h
  ·cases h
 |alloc zs=>
  simp only[ff] at h;split at h
  ·rename_i n;split at h
   ·rename_i σ1 e;have:=af.oJ e;exact⟨_,by simp only[du.er,exec];rw[show aq.box (zs.map SC.er)=(SB.box zs).er from rfl,this,af.dT];rfl,h⟩
   ·cases h
  ·cases h
 |box sz x=>
  simp only[ff] at h;split at h
  ·rename_i n b cs hc;have be:=(aP h).1;replace h:=(aP h).2;subst be;split at h
   ·rename_i σ1 e;have:=af.oJ e;refine⟨_,?_,h⟩;simp only[du.er,exec,af.dL,SV.kC hc,List.length_map,if_true];rw[show aq.box (cs.map SC.er)=(SB.box cs).er from rfl,this,af.dT];rfl
   ·cases h
  ·cases h
 |build zs parts=>
  simp only[ff] at h;split at h
  ·rename_i cs hc;exact⟨_,by simp only[du.er,exec,af4 hc,af.dT];rfl,h⟩
  ·cases h
 |ft ts parts=>
  simp only[ff] at h;split at h
  ·rename_i n;obtain⟨es,o,σ1,h1,h2⟩:=af7 h;split at h2
   ·rename_i σ2 e;have i:=af.oJ e;refine⟨_,?_,h2⟩;simp only[du.er,exec,s7,h1,af.dT];have:(SB.row true (L4 o) ts es).er=aq.row true (L4 o) ts.length (List.map (Ty.aE ts) es):=rfl;rw[aqJ,<-this,i,List.length_map];rfl
   ·cases h2
  ·cases h
 |load ag sz x=>
  simp only[ff] at h;split at h
  ·rename_i p hp;obtain⟨l,h1,h2⟩:=Vd h;have bC:σ.er.ev x.er=.one p.er:=by rw[af.dL,hp];rfl
   have iS:loadAt σ.er.h p.er sz=some (l.map SC.er):=h1;exact⟨_,by simp only[du.er,exec,bC,iS,af.dT,EG],h2⟩
  ·cases h
 |qS ag sz x=>
  simp only[ff] at h;split at h
  ·rename_i p hp;obtain⟨σ1,h0,h⟩:=as4 h;obtain⟨l,h1,h2⟩:=Vd h;have bC:σ.er.ev x.er=.one p.er:=by rw[af.dL,hp];rfl
   have iS:loadAt σ1.er.h p.er sz=some (l.map SC.er):=h1;exact⟨_,by simp only[du.er,exec,bC,h0,iS,af.dT,EG],h2⟩
  ·cases h
 |store sz x v=>
  simp only[ff] at h;split at h
  ·rename_i n kk aB off b vs hp hc;have be:=(aP h).1;replace h:=(aP h).2;subst be;have bC:σ.er.ev x.er=.one (.ptr n kk aB off):=by rw[af.dL,hp];rfl
   have dm:(σ.er.ev v.er).cells?=some (b,vs.map SC.er):=by rw[af.dL];exact SV.kC hc
   split at h
   ·rename_i cs hn;have be:=(aP h).1;replace h:=(aP h).2;subst be;have hb:=(bX h).1;replace h:=(bX h).2;have gH:=Nat.le_of_ble_eq_true hb;refine⟨_,?_,h⟩;simp only[du.er,exec,bC,dm,List.length_map,if_true,FH hn,SB.er,gH,and_self,af.pz,<-Eu]
   ·rename_i gr m ts xs hn;have be:=(aP h).1;replace h:=(aP h).2;subst be;rw[d7] at h;obtain⟨e,he,h⟩:=h
    replace he:xs[kk]? =some e:=he
    obtain⟨σ1,s1,s2⟩:=atu h;refine⟨σ1,?_,s2⟩;have iT:(List.map (Ty.aE ts) xs)[kk]? =some (Ty.aE ts e):=by rw[List.getElem?_map,he];rfl
    simp only[du.er,exec,bC,dm,List.length_map,if_true,FH hn,SB.er,iT,s1]
   ·cases h
  ·rename_i n kk aB off s i b vs hp hc;have be:=(aP h).1;replace h:=(aP h).2;subst be;have bC:σ.er.ev x.er=.one (.cY n kk aB off s i):=by rw[af.dL,hp];rfl
   have dm:(σ.er.ev v.er).cells?=some (b,vs.map SC.er):=by rw[af.dL];exact SV.kC hc
   split at h
   ·rename_i gr us xs hn;have be:=(aP h).1;replace h:=(aP h).2;subst be;rw[d7] at h;obtain⟨e,he,h⟩:=h
    replace he:xs[kk]? =some e:=he
    obtain⟨e',s1,s2⟩:=att he h;refine⟨_,?_,s2⟩;simp only[du.er,exec,bC,dm,List.length_map,if_true,FH hn,SB.er,s1,af.pz]
   ·cases h
  ·cases h
 |pT x=>
  simp only[ff] at h;split at h
  ·rename_i n kk sz off hp;have hb:=(bX h).1;replace h:=(bX h).2;have bC:σ.er.ev x.er=.one (.ptr n kk sz off):=by rw[af.dL,hp];rfl
   exact⟨_,by simp only[du.er,exec,bC,CR hb,if_true,af.dT];rfl,h⟩
  ·rename_i ts y off hp;have bC:σ.er.ev x.er=.one (.de (Ty.aE ts y) off):=by rw[af.dL,hp];rfl
   exact⟨_,by simp only[du.er,exec,bC,af.dT];rfl,h⟩
  ·rename_i ts y off j n s len hp;have bC:σ.er.ev x.er=.one (.cE (Ty.aE ts y) off j n s len):=by rw[af.dL,hp];rfl
   exact⟨_,by simp only[du.er,exec,bC,af.dT];rfl,h⟩
  ·cases h
 |bin op x y=>
  simp only[ff] at h;obtain⟨t,z,h1,h2⟩:=ahr h;exact⟨_,by simp only[du.er,exec,af.dL,h1,af.dT];rfl,h2⟩
 |nE op x y=>
  simp only[ff] at h;obtain⟨t,z,h1,h2⟩:=ahp h;exact⟨_,by simp only[du.er,exec,af.dL,h1,af.dT];rfl,h2⟩
 |un op x=>
  simp only[ff] at h;obtain⟨t,z,h1,h2⟩:=atX h;exact⟨_,by simp only[du.er,exec,af.dL,h1,af.dT];rfl,h2⟩
 |conv kd x=>
  simp only[ff] at h;split at h
  ·rename_i k' n hp;have bC:σ.er.ev x.er=.one (.c (.int k' n)):=by rw[af.dL,hp];rfl
   exact⟨_,by simp only[du.er,exec,bC,af.dT];rfl,h⟩
  ·cases h
 |iJ m ts by_ z l c=>
  simp only[ff] at h;split at h
  ·rename_i n a b ha hb;rw[d7] at h;obtain⟨len,hm,h⟩:=h;unfold lV at hm;split at hm
   ·rename_i cR;injection hm with hm;subst hm;split at h
    ·rename_i σ1 e;have i:=af.oJ e;have vT:(σ.er.ev l.er).dV=some a:=by rw[af.dL];exact SV.yx ha
     have aJ:(σ.er.ev c.er).dV=some b:=by rw[af.dL];exact SV.yx hb
     refine⟨_,?_,h⟩;have hz:(Ty.aE ts z).length=ts.length:=Ty.CQ ts z;have eW:(SB.row true m ts (dC a.toNat z)).er=aq.row true m ts.length (List.replicate a.toNat (Ty.aE ts z)):=by simp[SB.er,dC,List.map_replicate]
     have QC:a<=b/\0<=a/\b.toNat*by_<=dR/\(Ty.aE ts z).length=ts.length:=⟨cR.1,cR.2.1,cR.2.2,hz⟩;simp only[du.er,exec,vT,aJ,if_pos QC,<-eW,i,af.dT];rfl
    ·cases h
   ·cases hm
  ·cases h
 |slice sz x lo hi=>
  simp only[ff] at h;split at h
  ·rename_i n s l0 len l hp el;have bC:σ.er.ev x.er=.one (.sl n s l0 len):=by rw[af.dL,hp];rfl
   split at h
   ·rename_i hh eh;have be:=(aP h).1;replace h:=(aP h).2;subst be;have hb:=(bX h).1;replace h:=(bX h).2;rw[d7] at h;obtain⟨p,hs,h⟩:=h;unfold mQ at hs;split at hs
    ·rename_i cR;injection hs with hs;subst hs;refine⟨_,?_,h⟩;have vW:s=s/\0<=l/\l<=hh/\hh<=len/\(σ.er.h n).isSome=true:=⟨rfl,cR.1,cR.2.1,cR.2.2,CR hb⟩;have e1:=L3 el;have e2:=L3 eh;rw[af.dT];cases lo with
     |none=>
      simp only[Option.map_none,Option.some.injEq] at e1;subst e1;cases hi with
      |none=>
       simp only[Option.map_none,Option.some.injEq] at e2;subst e2;simp only[du.er,exec,bC,Option.map_none];exact if_pos ⟨trivial,vW.2⟩
      |some q=>
       simp only[Option.map_some] at e2;simp only[du.er,exec,bC,Option.map_none,Option.map_some,e2];exact if_pos ⟨trivial,vW.2⟩
     |some q0=>
      simp only[Option.map_some] at e1;cases hi with
      |none=>
       simp only[Option.map_none,Option.some.injEq] at e2;subst e2;simp only[du.er,exec,bC,Option.map_none,Option.map_some,e1];exact if_pos ⟨trivial,vW.2⟩
      |some q=>
       simp only[Option.map_some] at e2;simp only[du.er,exec,bC,Option.map_some,e1,e2];exact if_pos ⟨trivial,vW.2⟩
    ·cases hs
   ·cases h
  ·rename_i ts xs l hp el;have bC:σ.er.ev x.er=.one (.c (.list ts.length (List.map (Ty.aE ts) xs))):=by rw[af.dL,hp];rfl
   split at h
   ·rename_i hh eh;have be:=(aP h).1;replace h:=(aP h).2;subst be;rw[d7] at h;obtain⟨p,hs,h⟩:=h;unfold mQ at hs;split at hs
    ·rename_i cR;injection hs with hs;subst hs;refine⟨_,?_,h⟩;have vW:ts.length=ts.length/\0<=l/\l<=hh/\hh<=(List.map (Ty.aE ts) xs).length:=⟨rfl,cR.1,cR.2.1,Int.le_trans cR.2.2 (Int.le_of_eq (congrArg _ (List.length_map (Ty.aE ts)).symm))⟩;have e1:=L3 el;have e2:(match hi.map cL.er with|none=>some (((List.map (Ty.aE ts) xs).length:Nat):Int)|some q=>(σ.er.ev q).dV)=some hh:=by rw[show(List.map (Ty.aE ts) xs).length=List.length (α:=Ty.DL ts) xs from List.length_map (Ty.aE ts)];exact L3 eh
     rw[af.dT];have KV:List.map (Ty.aE ts) (List.take (hh - l).toNat (List.drop (α:=Ty.DL ts) l.toNat xs))=((List.map (Ty.aE ts) xs).drop l.toNat).take (hh - l).toNat:=by
      rw[List.map_take];exact congrArg (List.take (hh - l).toNat) List.map_drop
     refine Eq.trans ?_ (congrArg (fun q=>some (σ.er.put d (aj.one (.c (.list ts.length q))))) KV.symm);cases lo with
     |none=>
      simp only[Option.map_none,Option.some.injEq] at e1;subst e1;cases hi with
      |none=>
       simp only[Option.map_none,Option.some.injEq] at e2;subst e2;simp only[du.er,exec,bC,Option.map_none];exact if_pos ⟨trivial,vW.2⟩
      |some q=>
       simp only[Option.map_some] at e2;simp only[du.er,exec,bC,Option.map_none,Option.map_some,e2];exact if_pos ⟨trivial,vW.2⟩
     |some q0=>
      simp only[Option.map_some] at e1;cases hi with
      |none=>
       simp only[Option.map_none,Option.some.injEq] at e2;subst e2;simp only[du.er,exec,bC,Option.map_none,Option.map_some,e1];exact if_pos ⟨trivial,vW.2⟩
      |some q=>
       simp only[Option.map_some] at e2;simp only[du.er,exec,bC,Option.map_some,e1,e2];exact if_pos ⟨trivial,vW.2⟩
    ·cases hs
   ·cases h
  ·cases h
 |tail sz x lo=>
  simp only[ff] at h;split at h
  ·rename_i n a0 s l0 len l hp hl;have bC:σ.er.ev x.er=.one (.sl a0 s l0 len):=by rw[af.dL,hp];rfl
   have eG:(σ.er.ev lo.er).dV=some l:=by rw[af.dL];exact SV.yx hl
   split at h
   ·rename_i m ts xs hn;have be:=(aP h).1;replace h:=(aP h).2;subst be;have be:=(aP h).1;replace h:=(aP h).2;subst be;have be:=(aP h).1;replace h:=(aP h).2;subst be;rw[d7] at h;obtain⟨_,hf,h⟩:=h;obtain⟨_,hlen⟩:=Kz hf;rw[d7] at h;obtain⟨p,hs,h⟩:=h;unfold mQ at hs;split at hs
    ·rename_i cR;injection hs with hs;subst hs;simp only at h;split at h
     ·rename_i σ1 e1;refine⟨_,?_,h⟩;have Dg:len=xs.length:=hlen;have ZY:0<=l/\l<=(xs.length:Int):=⟨cR.1,cR.2.1⟩;have bu:σ.er.h a0=some (.row true m ts.length (List.map (Ty.aE ts) xs)):=by simp[af.er,df,hn,SB.er]
      have i1:=af.oJ e1;have e2:(aC (aa xs) - l).toNat=xs.length - l.toNat:=by simp only[aC,aa];omega
      have e3:f9 xs l.toNat (aC (aa xs) - l).toNat=xs.drop l.toNat:=by rw[e2];unfold f9;rw[List.take_of_length_le (by simp)]
      rw[e3] at i1;simp only[SB.er,af.zS,List.map_drop] at i1;simp only[du.er,exec,bC,eG,bu,List.length_map,Dg,ZY.1,ZY.2,and_self,if_true,i1,af.dT,SV.er,SC.er,e2]
     ·cases h
    ·cases hs
   ·cases h
  ·cases h
 |nN off x=>
  simp only[ff] at h;split at h
  ·rename_i n kk sz o hp;have hb:=(bX h).1;replace h:=(bX h).2;have bC:σ.er.ev x.er=.one (.ptr n kk sz o):=by rw[af.dL,hp];rfl
   exact⟨_,by simp only[du.er,exec,bC,CR hb,if_true,af.dT];rfl,h⟩
  ·rename_i ts y o hp;have bC:σ.er.ev x.er=.one (.de (Ty.aE ts y) o):=by rw[af.dL,hp];rfl
   exact⟨_,by simp only[du.er,exec,bC,af.dT];rfl,h⟩
  ·rename_i ts y o j n s len hp;have bC:σ.er.ev x.er=.one (.cE (Ty.aE ts y) o j n s len):=by rw[af.dL,hp];rfl
   exact⟨_,by simp only[du.er,exec,bC,af.dT];rfl,h⟩
  ·cases h
 |nj sz x i=>
  simp only[ff] at h;split at h
  ·rename_i n s lo len j hp hi;have be:=(aP h).1;replace h:=(aP h).2;subst be;have hb:=(bX h).1;replace h:=(bX h).2;rw[d7] at h;obtain⟨q,hq,h⟩:=h;unfold eX at hq;split at hq
   ·rename_i cR;injection hq with hq;subst hq;have bC:σ.er.ev x.er=.one (.sl n s lo len):=by rw[af.dL,hp];rfl
    have hi':(σ.er.ev i.er).dV=some j:=by rw[af.dL];exact SV.yx hi
    refine⟨_,?_,h⟩;have QC:s=s/\0<=j/\j<len/\(σ.er.h n).isSome=true:=⟨rfl,cR.1,cR.2,CR hb⟩;simp only[du.er,exec,bC,hi',af.dT];exact if_pos ⟨trivial,QC.2⟩
   ·cases hq
  ·rename_i ts xs j hp hi;have be:=(aP h).1;replace h:=(aP h).2;subst be;rw[d7] at h;obtain⟨e,he,h⟩:=h;unfold cM at he;split at he
   ·rename_i cR;have bC:σ.er.ev x.er=.one (.c (.list ts.length (List.map (Ty.aE ts) xs))):=by rw[af.dL,hp];rfl
    have hi':(σ.er.ev i.er).dV=some j:=by rw[af.dL];exact SV.yx hi
    have iT:(List.map (Ty.aE ts) xs)[j.toNat]? =some (Ty.aE ts e):=anM (Ty.aE ts) he;refine⟨_,?_,h⟩;simp only[du.er,exec,bC,hi',cR,and_self,if_true,iT,af.dT];rfl
   ·cases he
  ·rename_i n kk aB off s len j hp hi;obtain⟨t,y,h1,h2⟩:=Bv h;have bC:σ.er.ev x.er=.one (.bw n kk aB off s len):=by rw[af.dL,hp];rfl
   have hi':(σ.er.ev i.er).dV=some j:=by rw[af.dL];exact SV.yx hi
   have iS:cO σ.er.h (.bw n kk aB off s len)=some (t.er y):=h1;split at h2
   ·rename_i ts ys;have be:=(aP h2).1;replace h2:=(aP h2).2;subst be;rw[d7] at h2;obtain⟨q,hq,h2⟩:=h2;unfold eX at hq;split at hq
    ·rename_i cR;injection hq with hq;subst hq;refine⟨_,?_,h2⟩;simp only[du.er,exec,bC,hi',iS,Ty.er,af.dT];exact if_pos ⟨trivial,cR.1,by rw[show(List.map (Ty.aE ts) ys).length=aa (α:=Ty.DL ts) ys from List.length_map (Ty.aE ts)];exact cR.2⟩
    ·cases hq
   ·cases h2
  ·cases h
 |ext i x=>
  simp only[ff] at h;split at h
  ·rename_i xs hp;split at h
   ·rename_i ag cs hg;have bC:σ.er.ev x.er=.bH (xs.map fun x=>(x.1,x.2.map SC.er)):=by rw[af.dL,hp];rfl
    refine⟨_,?_,h⟩;simp only[du.er,exec,bC,List.getElem?_map,hg,Option.map_some,af.dT,EG]
   ·cases h
  ·cases h
 |rM ag off sz x=>
  simp only[ff] at h;split at h
  ·rename_i cs hp;have bC:σ.er.ev x.er=.agg (cs.map SC.er):=by rw[af.dL,hp];rfl
   split at h
   ·rename_i l hl;exact⟨_,by simp only[du.er,exec,bC,sG,hl,Option.map_some,af.dT,EG],h⟩
   ·cases h
  ·cases h
 |re f gm x=>
  simp only[ff] at h;split at h
  ·rename_i n sz lo len hp;have hb:=(bX h).1;replace h:=(bX h).2;have bC:σ.er.ev x.er=.one (.sl n sz lo len):=by rw[af.dL,hp];rfl
   refine⟨_,?_,h⟩;simp only[du.er,exec,bC,CR hb,if_true,af.dT];rw[show(SV.agg (vh gm (aC len) (.sl n sz lo len))).er=.agg ((vh gm (aC len) (.sl n sz lo len)).map SC.er) from rfl,Vv]
   rfl
  ·rename_i ts xs hp;have bC:σ.er.ev x.er=.one (.c (.list ts.length (List.map (α:=Ty.DL ts) (Ty.aE ts) xs))):=by rw[af.dL,hp];rfl
   refine⟨_,?_,h⟩;simp only[du.er,exec,bC,af.dT];rw[show(SV.agg (vh gm (aC (aa (α:=Ty.DL ts) xs)) (.v (.list ts) xs))).er=.agg ((vh gm (aC (aa (α:=Ty.DL ts) xs)) (.v (.list ts) xs)).map SC.er) from rfl,Vv]
   congr 3;congr 1;exact congrArg Int.ofNat (List.length_map (as:=(xs:List (Ty.DL ts))) (Ty.aE ts))
  ·rename_i ts hp;have bC:σ.er.ev x.er=.one (.nil ts.length):=by rw[af.dL,hp];rfl
   refine⟨_,?_,h⟩;simp only[du.er,exec,bC,af.dT];rw[show(SV.agg (vh gm (0:Int) (.nil ts))).er=.agg ((vh gm (0:Int) (.nil ts)).map SC.er) from rfl,Vv]
   rfl
  ·cases h
 |len x=>
  simp only[ff] at h;split at h
  ·rename_i n sz lo len hp;have hb:=(bX h).1;replace h:=(bX h).2;have bC:σ.er.ev x.er=.one (.sl n sz lo len):=by rw[af.dL,hp];rfl
   exact⟨_,by simp only[du.er,exec,bC,CR hb,if_true,af.dT];rfl,h⟩
  ·rename_i ts xs hp;have bC:σ.er.ev x.er=.one (.c (.list ts.length (List.map (Ty.aE ts) xs))):=by rw[af.dL,hp];rfl
   exact⟨_,by simp only[du.er,exec,bC,af.dT];exact congrArg (fun q:Nat=>some (σ.er.put d (aj.one (.c (.int .i64 (q:Int)))))) (List.length_map (Ty.aE ts)),h⟩
  ·rename_i ts hp;have bC:σ.er.ev x.er=.one (.nil ts.length):=by rw[af.dL,hp];rfl
   exact⟨_,by simp only[du.er,exec,bC,af.dT];rfl,h⟩
  ·rename_i n kk aB off sz len hp;obtain⟨t,y,h1,h2⟩:=Bv h;have bC:σ.er.ev x.er=.one (.bw n kk aB off sz len):=by rw[af.dL,hp];rfl
   have iS:cO σ.er.h (.bw n kk aB off sz len)=some (t.er y):=h1;split at h2
   ·rename_i ts ys;exact⟨_,by simp only[du.er,exec,bC,iS,Ty.er,af.dT];exact congrArg (fun q:Nat=>some (σ.er.put d (aj.one (.c (.int .i64 (q:Int)))))) (List.length_map (Ty.aE ts)),h2⟩
   ·cases h2
  ·cases h
 |append fl ts by_ x y=>
  simp only[ff] at h;split at h
  ·cases h
  ·rename_i n;obtain⟨xs,m,σ1,h1,h2⟩:=asK h;obtain⟨ys,m2,σ2,h3,h4⟩:=asL h2;rw[d7] at h4;obtain⟨_,hf,h4⟩:=h4;unfold jR at hf;split at hf
   ·rename_i hb;split at h4
    ·rename_i gK e;have i:=af.oJ e;refine⟨_,?_,h4⟩
     replace hb:(xs.length+ys.length)*by_<=dR:=hb
     have eW:(SB.row true m2 ts (dF xs ys)).er=aq.row true m2 ts.length (List.map (Ty.aE ts) xs++List.map (Ty.aE ts) ys):=by simp[SB.er,dF]
     simp only[du.er,exec,af.dL,h1,h3,List.length_map,hb,if_true,<-eW,i,af.dT];rfl
    ·cases h4
   ·cases hf
 |mm mx x y=>
  simp only[ff] at h;split at h
  ·rename_i kd a kd' b ex ey;have XS:σ.er.ev x.er=.one (.c (.int kd a)):=by rw[af.dL,ex];rfl
   have X8:σ.er.ev y.er=.one (.c (.int kd' b)):=by rw[af.dL,ey];rfl
   split at h
   ·refine⟨_,?_,h⟩;rw[af.dT];simp only[du.er,exec,XS,X8,if_true];by_cases gd:LT.lt (α:=Int) a b
    ·exact(if_pos gd).trans (congrArg (fun q:Int=>some (σ.er.put d (aj.one (.c (.int kd q))))) (if_pos gd:SD a b=b).symm)
    ·exact(if_neg gd).trans (congrArg (fun q:Int=>some (σ.er.put d (aj.one (.c (.int kd q))))) (if_neg gd:SD a b=a).symm)
   ·refine⟨_,?_,h⟩;rw[af.dT];simp only[du.er,exec,XS,X8,Bool.false_eq_true,if_false];by_cases gd:LT.lt (α:=Int) b a
    ·exact(if_pos gd).trans (congrArg (fun q:Int=>some (σ.er.put d (aj.one (.c (.int kd q))))) (if_pos gd:DO a b=b).symm)
    ·exact(if_neg gd).trans (congrArg (fun q:Int=>some (σ.er.put d (aj.one (.c (.int kd q))))) (if_neg gd:DO a b=a).symm)
  ·cases h
 |call m f xs=>
  simp only[ff] at h;obtain⟨σ1,h1,h2⟩:=afo h;exact⟨σ1,by simp only[du.er,exec,s7];exact h1,h2⟩
 |copy x y=>
  simp only[ff] at h;split at h
  ·rename_i n s lo len c hp hq;split at h
   ·rename_i gr m ts xs hn;have be:=(aP h).1;replace h:=(aP h).2;subst be;have ht:=(aP h).1;replace h:=(aP h).2;have hb:=(bX h).1;replace h:=(bX h).2;simp only[Bool.and_eq_true] at hb;obtain⟨u,ys,h1,h2⟩:=Bv h;split at h2
    ·rename_i us ys;split at h2
     ·rename_i zs hz;rw[d7] at h2;obtain⟨ar,hc,h2⟩:=h2;refine⟨_,?_,h2⟩;have bC:σ.er.ev x.er=.one (.sl n 1 lo len):=by rw[af.dL,hp];rfl
      have eV:σ.er.ev y.er=.one c.er:=by rw[af.dL,hq];rfl
      have wF:Ty.er (.list us) ys=Ty.er (.list ts) zs:=by
       have:=Ty.ahE hz;exact this
      have iS:cO σ.er.h c.er=some (.list ts.length (List.map (Ty.aE ts) zs)):=by
       have:cO σ.er.h c.er=some (Ty.er (.list us) ys):=h1;rw[this,wF];rfl
      obtain⟨c1,c2⟩:=Xq hc;have iU:m≠ .aI:=by rintro rfl;exact absurd hb.1 (by simp[Mode.own])
      simp only[du.er,exec,bC,eV,FH hn,SB.er,iS];rw[if_pos ⟨trivial,trivial,ht,ht,iU,tG ts xs hb.2,tG ts zs hb.2,by rw[List.length_map];exact c1⟩];rw[af.dT,af.pz];simp only[SB.er,c2,ht];rw[show List.map (Ty.aE ts) (List.take (α:=Ty.DL ts) len zs)=List.take len (List.map (Ty.aE ts) zs) from List.map_take,show(List.map (Ty.aE ts) zs).length=aa (α:=Ty.DL ts) zs from List.length_map _]
      rfl
     ·cases h2
    ·cases h2
   ·cases h
  ·cases h
 |mA t z x=>
  simp only[ff] at h;split at h
  ·rename_i n s lo len hp;split at h
   ·rename_i gr m ts xs hn;have be:=(aP h).1;replace h:=(aP h).2;subst be;have hb:=(bX h).1;replace h:=(bX h).2;simp only[Bool.and_eq_true] at hb;split at h
    ·rename_i e he;rw[d7] at h;obtain⟨ar,hc,h⟩:=h;refine⟨_,?_,h⟩;have bC:σ.er.ev x.er=.one (.sl n 1 lo len):=by rw[af.dL,hp];rfl
     have lm:Ty.aE ts e=[t.er z]:=wN he;have hlen:ts.length=1:=by
      have:=congrArg List.length lm;rw[Ty.CQ] at this;exact this
     have iV:Ty.fF ts=true:=by
      have:=Ty.Hu ts e;rw[lm] at this;simp only[Am.fF,List.all_cons,List.all_nil,Bool.and_true,Ty.w5,hb.2] at this;exact this.symm
     obtain⟨c1,c2⟩:=Xq hc;have iU:m≠ .aI:=by rintro rfl;exact absurd hb.1 (by simp[Mode.own])
     simp only[du.er,exec,bC,FH hn,SB.er];rw[if_pos ⟨trivial,hlen,by rw[Ty.w5];exact hb.2,iU,tG ts xs iV,by rw[List.length_map];exact c1⟩];rw[af.dT,af.pz];simp only[SB.er,c2,hlen,dC,List.map_replicate,lm];rfl
    ·cases h
   ·cases h
  ·cases h
 |oF f xs=>
  simp only[ff] at h;obtain⟨v,h1,h2⟩:=asT h;refine⟨_,?_,h2⟩;simp only[du.er,exec,s7];rw[h1];simp only[af.dT]
 |sj f xs=>
  simp only[ff] at h;split at h
  ·rename_i cs hc;obtain⟨h1,h2⟩:=afE hc;refine⟨_,?_,h⟩;simp only[du.er,exec,s7];split
   ·rename_i cs' e;have e2:some cs'=some (cs.map SC.er):=e.symm.trans h1;injection e2 with e2;subst e2;rw[if_pos h2,af.dT];simp only[SV.er,SC.er,SC.zT]
   ·rename_i e;have e2:none=some (cs.map SC.er):=e.symm.trans h1;cases e2
  ·cases h
 |hZ m f xs=>
  simp only[ff] at h;obtain⟨σ1,h1,h2⟩:=asU h;exact⟨σ1,by simp only[du.er,exec,s7];exact h1,h2⟩
 |ki f xs=>
  simp only[ff] at h;obtain⟨σ1,h1,h2⟩:=asS h;exact⟨σ1,by simp only[du.er,exec,s7];exact h1,h2⟩
 |mr f xs=>
  simp only[ff] at h;obtain⟨v,h1,h2⟩:=asX h;exact⟨σ.put d v,by simp only[du.er,exec,s7,h1,af.dT],h2⟩
 |nH m f xs=>
  simp only[ff] at h;obtain⟨σ1,h1,h2⟩:=asZ h;exact⟨σ1,by simp only[du.er,exec,s7];exact h1,h2⟩
 |pq m f x xs=>
  simp only[ff] at h;split at h
  ·rename_i g cK hp;have be:=(aP h).1;replace h:=(aP h).2;subst be;have bC:σ.er.ev x.er=.one (.fn g (cK.map SC.er)):=by rw[af.dL,hp];simp only[SV.er,SC.er,SC.zT]
   obtain⟨σ1,h1,h2⟩:=asW h;refine⟨σ1,?_,h2⟩;simp only[du.er,exec,bC,s7,if_true];rw[List.map_append] at h1;simp only[List.map_map] at h1⊢;exact h1
  ·cases h
 |nG f xs=>
  simp only[ff] at h;obtain⟨v,h1,h2⟩:=asY h;exact⟨σ.put d v,by simp only[du.er,exec,s7,h1,af.dT],h2⟩
 |oG m x xs=>
  simp only[ff] at h;split at h
  ·rename_i f cK hp;have bC:σ.er.ev x.er=.one (.fn f (cK.map SC.er)):=by rw[af.dL,hp];simp only[SV.er,SC.er,SC.zT]
   obtain⟨σ1,h1,h2⟩:=afo h;refine⟨σ1,?_,h2⟩;simp only[du.er,exec,bC,s7];rw[List.map_append] at h1;simp only[List.map_map] at h1⊢;exact h1
  ·cases h
structure dA where
 dst:Option Nat
 op:du
 guard:Option (Nat×Bool)
def dA.er (o:dA):bN:=⟨o.dst,o.op.er,o.guard⟩
def af.lit (σ:af) (n:Nat) (b:Bool):af:={σ with env:=ax σ.env n (.one (.v .bool b))}
theorem af.FG {σ:af} {n:Nat} {b:Bool} (h:σ.env n=.one (.v .bool b)):(σ.lit n b).er=σ.er:=by
 have:ax σ.env n (.one (.v .bool b))=σ.env:=by
  funext s;simp only[j8];split
  ·rename_i hs;subst hs;exact h.symm
  ·rfl
 simp only[af.lit,this]
def o7 (T:List au):List dA->af->(af->Option ρ)->Option ρ
 |[],σ,k=>k σ
 |o::os,σ,k=>match o.guard with
  |none=>ff T o.dst o.op σ fun σ1=>o7 T os σ1 k
  |some (s,mf)=>match σ.env s with
   |.one (.v .bool b)=>av b
    (match mf with
     |true=>ff T o.dst o.op (σ.lit s true) fun σ1=>o7 T os σ1 k
     |false=>o7 T os ((σ.lit s true).put o.dst (.bH [])) k)
    (match mf with
     |true=>o7 T os ((σ.lit s false).put o.dst (.bH [])) k
     |false=>ff T o.dst o.op (σ.lit s false) fun σ1=>o7 T os σ1 k)
   |.bH []=>o7 T os (σ.put o.dst (.bH [])) k
   |_=>none
theorem Hx {T:List au}:∀{os:List dA} {σ:af} {k:af->Option ρ} {r:ρ},o7 T os σ k=some r->
  ∃σ1:af,fu (cI T) (os.map dA.er) σ.er=some σ1.er/\k σ1=some r
 |[],σ,k,r,h=>⟨σ,rfl,h⟩
 |o::os,σ,k,r,h=>by
  obtain⟨d,op,g⟩:=o;have run:∀kZ:af,kZ.er=σ.er->d6 (cI T) (dA.er ⟨d,op,g⟩) σ.er=exec (cI T) d op.er σ.er->ff T d op kZ (fun σ1=>o7 T os σ1 k)=some r->
    ∃σ1:af,fu (cI T) ((⟨d,op,g⟩::os).map dA.er) σ.er=some σ1.er/\k σ1=some r:=by
   intro kZ h0 he hs;obtain⟨σ1,h1,h2⟩:=afr hs;obtain⟨σ2,h3,h4⟩:=Hx h2;rw[h0] at h1;exact⟨σ2,by simp only[List.map_cons,fu,he,h1,h3],h4⟩
  have Bj:∀kZ:af,kZ.er=σ.er->d6 (cI T) (dA.er ⟨d,op,g⟩) σ.er=some (σ.er.put d (.bH []))->o7 T os (kZ.put d (.bH [])) k=some r->
    ∃σ1:af,fu (cI T) ((⟨d,op,g⟩::os).map dA.er) σ.er=some σ1.er/\k σ1=some r:=by
   intro kZ h0 he hs;obtain⟨σ2,h3,h4⟩:=Hx hs;rw[af.dT,h0] at h3;exact⟨σ2,by simp only[List.map_cons,fu,he];exact h3,h4⟩
  cases g with
  |none=>exact run σ rfl rfl h
  |some g=>
   obtain⟨s,mf⟩:=g;simp only[o7] at h;split at h
   ·rename_i b hs;have jU:σ.er.env s=.one (.c (.bool b)):=by show(σ.env s).er=_;rw[hs];rfl
    cases hb:(b:Bool) with
    |true=>
     have h0:(σ.lit s true).er=σ.er:=af.FG (by rw[hs,hb]);rw[hb] at h;simp only[Px] at h;cases mf with
     |true=>exact run _ h0 (by simp[d6,dA.er,jU,hb]) h
     |false=>exact Bj _ h0 (by simp[d6,dA.er,jU,hb]) h
    |false=>
     have h0:(σ.lit s false).er=σ.er:=af.FG (by rw[hs,hb]);rw[hb] at h;simp only[J3] at h;cases mf with
     |true=>exact Bj _ h0 (by simp[d6,dA.er,jU,hb]) h
     |false=>exact run _ h0 (by simp[d6,dA.er,jU,hb]) h
   ·rename_i hs;have jU:σ.er.env s=.bH []:=by show(σ.env s).er=_;rw[hs];rfl
    exact Bj σ rfl (by simp[d6,dA.er,jU]) h
   ·cases h
def pZ (T:List au) (ps:List (Nat×Nat)):List dA->List (Option FP)->af->(af->Option ρ)->Option ρ
 |[],dJ,σ,k=>eC (tC ps dJ) (k σ)
 |o::os,dJ,σ,k=>match o.guard with
  |none=>ff T o.dst o.op σ fun σ1=>pZ T ps os (dJ++[o.er.fp σ.er]) σ1 k
  |some (s,mf)=>match σ.env s with
   |.one (.v .bool b)=>av b
    (match mf with
     |true=>ff T o.dst o.op (σ.lit s true) fun σ1=>pZ T ps os (dJ++[o.er.fp (σ.lit s true).er]) σ1 k
     |false=>pZ T ps os (dJ++[o.er.fp (σ.lit s true).er]) ((σ.lit s true).put o.dst (.bH [])) k)
    (match mf with
     |true=>pZ T ps os (dJ++[o.er.fp (σ.lit s false).er]) ((σ.lit s false).put o.dst (.bH [])) k
     |false=>ff T o.dst o.op (σ.lit s false) fun σ1=>pZ T ps os (dJ++[o.er.fp (σ.lit s false).er]) σ1 k)
   |.bH []=>pZ T ps os (dJ++[o.er.fp σ.er]) (σ.put o.dst (.bH [])) k
   |_=>none
theorem Mq {T:List au} {ps:List (Nat×Nat)}:∀{os:List dA} {dJ:List (Option FP)} {σ:af} {k:af->Option ρ} {r:ρ},pZ T ps os dJ σ k=some r->
  ∃(σ1:af) (fs:List (Option FP)),mD (cI T) (os.map dA.er) dJ σ.er=some (fs,σ1.er)/\tC ps fs=true/\k σ1=some r
 |[],dJ,σ,k,r,h=>⟨σ,dJ,rfl,(bX h).1,(bX h).2⟩
 |o::os,dJ,σ,k,r,h=>by
  obtain⟨d,op,g⟩:=o;have run:∀kZ:af,kZ.er=σ.er->d6 (cI T) (dA.er ⟨d,op,g⟩) σ.er=exec (cI T) d op.er σ.er->ff T d op kZ (fun σ1=>pZ T ps os (dJ++[(dA.er ⟨d,op,g⟩).fp kZ.er]) σ1 k)=some r->
    ∃(σ1:af) (fs:List (Option FP)),mD (cI T) ((⟨d,op,g⟩::os).map dA.er) dJ σ.er=some (fs,σ1.er)/\tC ps fs=true/\k σ1=some r:=by
   intro kZ h0 he hs;obtain⟨σ1,h1,h2⟩:=afr hs;obtain⟨σ2,fs,h3,h4⟩:=Mq h2;rw[h0] at h1 h3;exact⟨σ2,fs,by simp only[List.map_cons,mD,he,h1,h3],h4⟩
  have Bj:∀kZ:af,kZ.er=σ.er->d6 (cI T) (dA.er ⟨d,op,g⟩) σ.er=some (σ.er.put d (.bH []))->pZ T ps os (dJ++[(dA.er ⟨d,op,g⟩).fp kZ.er]) (kZ.put d (.bH [])) k=some r->
    ∃(σ1:af) (fs:List (Option FP)),mD (cI T) ((⟨d,op,g⟩::os).map dA.er) dJ σ.er=some (fs,σ1.er)/\tC ps fs=true/\k σ1=some r:=by
   intro kZ h0 he hs;obtain⟨σ2,fs,h3,h4⟩:=Mq hs;rw[af.dT,h0] at h3;exact⟨σ2,fs,by simp only[List.map_cons,mD,he];exact h3,h4⟩
  cases g with
  |none=>exact run σ rfl rfl h
  |some g=>
   obtain⟨s,mf⟩:=g;simp only[pZ] at h;split at h
   ·rename_i b hs;have jU:σ.er.env s=.one (.c (.bool b)):=by show(σ.env s).er=_;rw[hs];rfl
    cases hb:(b:Bool) with
    |true=>
     have h0:(σ.lit s true).er=σ.er:=af.FG (by rw[hs,hb]);rw[hb] at h;simp only[Px] at h;cases mf with
     |true=>exact run _ h0 (by simp[d6,dA.er,jU,hb]) h
     |false=>exact Bj _ h0 (by simp[d6,dA.er,jU,hb]) h
    |false=>
     have h0:(σ.lit s false).er=σ.er:=af.FG (by rw[hs,hb]);rw[hb] at h;simp only[J3] at h;cases mf with
     |true=>exact Bj _ h0 (by simp[d6,dA.er,jU,hb]) h
     |false=>exact run _ h0 (by simp[d6,dA.er,jU,hb]) h
   ·rename_i hs;have jU:σ.er.env s=.bH []:=by show(σ.env s).er=_;rw[hs];rfl
    exact Bj σ rfl (by simp[d6,dA.er,jU]) h
   ·cases h
end
def SC.iB (n:Nat):SC->SC
 |.bw m k aB off sz len=>match Nat.beq m n with
  |true=>.bm
  |false=>.bw m k aB off sz len
 |.cY m k aB off sz i=>match Nat.beq m n with
  |true=>.bm
  |false=>.cY m k aB off sz i
 |x=>x
def SC.cut (n:Nat):SC->SC
 |.fn f cK=>.fn f (cK.map (SC.iB n))
 |.bw m k aB off sz len=>SC.iB n (.bw m k aB off sz len)
 |.cY m k aB off sz i=>SC.iB n (.cY m k aB off sz i)
 |.v t x=>.v t x
 |.nil ts=>.nil ts
 |.ptr m k sz off=>.ptr m k sz off
 |.de ts x off=>.de ts x off
 |.sl m sz lo len=>.sl m sz lo len
 |.cE ts x off j m sz len=>.cE ts x off j m sz len
 |.bm=>.bm
theorem SC.PF (n:Nat) (c:SC):(c.iB n).er=c.er.iB n:=by
 cases c with
 |bw m k aB off sz len=>simp only[SC.iB,SC.er,ah.iB];cases Nat.beq m n<;>rfl
 |cY m k aB off sz i=>simp only[SC.iB,SC.er,ah.iB];cases Nat.beq m n<;>rfl
 |_=>rfl
theorem SC.xO (n:Nat) (c:SC):(c.cut n).er=c.er.cut n:=by
 cases c with
 |fn f cK=>
  simp only[SC.cut,SC.er,ah.cut,SC.zT,List.map_map];congr 1;exact List.map_congr_left fun c _=>SC.PF n c
 |bw m k aB off sz len=>exact SC.PF n (.bw m k aB off sz len)
 |cY m k aB off sz i=>exact SC.PF n (.cY m k aB off sz i)
 |_=>rfl
theorem PG (n:Nat) (cs:List SC):(cs.map (SC.cut n)).map SC.er=(cs.map SC.er).map (ah.cut n):=by
 simp only[List.map_map];exact List.map_congr_left fun c _=>SC.xO n c
def SV.cut (n:Nat):SV->SV
 |.one c=>.one (c.cut n)
 |.agg cs=>.agg (cs.map (SC.cut n))
 |.bH xs=>.bH (xs.map fun x=>(x.1,x.2.map (SC.cut n)))
theorem SV.xO (n:Nat) (v:SV):(v.cut n).er=v.er.cut n:=by
 cases v with
 |one c=>simp only[SV.cut,SV.er,aj.cut,SC.xO]
 |agg cs=>simp only[SV.cut,SV.er,aj.cut,PG]
 |bH xs=>
  simp only[SV.cut,SV.er,aj.cut,List.map_map];congr 1;exact List.map_congr_left fun x _=>by simp only[Function.comp];rw[PG]
def SB.cut (n:Nat):SB->SB
 |.box cs=>.box (cs.map (SC.cut n))
 |.row gr m ts xs=>.row gr m ts xs
theorem SB.xO (n:Nat) (b:SB):(b.cut n).er=b.er.cut n:=by
 cases b with
 |box cs=>simp only[SB.cut,SB.er,aq.cut,PG]
 |row gr m ts xs=>rfl
def af.cut (σ:af) (n:Nat):af:={σ with env:=fun s=>(σ.env s).cut n,h:=fun m=>match σ.h m with|some b=>some (b.cut n)|none=>none}
theorem af.xO (σ:af) (n:Nat):(σ.cut n).er=σ.er.cut n:=by
 simp only[af.cut,af.er,St.cut];congr 1
 ·funext s;exact SV.xO n (σ.env s)
 ·funext m;simp only[df];cases σ.h m with
  |none=>rfl
  |some b=>simp only[Option.map_some,SB.xO]
def af.sD (σ:af) (s:Nat) (v:SV):af:={σ with env:=ax σ.env s v}
theorem af.afp (σ:af) (s:Nat) (v:SV):(σ.sD s v).er=σ.er.sD s v.er:=by
 simp only[af.sD,af.er,St.sD,vP]
section
variable {ρ:Type}
structure E8 where
 ia:Nat
 sz:Nat
 by_:Nat
 mx:cL
 ml:cL
 my:cL
 d:Nat
def E8.er (s:E8):qd:=⟨s.ia,s.sz,s.by_,s.mx.er,s.ml.er,s.my.er,s.d⟩
def Er (sp:E8) (σ:af) (k:af->Option ρ):Option ρ:=
 match σ.ev sp.mx,σ.ev sp.ml,σ.ev sp.my with
 |.one (.ptr n kk rs off),.one (.bw n' uR mP lE _ _),.one yc=>
  cr n' n (cr mP rs (cr lE off (cr (off+1) rs (eC (!(Nat.ble aW n)) ((j6 uR kk).ae fun _=>match σ.h n with
   |some (.row true .live ts xs)=>cr ts.length rs ((cu xs kk).ae fun e=>match(Ty.gO ts e)[off]? with
    |some ⟨.list us,ls⟩=>cr us.length sp.sz (eC (Ty.fF us) (xc σ.h yc fun t y=>match t,y with
     |.list vs,ys=>match Ty.cast (.list vs) (.list us) ys with
      |some zs=>(jR (aG (aa (α:=Ty.DL us) ls) (aa (α:=Ty.DL us) zs)) sp.by_).ae fun _=>match Hw ts e off ⟨.list us,dF (α:=Ty.DL us) ls zs⟩ with
       |some e'=>k ((σ.cut n).eD n (.row true .live ts (bS xs kk e')))
       |none=>none
      |none=>none
     |_,_=>none))
    |_=>none)
   |_=>none)))))
 |_,_,_=>none
theorem UR {a b:Nat} {u:Unit} (h:j6 a b=some u):a=b:=by
 unfold j6 at h;split at h
 ·assumption
 ·cases h
theorem afF {sp:E8} {σ:af} {k:af->Option ρ} {r:ρ} (h:Er sp σ k=some r):∃σ1:af,yL sp.er σ.er=some σ1.er/\k σ1=some r:=by
 unfold Er at h;split at h
 ·rename_i n kk rs off n' uR mP lE s0 uW yc e1 e2 e3;have be:=(aP h).1;replace h:=(aP h).2;subst be;have be:=(aP h).1;replace h:=(aP h).2;subst be;have be:=(aP h).1;replace h:=(aP h).2;subst be;have nW:=(aP h).1;replace h:=(aP h).2;have hp:=(bX h).1;replace h:=(bX h).2;rw[d7] at h;obtain⟨_,hk,h⟩:=h;have hk:=UR hk;subst hk;have oP:n'<aW:=by
   rcases Nat.lt_or_ge n' aW with h1|h1
   ·exact h1
   ·rw[Nat.ble_eq_true_of_le h1] at hp;cases hp
  split at h
  ·rename_i ts xs hn;have tp:=(aP h).1;replace h:=(aP h).2;rw[d7] at h;obtain⟨e,he,h⟩:=h
   replace he:xs[uR]? =some e:=he
   split at h
   ·rename_i us ls hd;have kH:=(aP h).1;replace h:=(aP h).2;have iV:=(bX h).1;replace h:=(bX h).2;obtain⟨t,y,hv,h⟩:=Bv h;split at h
    ·rename_i vs ys;split at h
     ·rename_i zs akI;rw[d7] at h;obtain⟨_,gA,h⟩:=h;have gA:(List.length (α:=Ty.DL us) ls+List.length (α:=Ty.DL us) zs)*sp.by_<=dR:=by
       unfold jR at gA;split at gA
       ·assumption
       ·cases gA
      split at h
      ·rename_i e' uH;refine⟨_,?_,h⟩;have g1:σ.er.ev sp.er.mx=.one (.ptr n' uR mP lE):=by show σ.er.ev sp.mx.er=_;rw[af.dL,e1];rfl
       have g2:σ.er.ev sp.er.ml=.one (.bw n' uR mP lE s0 uW):=by show σ.er.ev sp.ml.er=_;rw[af.dL,e2];rfl
       have g3:σ.er.ev sp.er.my=.one yc.er:=by show σ.er.ev sp.my.er=_;rw[af.dL,e3];rfl
       have bu:σ.er.h n'=some (.row true .live ts.length (List.map (Ty.aE ts) xs)):=by simp[af.er,df,hn,SB.er]
       have iT:(List.map (Ty.aE ts) xs)[uR]? =some (Ty.aE ts e):=by rw[List.getElem?_map,he];rfl
       have qA:=J9 hd;have gh:cO σ.er.h yc.er=some ((Ty.list us).er zs):=by rw[<-Ty.Ph akI];exact hv
       have KU:(Ty.aE ts e)[lE]? =some (.list us.length (List.map (Ty.aE us) ls)):=qA;have uJ:cO σ.er.h yc.er=some (.list us.length (List.map (Ty.aE us) zs)):=gh;simp only[yL,g1,g2,g3,nW,oP,and_self,if_true,bu,tp,iT,Option.bind_some,KU,uJ];have Z6:((List.map (Ty.aE us) ls).length+(List.map (Ty.aE us) zs).length)*sp.er.by_<=dR:=by
        rw[show(List.map (Ty.aE us) ls).length=List.length (α:=Ty.DL us) ls from List.length_map _,show(List.map (Ty.aE us) zs).length=List.length (α:=Ty.DL us) zs from List.length_map _]
        exact gA
       rw[if_pos ⟨kH,kH,tG us ls iV,tG us zs iV,Z6⟩];have wz:=U7 uH;have hgd:(List.map (Ty.aE ts) xs).getD uR []=Ty.aE ts e:=by rw[List.getD_eq_getElem?_getD,iT];rfl
       rw[af.pz,af.xO,hgd];simp only[SB.er];rw[show(List.map (Ty.aE ts) (bS xs uR e'))=(List.map (Ty.aE ts) xs).set uR (Ty.aE ts e') from by show List.map _ (xs.set uR e')=_;rw[List.map_set],wz]
       have akD:(Ty.list us).er (dF (α:=Ty.DL us) ls zs)=.list us.length (List.map (Ty.aE us) ls++List.map (Ty.aE us) zs):=by
        show C.list us.length (List.map (Ty.aE us) (List.append (α:=Ty.DL us) ls zs))=_;exact congrArg (C.list us.length) List.map_append
       rw[akD,kH,tp];rfl
      ·cases h
     ·cases h
    ·cases h
   ·cases h
  ·cases h
 ·cases h
inductive vu where
 |vC (ts:List Ty) (p:cL)
 |vD (p:cL) (s:Nat)
 |pop (x lo:cL) (s:Nat)
 |vE (f:FuncId) (xs:List cL)
def vu.er:vu->ET
 |.vC ts p=>.vC ts.length p.er
 |.vD p s=>.vD p.er s
 |.pop x lo s=>.pop x.er lo.er s
 |.vE f xs=>.vE f (xs.map cL.er)
inductive vw where
 |op (m:dA)
 |pu (d:Nat) (c:vu)
def vw.er:vw->ES
 |.op m=>.op m.er
 |.pu d c=>.pu d c.er
def Vz (σ:af) (c:SC) (last:Bool) (k:TD->af->Option ρ):Option ρ:=
 match c with
 |.v t x=>eC t.fh (k ⟨t,x⟩ σ)
 |.nil ts=>match ts with
  |[]=>none
  |t::us=>k ⟨.list (t::us),([]:List (Ty.DL (t::us)))⟩ σ
 |.sl n sz lo len=>match σ.h n with
  |some (.row gr m ts xs)=>cr ts.length sz (eC (m.own&&Ty.fF ts) (cr lo 0 ((dP xs len).ae fun ys=>match last with
   |true=>eC gr ((adf len).ae fun _=>k ⟨.list ts,ys⟩ (σ.del n))
   |false=>k ⟨.list ts,ys⟩ (σ.del n))))
  |_=>none
 |_=>none
theorem atL {ts:List Ty} {xs ys:List (Ty.DL ts)} {len:Nat} (h:dP xs len=some ys):len<=xs.length/\(List.map (Ty.aE ts) xs).take len=List.map (Ty.aE ts) ys:=by
 unfold dP at h;split at h
 ·rename_i hl;injection h with h;subst h;exact⟨hl,by rw[List.map_take]⟩
 ·cases h
theorem atv {σ:af} {c:SC} {last:Bool} {k:TD->af->Option ρ} {r:ρ} (h:Vz σ c last k=some r):
  ∃(x:TD) (o:Bool) (σ1:af),σ.er.vi c.er=some (x.1.er x.2,o,σ1.er)/\(last=true->o=true)/\k x σ1=some r:=by
 unfold Vz at h;split at h
 ·rename_i t x;have hs:=(bX h).1;replace h:=(bX h).2;refine⟨⟨t,x⟩,true,σ,?_,fun _=>rfl,h⟩;simp only[SC.er,St.vi,Ty.w5,hs,if_true]
 ·split at h
  ·cases h
  ·rename_i t us;exact⟨⟨.list (t::us),[]⟩,true,σ,by simp[SC.er,St.vi,Ty.er],fun _=>rfl,h⟩
 ·rename_i n sz lo len;split at h
  ·rename_i gr m ts xs hn;have be:=(aP h).1;replace h:=(aP h).2;subst be;have hm:=(bX h).1;replace h:=(bX h).2;have be:=(aP h).1;replace h:=(aP h).2;subst be;rw[d7] at h;obtain⟨ys,hw,h⟩:=h;obtain⟨w1,w2⟩:=atL hw;simp only[Bool.and_eq_true] at hm;have bL:m≠ .aI:=by rintro rfl;cases hm.1
   have bu:σ.er.h n=some (.row gr m ts.length (List.map (Ty.aE ts) xs)):=by simp[af.er,df,hn,SB.er]
   have db:σ.er.vi (SC.sl n ts.length 0 len).er=some ((Ty.list ts).er ys,gr&&decide (0<len),(σ.del n).er):=by
    simp only[SC.er,St.vi,bu,List.length_map,ne_eq,bL,not_false_eq_true,tG ts xs hm.2,w1,and_self,if_true,w2,af.zS];rfl
   cases last with
   |false=>exact⟨⟨.list ts,ys⟩,_,σ.del n,db,(fun h=>by cases h),h⟩
   |true=>
    have hg:=(bX h).1;replace h:=(bX h).2;rw[d7] at h;obtain⟨_,hp,h⟩:=h;have hp:0<len:=by
     unfold adf at hp;split at hp
     ·assumption
     ·cases hp
    exact⟨⟨.list ts,ys⟩,_,σ.del n,db,fun _=>by simp[hg,hp],h⟩
  ·cases h
 ·cases h
def MT:af->List SC->(List TD->af->Option ρ)->Option ρ
 |σ,[],k=>k [] σ
 |σ,c::cs,k=>Vz σ c (match cs with|[]=>true|_::_=>false) fun x σ1=>MT σ1 cs fun l σ2=>k (x::l) σ2
theorem af8:∀{cs:List SC} {σ:af} {k:List TD->af->Option ρ} {r:ρ},MT σ cs k=some r->∃l σ1,σ.er.sI (cs.map SC.er)=some (dj l,true,σ1.er)/\k l σ1=some r
 |[],σ,k,r,h=>⟨[],σ,rfl,h⟩
 |c::cs,σ,k,r,h=>by
  simp only[MT] at h;obtain⟨x,o,σ1,h1,h2,h3⟩:=atv h;obtain⟨l,σ2,h4,h5⟩:=af8 h3;refine⟨x::l,σ2,?_,h5⟩;simp only[List.map_cons,St.sI,h1,h4,dj];cases cs with
  |nil=>rw[h2 rfl];rfl
  |cons c2 CK=>rfl
def U2 (T:List au) (d:Nat) (f:FuncId) (as:List SV) (σ:af) (k:af->Option ρ):Option ρ:=
 match au.m9 5 T f with
 |some fn=>EC σ.h as fun ds=>match mM fn.args ds with
  |some x=>(fn.F x).ae fun rs=>match h9 fn.aw rs with
   |[(.one,[⟨.list ts,xs⟩])]=>match σ.ins (jI (some d)) (.row true .live ts xs) with
    |some σ1=>k (σ1.put (some d) (.one (.sl (jI (some d)) ts.length 0 (aa (α:=Ty.DL ts) xs))))
    |none=>none
   |_=>none
  |none=>none
 |none=>none
theorem asV {T:List au} {d:Nat} {f:FuncId} {as:List SV} {σ:af} {k:af->Option ρ} {r:ρ} (h:U2 T d f as σ k=some r):
  ∃σ1:af,FA (cI T) d f (as.map SV.er) σ.er=some σ1.er/\k σ1=some r:=by
 unfold U2 at h;split at h
 ·rename_i fn hf;obtain⟨ds,h1,h2⟩:=M1 h;split at h2
  ·rename_i x hx;rw[d7] at h2;obtain⟨rs,hF,h2⟩:=h2;split at h2
   ·rename_i ts xs jS;split at h2
    ·rename_i σ1 hi;refine⟨_,?_,h2⟩;have hM:fn.M (ds.map cd.er)=some [(.one,[.list ts.length (List.map (Ty.aE ts) xs)])]:=by
      have e1:fn.M (ds.map cd.er)=some (dE fn.aw rs):=by rw[pP hx,au.t5,hF];rfl
      have e2:dE fn.aw rs=[(.one,[.list ts.length (List.map (Ty.aE ts) xs)])]:=by rw[<-s6,jS];rfl
      exact e1.trans (congrArg some e2)
     have iS:kU σ.er.h (as.map SV.er)=some (ds.map cd.er):=h1;have hi':σ.er.ins (jI (some d)) (.row true .live ts.length (List.map (Ty.aE ts) xs))=some σ1.er:=af.oJ hi;simp only[FA,iS,au.Yh hf,hM,hi',af.dT,SV.er,SC.er];exact congrArg (fun q=>some (σ1.er.put (some d) (.one (.sl (jI (some d)) ts.length 0 q)))) (List.length_map (Ty.aE ts))
    ·cases h2
   ·cases h2
  ·cases h2
 ·cases h
def Ei (T:List au) (d:Nat) (c:vu) (σ:af) (k:af->Option ρ):Option ρ:=
 match c with
 |.vC ts p=>match(σ.ev p).cells? with
  |some (_,cs)=>cr cs.length ts.length (MT σ cs fun l σ1=>match qV ts l with
   |some e=>match σ1.ins d (.row true .live ts [e]) with
    |some σ2=>k (σ2.put (some d) (.one (.sl d ts.length 0 1)))
    |none=>none
   |none=>none)
  |none=>none
 |.vD p s=>match σ.ev p,σ.env s with
  |.one (.sl q sz lo len),.one (.sl q' aH yH uV)=>cr q' q (cr aH sz (cr lo 0 (cr yH 0 (eC (!(Nat.beq s d)) ((j6 uV len).ae fun _=>MR σ (.sl q sz 0 len) fun t x o σ1=>eC o (match σ1.ins d (.row true .aO [t] [x]) with
   |some σ2=>k ((σ2.put (some d) (.one (.sl d 1 0 1))).sD s (.one (.v t x)))
   |none=>none))))))
  |_,_=>none
 |.pop x lo s=>match σ.ev x,(σ.ev lo).dV,σ.env s with
  |.one (.sl n s1 l1 len),some l,.one (.bw n' kk rs off _ _)=>cr s1 1 (cr l1 0 (cr n' n (cr rs 1 (cr off 0 (eC (!(Nat.beq s d)) (eC (decide (l=1)) ((j6 kk 0).ae fun _=>match σ.h n with
   |some (.row true .live [.list us] xs)=>(bo 0 len (aa xs)).ae fun _=>(cu (α:=List (Ty.DL us)) xs 0).ae fun ys=>eC (Ty.fF us) (match(σ.del n).ins d (.row true .live [.list us] (M5 xs)) with
    |some σ1=>match σ1.ins (jI (some d)) (.row false .aO us ys) with
     |some σ2=>k ((σ2.put (some d) (.one (.sl d 1 0 (aa (M5 xs))))).sD s (.one (.sl (jI (some d)) us.length 0 (aa ys))))
     |none=>none
    |none=>none)
   |_=>none)))))))
  |_,_,_=>none
 |.vE f xs=>U2 T d f (xs.map σ.ev) σ k
theorem asR {T:List au} {d:Nat} {c:vu} {σ:af} {k:af->Option ρ} {r:ρ} (h:Ei T d c σ k=some r):
  ∃σ1:af,sY (cI T) d c.er σ.er=some σ1.er/\k σ1=some r:=by
 cases c with
 |vC ts p=>
  simp only[Ei] at h;split at h
  ·rename_i ag cs fc;have hl:=(aP h).1;replace h:=(aP h).2;obtain⟨l,σ1,h1,h2⟩:=af8 h;split at h2
   ·rename_i e he;split at h2
    ·rename_i σ2 hi;refine⟨_,?_,h2⟩;have x6:(σ.er.ev p.er).cells?=some (ag,cs.map SC.er):=by rw[af.dL];exact SV.kC fc
     have hi':σ1.er.ins d (.row true .live ts.length [dj l])=some σ2.er:=by
      have:=af.oJ hi;simp only[SB.er,List.map_cons,List.map_nil,wN he] at this;exact this
     simp only[vu.er,sY,x6,List.length_map,hl,if_true,h1,hi',af.dT];rfl
    ·cases h2
   ·cases h2
  ·cases h
 |vD p s=>
  simp only[Ei] at h;split at h
  ·rename_i q sz lo len q' aH yH uV e1 e2;have be:=(aP h).1;replace h:=(aP h).2;subst be;have be:=(aP h).1;replace h:=(aP h).2;subst be;have be:=(aP h).1;replace h:=(aP h).2;subst be;have be:=(aP h).1;replace h:=(aP h).2;subst be;have hs:=(bX h).1;replace h:=(bX h).2;rw[d7] at h;obtain⟨_,hk,h⟩:=h;have hk:=UR hk;subst hk;obtain⟨t,x,o,σ1,h1,h2⟩:=af6 h;have ho:=(bX h2).1;replace h2:=(bX h2).2;subst ho;split at h2
   ·rename_i σ2 hi;refine⟨_,?_,h2⟩;have x6:σ.er.ev p.er=.one (.sl q' aH 0 uV):=by rw[af.dL,e1];rfl
    have tg:σ.er.env s=.one (.sl q' aH 0 uV):=by show(σ.env s).er=_;rw[e2];rfl
    have Dk:s≠d:=by
     rintro rfl;rw[Nat.beq_refl] at hs;cases hs
    have iS:σ.er.fR (.sl q' aH 0 uV)=some (t.er x,true,σ1.er):=h1;have hi':σ1.er.ins d (.row true .aO 1 [[t.er x]])=some σ2.er:=af.oJ hi;simp only[vu.er,sY,x6,tg,ne_eq,Dk,not_false_eq_true,and_self,if_true,iS,hi',af.afp,af.dT];rfl
   ·cases h2
  ·cases h
 |pop x lo s=>
  simp only[Ei] at h;split at h
  ·rename_i n s1 l1 len l n' kk rs off s0 uW e1 e2 e3;have be:=(aP h).1;replace h:=(aP h).2;subst be;have be:=(aP h).1;replace h:=(aP h).2;subst be;have be:=(aP h).1;replace h:=(aP h).2;subst be;have be:=(aP h).1;replace h:=(aP h).2;subst be;have be:=(aP h).1;replace h:=(aP h).2;subst be;have hs:=(bX h).1;replace h:=(bX h).2;have hl:=(bX h).1;replace h:=(bX h).2;have hl:=of_decide_eq_true hl;subst hl;rw[d7] at h;obtain⟨_,hk,h⟩:=h;have hk:=UR hk;subst hk;split at h
   ·rename_i us xs hn;rw[d7] at h;obtain⟨_,hf,h⟩:=h;obtain⟨_,hlen⟩:=Kz hf;rw[d7] at h;obtain⟨ys,hy,h⟩:=h;have iV:=(bX h).1;replace h:=(bX h).2;split at h
    ·rename_i σ1 x7;split at h
     ·rename_i σ2 Ah;refine⟨_,?_,h⟩;have x6:σ.er.ev x.er=.one (.sl n' 1 0 len):=by rw[af.dL,e1];rfl
      have qz:(σ.er.ev lo.er).dV=some 1:=by rw[af.dL];exact SV.yx e2
      have tg:σ.er.env s=.one (.bw n' 0 1 0 s0 uW):=by show(σ.env s).er=_;rw[e3];rfl
      have Dk:s≠d:=by
       rintro rfl;rw[Nat.beq_refl] at hs;cases hs
      have bu:σ.er.h n'=some (.row true .live 1 (List.map (Ty.aE [.list us]) xs)):=by simp[af.er,df,hn,SB.er]
      have Aw:(List.map (Ty.aE [.list us]) xs)[0]? =some [C.list us.length (List.map (Ty.aE us) ys)]:=ZF (ts:=[.list us]) (ys:=xs) hy;have Ar:=tG us ys iV;have akY:(σ.er.del n').ins d (.row true .live 1 ((List.map (Ty.aE [.list us]) xs).drop 1))=some σ1.er:=by
       have:=af.oJ x7;rw[af.zS] at this;simp only[SB.er,M5] at this;rw[List.map_drop] at this;exact this
      have akZ:σ1.er.ins (jI (some d)) (.row false .aO us.length (List.map (Ty.aE us) ys))=some σ2.er:=af.oJ Ah;have hlx:len=(List.map (Ty.aE [.list us]) xs).length:=by rw[hlen];exact(List.length_map _).symm
      simp only[vu.er,sY,x6,qz,tg,ne_eq,Dk,not_false_eq_true,and_self,if_true,bu,hlx,Aw,Ar,akY,akZ,af.afp,af.dT,SV.er,SC.er];have g1:(List.map (Ty.aE [.list us]) xs).length - 1=aa (M5 xs):=by
       show _=(xs.drop 1).length;rw[List.length_drop,List.length_map]
      have g2:(List.map (Ty.aE us) ys).length=aa (α:=Ty.DL us) ys:=List.length_map _;rw[g1,g2]
     ·cases h
    ·cases h
   ·cases h
  ·cases h
 |vE f xs=>
  simp only[Ei] at h;obtain⟨σ1,h1,h2⟩:=asV h;refine⟨σ1,?_,h2⟩;simp only[vu.er,sY];rw[<-h1];congr 1;simp only[List.map_map];exact List.map_congr_left fun x _=>af.dL σ x
def afq (T:List au) (m:dA) (σ:af) (k:af->Option ρ):Option ρ:=o7 T [m] σ k
theorem as3 {T:List au} {m:dA} {σ:af} {k:af->Option ρ} {r:ρ} (h:afq T m σ k=some r):∃σ1:af,d6 (cI T) m.er σ.er=some σ1.er/\k σ1=some r:=by
 obtain⟨σ1,h1,h2⟩:=Hx h;refine⟨σ1,?_,h2⟩;simp only[List.map_cons,List.map_nil,fu] at h1;split at h1
 ·rename_i σ2 he;injection h1 with h1;rw[he,h1]
 ·cases h1
def Hv (T:List au):List vw->af->(af->Option ρ)->Option ρ
 |[],σ,k=>k σ
 |.op m::l,σ,k=>afq T m σ fun σ1=>Hv T l σ1 k
 |.pu d c::l,σ,k=>Ei T d c σ fun σ1=>Hv T l σ1 k
theorem UY {T:List au}:∀{l:List vw} {σ:af} {k:af->Option ρ} {r:ρ},Hv T l σ k=some r->∃σ1:af,uj (cI T) (l.map vw.er) σ.er=some σ1.er/\k σ1=some r
 |[],σ,k,r,h=>⟨σ,rfl,h⟩
 |.op m::l,σ,k,r,h=>by
  obtain⟨σ1,h1,h2⟩:=as3 h;obtain⟨σ2,h3,h4⟩:=UY h2;exact⟨σ2,by simp only[List.map_cons,vw.er,uj,h1,h3],h4⟩
 |.pu d c::l,σ,k,r,h=>by
  obtain⟨σ1,h1,h2⟩:=asR h;obtain⟨σ2,h3,h4⟩:=UY h2;exact⟨σ2,by simp only[List.map_cons,vw.er,uj,h1,h3],h4⟩
end
inductive LT where
 |unit
 |ty (t:Ty)
 |dl (ts:List Ty)
 |nat
 |pair (a b:LT)
def LT.D:LT->Type
 |.unit=>Unit
 |.ty t=>t.D
 |.dl ts=>Ty.DL ts
 |.nat=>Nat
 |.pair a b=>a.D×b.D
def LT.Es (a:LT):LT->LT
 |.unit=>a
 |.ty t=>.pair a (.ty t)
 |.dl ts=>.pair a (.dl ts)
 |.nat=>.pair a .nat
 |.pair x y=>.pair a (.pair x y)
def LT.sp:LT->LT->LT
 |.unit,b=>b
 |.ty t,b=>LT.Es (.ty t) b
 |.dl ts,b=>LT.Es (.dl ts) b
 |.nat,b=>LT.Es .nat b
 |.pair x y,b=>LT.Es (.pair x y) b
def LT.HI (a:LT):(b:LT)->(LT.Es a b).D->a.D×b.D
 |.unit,x=>(x,())
 |.ty _,x=>x
 |.dl _,x=>x
 |.nat,x=>x
 |.pair _ _,x=>x
def LT.vg:(a b:LT)->(LT.sp a b).D->a.D×b.D
 |.unit,b,x=>((),x)
 |.ty t,b,x=>LT.HI (.ty t) b x
 |.dl ts,b,x=>LT.HI (.dl ts) b x
 |.nat,b,x=>LT.HI .nat b x
 |.pair x y,b,z=>LT.HI (.pair x y) b z
def LT.HH (a:LT):(b:LT)->a.D->b.D->(LT.Es a b).D
 |.unit,x,_=>x
 |.ty _,x,y=>(x,y)
 |.dl _,x,y=>(x,y)
 |.nat,x,y=>(x,y)
 |.pair _ _,x,y=>(x,y)
def LT.Et:(a b:LT)->a.D->b.D->(LT.sp a b).D
 |.unit,b,_,y=>y
 |.ty t,b,x,y=>LT.HH (.ty t) b x y
 |.dl ts,b,x,y=>LT.HH (.dl ts) b x y
 |.nat,b,x,y=>LT.HH .nat b x y
 |.pair u v,b,x,y=>LT.HH (.pair u v) b x y
theorem LT.atm (a b:LT) (x:a.D) (y:b.D):LT.HI a b (LT.HH a b x y)=(x,y):=by cases b<;>rfl
theorem LT.afO (a b:LT) (x:a.D) (y:b.D):LT.vg a b (LT.Et a b x y)=(x,y):=by
 cases a with
 |unit=>rfl
 |_=>exact LT.atm _ b x y
section
variable {α β:Type} {ρ:Type} {L:α->LT}
def LL (L:α->LT):List α->LT
 |[]=>.unit
 |a::l=>LT.sp (L a) (LL L l)
def ri (un:(a:α)->(L a).D->β):(l:List α)->(LL L l).D->List β
 |[],_=>[]
 |a::l,x=>un a (LT.vg (L a) (LL L l) x).1::ri un l (LT.vg (L a) (LL L l) x).2
def rL (flat:(a:α)->β->((L a).D->Option ρ)->Option ρ):(l:List α)->List β->((LL L l).D->Option ρ)->Option ρ
 |[],[],k=>k ()
 |a::l,b::bs,k=>flat a b fun x=>rL flat l bs fun y=>k (LT.Et (L a) (LL L l) x y)
 |_,_,_=>none
theorem xU {flat:(a:α)->β->((L a).D->Option ρ)->Option ρ} {un:(a:α)->(L a).D->β}
  (hf:∀a b k r,flat a b k=some r->∃x,b=un a x/\k x=some r):∀{l:List α} {bs:List β} {k:(LL L l).D->Option ρ} {r:ρ},rL flat l bs k=some r->
  ∃x,bs=ri un l x/\k x=some r
 |[],[],k,r,h=>⟨(),rfl,h⟩
 |a::l,b::bs,k,r,h=>by
  simp only[rL] at h;obtain⟨x,rfl,h2⟩:=hf _ _ _ _ h;obtain⟨y,rfl,h4⟩:=xU hf h2;exact⟨LT.Et (L a) (LL L l) x y,by simp only[ri,LT.afO],h4⟩
 |[],_::_,k,r,h=>by simp[rL] at h
 |_::_,[],k,r,h=>by simp[rL] at h
end
inductive jf where
 |v (t:Ty)
 |nil (ts:List Ty)
 |Hh (n off:Nat)
 |ptr (n sz off:Nat)
 |de (ts:List Ty) (off:Nat)
 |cE (ts:List Ty) (off j n sz:Nat)
 |full (n sz:Nat)
 |sl (n sz:Nat)
 |bw (n aB off sz:Nat)
 |bm
inductive fg where
 |c (s:jf)
 |fn (f:FuncId) (cK:List jf)
inductive iN where
 |one (c:fg)
 |agg (cs:List fg)
 |bH (xs:List (Bool×List fg))
inductive gk where
 |box (cs:List fg)
 |row (gr:Bool) (m:Mode) (ts:List Ty)
structure kA where
 env:List (Nat×iN)
 heap:List (Nat×gk)
abbrev kA.ke (sh:kA):List Nat:=sh.env.map (·.1)
def jf.L:jf->LT
 |.v t=>.ty t
 |.nil _=>.unit
 |.Hh _ _=>.unit
 |.ptr _ _ _=>.nat
 |.de ts _=>.dl ts
 |.cE ts _ _ _ _=>.dl ts
 |.full _ _=>.unit
 |.sl _ _=>.pair .nat .nat
 |.bw _ _ _ _=>.pair .nat .nat
 |.bm=>.unit
def jf.un (ln:Nat->Nat):(s:jf)->s.L.D->SC
 |.v t,x=>.v t x
 |.nil ts,_=>.nil ts
 |.Hh n off,_=>.ptr n 0 0 off
 |.ptr n sz off,k=>.ptr n k sz off
 |.de ts off,x=>.de ts x off
 |.cE ts off j n sz,x=>.cE ts x off j n sz (ln n)
 |.full n sz,_=>.sl n sz 0 (ln n)
 |.sl n sz,x=>.sl n sz x.1 x.2
 |.bw n aB off sz,x=>.bw n x.1 aB off sz x.2
 |.bm,_=>.bm
section
variable {ρ:Type}
def jf.flat (ln:Nat->Nat) (s:jf) (c:SC) (k:s.L.D->Option ρ):Option ρ:=
 match s,c with
 |.v t,.v u x=>match Ty.cast u t x with
  |some y=>k y
  |none=>none
 |.nil ts,.nil us=>eC (Ty.sU us ts) (k ())
 |.Hh n off,.ptr n' kk sz lE=>cr n' n (cr kk 0 (cr sz 0 (cr lE off (k ()))))
 |.ptr n sz off,.ptr n' kk aH lE=>cr n' n (cr aH sz (cr lE off (k kk)))
 |.de ts off,.de us x lE=>cr lE off (match Ty.Cx us ts x with
  |some y=>k y
  |none=>none)
 |.cE ts off j n sz,.cE us x lE j' n' aH len=>cr lE off (cr j' j (cr n' n (cr aH sz ((bo 0 len (ln n)).ae fun _=>match Ty.Cx us ts x with
  |some y=>k y
  |none=>none))))
 |.full n sz,.sl n' aH lo len=>cr n' n (cr aH sz ((bo lo len (ln n)).ae fun _=>k ()))
 |.sl n sz,.sl n' aH lo len=>cr n' n (cr aH sz (k (lo,len)))
 |.bw n aB off sz,.bw n' kk asx lE aH len=>cr n' n (cr asx aB (cr lE off (cr aH sz (k (kk,len)))))
 |.bm,.bm=>k ()
 |_,_=>none
theorem Ty.cast_eq {t u:Ty} {x:t.D} {y:u.D} (h:Ty.cast t u x=some y):SC.v t x=SC.v u y:=by
 unfold Ty.cast at h;split at h
 ·rename_i he;have:=Ty.beq_eq he;subst this;injection h with h;rw[<-h]
 ·cases h
theorem Ty.ahC {ts us:List Ty} {x:Ty.DL ts} {y:Ty.DL us} (h:Ty.Cx ts us x=some y) (off:Nat):SC.de ts x off=SC.de us y off:=by
 unfold Ty.Cx at h;split at h
 ·rename_i he;have:=Ty.sV he;subst this;injection h with h;rw[<-h]
 ·cases h
theorem Ty.ahD {ts us:List Ty} {x:Ty.DL ts} {y:Ty.DL us} (h:Ty.Cx ts us x=some y) (off j n sz len:Nat):SC.cE ts x off j n sz len=SC.cE us y off j n sz len:=by
 unfold Ty.Cx at h;split at h
 ·rename_i he;have:=Ty.sV he;subst this;injection h with h;rw[<-h]
 ·cases h
theorem jf.qm {ln:Nat->Nat} (s:jf) (c:SC) (k:s.L.D->Option ρ) (r:ρ) (h:s.flat ln c k=some r):∃x,c=s.un ln x/\k x=some r:=by
 cases s with
 |v t=>
  cases c<;>simp only[jf.flat] at h<;>first|(cases h;done)|skip
  split at h
  ·rename_i y hy;exact⟨y,Ty.cast_eq hy,h⟩
  ·cases h
 |nil ts=>
  cases c<;>simp only[jf.flat] at h<;>first|(cases h;done)|skip
  have h1:=(bX h).1;replace h:=(bX h).2;exact⟨(),by rw[Ty.sV h1];rfl,h⟩
 |Hh n off=>
  cases c<;>simp only[jf.flat] at h<;>first|(cases h;done)|skip
  have be:=(aP h).1;replace h:=(aP h).2;subst be;have be:=(aP h).1;replace h:=(aP h).2;subst be;have be:=(aP h).1;replace h:=(aP h).2;subst be;have be:=(aP h).1;replace h:=(aP h).2;subst be;exact⟨(),rfl,h⟩
 |ptr n sz off=>
  cases c<;>simp only[jf.flat] at h<;>first|(cases h;done)|skip
  have be:=(aP h).1;replace h:=(aP h).2;subst be;have be:=(aP h).1;replace h:=(aP h).2;subst be;have be:=(aP h).1;replace h:=(aP h).2;subst be;exact⟨_,rfl,h⟩
 |de ts off=>
  cases c<;>simp only[jf.flat] at h<;>first|(cases h;done)|skip
  have be:=(aP h).1;replace h:=(aP h).2;subst be;split at h
  ·rename_i y hy;exact⟨y,Ty.ahC hy _,h⟩
  ·cases h
 |cE ts off j n sz=>
  cases c<;>simp only[jf.flat] at h<;>first|(cases h;done)|skip
  have be:=(aP h).1;replace h:=(aP h).2;subst be;have be:=(aP h).1;replace h:=(aP h).2;subst be;have be:=(aP h).1;replace h:=(aP h).2;subst be;have be:=(aP h).1;replace h:=(aP h).2;subst be;rw[d7] at h;obtain⟨_,hf,h⟩:=h;unfold bo at hf;split at hf
  ·rename_i hc;obtain⟨_,rfl⟩:=hc;split at h
   ·rename_i y hy;exact⟨y,Ty.ahD hy _ _ _ _ _,h⟩
   ·cases h
  ·cases hf
 |full n sz=>
  cases c<;>simp only[jf.flat] at h<;>first|(cases h;done)|skip
  have be:=(aP h).1;replace h:=(aP h).2;subst be;have be:=(aP h).1;replace h:=(aP h).2;subst be;rw[d7] at h;obtain⟨_,hf,h⟩:=h;unfold bo at hf;split at hf
  ·rename_i hc;obtain⟨rfl,rfl⟩:=hc;exact⟨(),rfl,h⟩
  ·cases hf
 |sl n sz=>
  cases c<;>simp only[jf.flat] at h<;>first|(cases h;done)|skip
  have be:=(aP h).1;replace h:=(aP h).2;subst be;have be:=(aP h).1;replace h:=(aP h).2;subst be;exact⟨_,rfl,h⟩
 |bw n aB off sz=>
  cases c<;>simp only[jf.flat] at h<;>first|(cases h;done)|skip
  have be:=(aP h).1;replace h:=(aP h).2;subst be;have be:=(aP h).1;replace h:=(aP h).2;subst be;have be:=(aP h).1;replace h:=(aP h).2;subst be;have be:=(aP h).1;replace h:=(aP h).2;subst be;exact⟨_,rfl,h⟩
 |bm=>
  cases c<;>simp only[jf.flat] at h<;>first|(cases h;done)|skip
  exact⟨(),rfl,h⟩
def fg.L:fg->LT
 |.c s=>s.L
 |.fn _ cK=>LL jf.L cK
def fg.un (ln:Nat->Nat):(s:fg)->s.L.D->SC
 |.c s,x=>s.un ln x
 |.fn f cK,x=>.fn f (ri (jf.un ln) cK x)
def fg.flat (ln:Nat->Nat) (s:fg) (c:SC) (k:s.L.D->Option ρ):Option ρ:=
 match s,c with
 |.c s,c=>s.flat ln c k
 |.fn f cK,.fn f' cs=>cr f' f (rL (jf.flat ln) cK cs k)
 |_,_=>none
theorem fg.qm {ln:Nat->Nat} (s:fg) (c:SC) (k:s.L.D->Option ρ) (r:ρ) (h:s.flat ln c k=some r):∃x,c=s.un ln x/\k x=some r:=by
 cases s with
 |c s=>exact s.qm c k r (by cases c<;>exact h)
 |fn f cK=>
  cases c<;>simp only[fg.flat] at h<;>first|(cases h;done)|skip
  have be:=(aP h).1;replace h:=(aP h).2;subst be;obtain⟨x,e_,h_⟩:=xU (un:=jf.un ln) (fun a b k r=>jf.qm a b k r) h;subst e_;replace h:=h_;exact⟨x,rfl,h⟩
def iN.L:iN->LT
 |.one c=>c.L
 |.agg cs=>LL fg.L cs
 |.bH xs=>LL (fun x:Bool×List fg=>LL fg.L x.2) xs
def iN.un (ln:Nat->Nat):(s:iN)->s.L.D->SV
 |.one c,x=>.one (c.un ln x)
 |.agg cs,x=>.agg (ri (fg.un ln) cs x)
 |.bH xs,x=>.bH (ri (L:=fun x:Bool×List fg=>LL fg.L x.2) (fun a y=>(a.1,ri (fg.un ln) a.2 y)) xs x)
def Yr (ln:Nat->Nat) (a:Bool×List fg) (b:Bool×List SC) (k:(LL fg.L a.2).D->Option ρ):Option ρ:=
 eC (a.1==b.1) (rL (fg.flat ln) a.2 b.2 k)
def iN.flat (ln:Nat->Nat) (s:iN) (v:SV) (k:s.L.D->Option ρ):Option ρ:=
 match s,v with
 |.one c,.one v=>c.flat ln v k
 |.agg cs,.agg vs=>rL (fg.flat ln) cs vs k
 |.bH xs,.bH vs=>rL (L:=fun x:Bool×List fg=>LL fg.L x.2) (Yr ln) xs vs k
 |_,_=>none
theorem iN.qm {ln:Nat->Nat} (s:iN) (v:SV) (k:s.L.D->Option ρ) (r:ρ) (h:s.flat ln v k=some r):∃x,v=s.un ln x/\k x=some r:=by
 cases s with
 |one c=>
  cases v<;>simp only[iN.flat] at h<;>first|(cases h;done)|skip
  obtain⟨x,e_,h_⟩:=fg.qm _ _ _ _ h;subst e_;replace h:=h_;exact⟨x,rfl,h⟩
 |agg cs=>
  cases v<;>simp only[iN.flat] at h<;>first|(cases h;done)|skip
  obtain⟨x,e_,h_⟩:=xU (un:=fg.un ln) (fun a b k r=>fg.qm a b k r) h;subst e_;replace h:=h_;exact⟨x,rfl,h⟩
 |bH xs=>
  cases v<;>simp only[iN.flat] at h<;>first|(cases h;done)|skip
  obtain⟨x,e_,h_⟩:=xU (L:=fun x:Bool×List fg=>LL fg.L x.2) (un:=fun a y=>(a.1,ri (fg.un ln) a.2 y)) (fun a b k r h=>by
   unfold Yr at h;have h1:=(bX h).1;replace h:=(bX h).2;obtain⟨x,h2,h⟩:=xU (un:=fg.un ln) (fun a b k r=>fg.qm a b k r) h;exact⟨x,Prod.ext (eq_of_beq h1).symm h2,h⟩) h
  subst e_;exact⟨x,rfl,h_⟩
def gk.L:gk->LT
 |.box cs=>LL fg.L cs
 |.row _ _ ts=>.ty (.list ts)
def gk.un (ln:Nat->Nat):(s:gk)->s.L.D->SB
 |.box cs,x=>.box (ri (fg.un ln) cs x)
 |.row gr m ts,x=>.row gr m ts x
def Mode.beq:Mode->Mode->Bool
 |.live,.live=>true
 |.aO,.aO=>true
 |.aI,.aI=>true
 |_,_=>false
theorem Mode.beq_eq {a b:Mode} (h:Mode.beq a b=true):a=b:=by cases a<;>cases b<;>first|rfl|cases h
def gk.flat (ln:Nat->Nat) (s:gk) (b:Option SB) (k:s.L.D->Option ρ):Option ρ:=
 match s,b with
 |.box cs,some (.box vs)=>rL (fg.flat ln) cs vs k
 |.row gr m ts,some (.row bn m' us xs)=>eC (bn==gr) (eC (Mode.beq m' m) (match xJ us ts xs with
  |some y=>k y
  |none=>none))
 |_,_=>none
theorem asv {us ts:List Ty} {xs:List (Ty.DL us)} {ys:List (Ty.DL ts)} (h:xJ us ts xs=some ys) (gr:Bool) (m:Mode):SB.row gr m us xs=SB.row gr m ts ys:=by
 unfold xJ at h;split at h
 ·rename_i he;have h2:=Ty.sV he;subst h2;injection h with h;rw[<-h]
 ·cases h
theorem gk.qm {ln:Nat->Nat} (s:gk) (b:Option SB) (k:s.L.D->Option ρ) (r:ρ) (h:s.flat ln b k=some r):∃x,b=some (s.un ln x)/\k x=some r:=by
 cases s with
 |box cs=>
  cases b with
  |none=>cases h
  |some b=>
   cases b<;>simp only[gk.flat] at h<;>first|(cases h;done)|skip
   obtain⟨x,e_,h_⟩:=xU (un:=fg.un ln) (fun a b k r=>fg.qm a b k r) h;subst e_;replace h:=h_;exact⟨x,rfl,h⟩
 |row gr m ts=>
  cases b with
  |none=>cases h
  |some b=>
   cases b<;>simp only[gk.flat] at h<;>first|(cases h;done)|skip
   have h1:=(bX h).1;replace h:=(bX h).2;have h2:=(bX h).1;replace h:=(bX h).2;split at h
   ·rename_i y hy;refine⟨y,?_,h⟩;rw[eq_of_beq h1,Mode.beq_eq h2,asv hy];rfl
   ·cases h
end
def m7:List (Nat×SV)->Nat->SV
 |[]=>fun _=>.one .bm
 |p::l=>ax (m7 l) p.1 p.2
def lk:List (Nat×Option SB)->Nat->Option SB
 |[]=>fun _=>none
 |p::l=>ax (lk l) p.1 p.2
def EK:List (Nat×gk)->Nat->Bool
 |[]=>fun _=>false
 |p::l=>ax (EK l) p.1 true
def tF (h:Nat->Option SB) (n:Nat):Nat:=
 match h n with
 |some (.row _ _ ts xs)=>aa (α:=Ty.DL ts) xs
 |_=>0
abbrev kA.eL (sh:kA):LT:=LL (fun p:Nat×iN=>p.2.L) sh.env
abbrev kA.hL (sh:kA):LT:=LL (fun p:Nat×gk=>p.2.L) sh.heap
def kA.L (sh:kA):LT:=LT.sp sh.eL sh.hL
def M9 (ln:Nat->Nat) (l:List (Nat×iN)) (x:(LL (fun p:Nat×iN=>p.2.L) l).D):List (Nat×SV):=
 ri (L:=fun p:Nat×iN=>p.2.L) (fun p y=>(p.1,p.2.un ln y)) l x
def Bz (ln:Nat->Nat) (l:List (Nat×gk)) (x:(LL (fun p:Nat×gk=>p.2.L) l).D):List (Nat×Option SB):=
 ri (L:=fun p:Nat×gk=>p.2.L) (fun p y=>(p.1,some (p.2.un ln y))) l x
def uY:(l:List (Nat×gk))->(LL (fun p:Nat×gk=>p.2.L) l).D->Nat->Nat
 |[],_=>fun _=>0
 |(n,.box cs)::l,x=>ax (uY l (LT.vg _ _ x).2) n 0
 |(n,.row gr m ts)::l,x=>ax (uY l (LT.vg (LT.ty (.list ts)) _ x).2) n (aa (α:=Ty.DL ts) (LT.vg (LT.ty (.list ts)) _ x).1)
theorem Sl (ln:Nat->Nat):∀(l:List (Nat×gk)) (x:(LL (fun p:Nat×gk=>p.2.L) l).D),uY l x=tF (lk (Bz ln l x))
 |[],_=>rfl
 |(n,.box cs)::l,x=>by
  funext m;simp only[uY,Bz,ri,lk,tF];by_cases hm:m=n
  ·subst hm;simp only[bO];rfl
  ·simp only[cJ _ _ _ _ hm];exact congrFun (Sl ln l _) m
 |(n,.row gr mo ts)::l,x=>by
  funext m;simp only[uY,Bz,ri,lk,tF];by_cases hm:m=n
  ·subst hm;simp only[bO];rfl
  ·simp only[cJ _ _ _ _ hm];exact congrFun (Sl ln l _) m
def kA.un (sh:kA) (x:sh.L.D):af:=
 {env:=m7 (M9 (uY sh.heap (LT.vg sh.eL sh.hL x).2) sh.env (LT.vg sh.eL sh.hL x).1)
  h:=lk (Bz (uY sh.heap (LT.vg sh.eL sh.hL x).2) sh.heap (LT.vg sh.eL sh.hL x).2)
  used:=fun n=>Nat.ble aW n||EK sh.heap n}
def rR (n:Nat):List (Nat×gk)->Bool
 |[]=>false
 |p::l=>match Nat.beq n p.1 with
  |true=>true
  |false=>rR n l
section
variable {ρ:Type}
def Yn (ln:Nat->Nat) (p:Nat×iN) (v:Nat×SV) (k:p.2.L.D->Option ρ):Option ρ:=cr v.1 p.1 (p.2.flat ln v.2 k)
def Yo (ln:Nat->Nat) (p:Nat×gk) (b:Nat×Option SB) (k:p.2.L.D->Option ρ):Option ρ:=cr b.1 p.1 (p.2.flat ln b.2 k)
def JY (σ:af) (hp:List (Nat×gk)):List Nat->Bool
 |[]=>true
 |n::kh=>(match rR n hp with|true=>σ.used n|false=>(match σ.used n with|true=>Nat.ble aW n|false=> !(Nat.ble aW n))&&(σ.h n).isNone)&&JY σ hp kh
def JH (kh:List Nat):List (Nat×gk)->Bool
 |[]=>true
 |p::l=>kh.contains p.1&&JH kh l
def kA.flat (sh:kA) (kh:List Nat) (σ:af) (k:sh.L.D->Option ρ):Option ρ:=
 eC (JY σ sh.heap kh&&JH kh sh.heap)
  (rL (Yn (tF σ.h)) sh.env (sh.env.map fun p=>(p.1,σ.env p.1)) fun xe=>
   rL (Yo (tF σ.h)) sh.heap (sh.heap.map fun p=>(p.1,σ.h p.1)) fun xh=>k (LT.Et sh.eL sh.hL xe xh))
end
theorem aiq (l:List (Nat×iN)) (f:Nat->SV) (hf:∀s,s∉l.map (·.1)->f s=.one .bm):m7 (l.map fun p=>(p.1,f p.1))=f:=by
 have:∀(l:List (Nat×iN)) s,m7 (l.map fun p=>(p.1,f p.1)) s=if s∈l.map (·.1) then f s else .one .bm:=by
  intro l s;induction l with
  |nil=>rfl
  |cons p l ih=>
   simp only[List.map_cons,m7,j8,ih,List.mem_cons];by_cases h:s=p.1
   ·subst h;simp
   ·by_cases h2:s∈l.map (·.1)
    ·rw[if_neg h,if_pos h2,if_pos (Or.inr h2)]
    ·rw[if_neg h,if_neg h2,if_neg (fun e=>e.elim h h2)]
 funext s;rw[this];split
 ·rfl
 ·rename_i h;exact(hf s h).symm
theorem akQ (l:List (Nat×gk)) (f:Nat->Option SB) (hf:∀s,s∉l.map (·.1)->f s=none):lk (l.map fun p=>(p.1,f p.1))=f:=by
 have:∀(l:List (Nat×gk)) s,lk (l.map fun p=>(p.1,f p.1)) s=if s∈l.map (·.1) then f s else none:=by
  intro l s;induction l with
  |nil=>rfl
  |cons p l ih=>
   simp only[List.map_cons,lk,j8,ih,List.mem_cons];by_cases h:s=p.1
   ·subst h;simp
   ·by_cases h2:s∈l.map (·.1)
    ·rw[if_neg h,if_pos h2,if_pos (Or.inr h2)]
    ·rw[if_neg h,if_neg h2,if_neg (fun e=>e.elim h h2)]
 funext s;rw[this];split
 ·rfl
 ·rename_i h;exact(hf s h).symm
theorem ZR (n:Nat) (l:List (Nat×gk)):rR n l=true↔n∈l.map (·.1):=by
  induction l with
  |nil=>simp[rR]
  |cons p l ih=>
   simp only[rR,List.map_cons,List.mem_cons];cases h:Nat.beq n p.1 with
   |true=>simp[Nat.eq_of_beq_eq_true h]
   |false=>simp only[ih];constructor
           · exact .inr
           · rintro(rfl|h2)
             · rw[Nat.beq_refl] at h;cases h
             · exact h2
theorem at2 (n:Nat) (l:List (Nat×gk)):EK l n=rR n l:=by
 induction l with
 |nil=>rfl
 |cons p l ih=>
  simp only[EK,rR,j8,ih];by_cases h:n=p.1
  ·subst h;simp[Nat.beq_refl]
  ·have:Nat.beq n p.1=false:=by
    cases hb:Nat.beq n p.1 with
    |true=>exact absurd (Nat.eq_of_beq_eq_true hb) h
    |false=>rfl
   simp[h,this]
theorem Pr {σ:af} {hp:List (Nat×gk)}:∀{kh:List Nat},JY σ hp kh=true->∀n∈kh,σ.used n=(Nat.ble aW n||rR n hp)/\(rR n hp=false->σ.h n=none)
 |[],_,n,hn=>by cases hn
 |m::kh,h,n,hn=>by
  simp only[JY,Bool.and_eq_true] at h;rcases List.mem_cons.1 hn with e_|hn
  ·subst e_;cases hh:rR n hp with
   |true=>
    rw[hh] at h;have h1:σ.used n=true:=h.1;exact⟨by rw[h1,Bool.or_true],fun e=>by cases e⟩
   |false=>
    rw[hh] at h;simp only[Bool.and_eq_true,Option.isNone_iff_eq_none] at h;refine⟨?_,fun _=>h.1.2⟩;have h1:=h.1.1;rw[Bool.or_false];cases hu:σ.used n with
    |true=>rw[hu] at h1;exact h1.symm
    |false=>rw[hu] at h1;simpa using h1.symm
  ·exact Pr h.2 n hn
theorem Ww {kh:List Nat}:∀{l:List (Nat×gk)},JH kh l=true->∀n∈l.map (·.1),n∈kh
 |[],_,n,hn=>by cases hn
 |p::l,h,n,hn=>by
  simp only[JH,Bool.and_eq_true] at h;simp only[List.map_cons,List.mem_cons] at hn;rcases hn with rfl|hn
  ·simpa using h.1
  ·exact Ww h.2 n hn
theorem kA.qm {ρ:Type} {sh:kA} {kh:List Nat} {σ:af} {k:sh.L.D->Option ρ} {r:ρ} (h:sh.flat kh σ k=some r)
  (he:∀s,s∉sh.ke->σ.env s=.one .bm) (hh:∀n,n∉kh->σ.h n=none/\σ.used n=Nat.ble aW n):∃x,σ=sh.un x/\k x=some r:=by
 unfold kA.flat at h;have hc:=(bX h).1;replace h:=(bX h).2;simp only[Bool.and_eq_true] at hc;obtain⟨xe,e1,h⟩:=xU (L:=fun p:Nat×iN=>p.2.L) (un:=fun p y=>(p.1,p.2.un (tF σ.h) y)) (fun a b k r h=>by
  unfold Yn at h;obtain⟨h1,h⟩:=aP h;obtain⟨x,h2,h⟩:=iN.qm _ _ _ _ h;exact⟨x,Prod.ext h1 h2,h⟩) h
 obtain⟨xh,e2,h⟩:=xU (L:=fun p:Nat×gk=>p.2.L) (un:=fun p y=>(p.1,some (p.2.un (tF σ.h) y))) (fun a b k r h=>by
  unfold Yo at h;obtain⟨h1,h⟩:=aP h;obtain⟨x,h2,h⟩:=gk.qm _ _ _ _ h;exact⟨x,Prod.ext h1 h2,h⟩) h
 have tg:σ.env=m7 (M9 (tF σ.h) sh.env xe):=by
  unfold M9;rw[<-e1];exact(aiq sh.env σ.env he).symm
 have De:σ.h=lk (Bz (tF σ.h) sh.heap xh):=by
  unfold Bz;rw[<-e2];refine(akQ sh.heap σ.h fun n hn=>?_).symm;by_cases hk:n∈kh
  ·refine(Pr hc.1 n hk).2 ?_;cases hb:rR n sh.heap with
   |true=>exact absurd ((ZR n sh.heap).1 hb) hn
   |false=>rfl
  ·exact(hh n hk).1
 have ak5:uY sh.heap xh=tF σ.h:=by
  rw[Sl (tF σ.h),<-De]
 have alx:σ.used=fun n=>Nat.ble aW n||EK sh.heap n:=by
  funext n;rw[at2];by_cases hk:n∈kh
  ·exact(Pr hc.1 n hk).1
  ·rw[(hh n hk).2];cases hb:rR n sh.heap with
   |true=>exact absurd (Ww hc.2 n ((ZR n sh.heap).1 hb)) hk
   |false=>rw[Bool.or_false]
 refine⟨LT.Et sh.eL sh.hL xe xh,?_,h⟩;have:sh.un (LT.Et sh.eL sh.hL xe xh)={env:=m7 (M9 (uY sh.heap xh) sh.env xe),h:=lk (Bz (uY sh.heap xh) sh.heap xh),used:=fun n=>Nat.ble aW n||EK sh.heap n}:=by
  simp only[kA.un,LT.afO]
 rw[this,ak5,<-tg,<-De,<-alx]
def SC.fG (ok:Nat->Bool):SC->SC
 |.ptr n k sz off=>match ok n with|true=>.ptr n k sz off|false=>.bm
 |.sl n sz lo len=>match ok n with|true=>.sl n sz lo len|false=>.bm
 |.bw n k aB off sz len=>match ok n with|true=>.bw n k aB off sz len|false=>.bm
 |.cY n k aB off sz i=>match ok n with|true=>.cY n k aB off sz i|false=>.bm
 |.cE ts x off j n sz len=>match ok n with|true=>.cE ts x off j n sz len|false=>.bm
 |x=>x
def SC.dK (ok:Nat->Bool):SC->SC
 |.fn f cK=>.fn f (cK.map (SC.fG ok))
 |.v t x=>.v t x
 |.nil ts=>.nil ts
 |.ptr n k sz off=>SC.fG ok (.ptr n k sz off)
 |.de ts x off=>.de ts x off
 |.sl n sz lo len=>SC.fG ok (.sl n sz lo len)
 |.bw n k aB off sz len=>SC.fG ok (.bw n k aB off sz len)
 |.cY n k aB off sz i=>SC.fG ok (.cY n k aB off sz i)
 |.cE ts x off j n sz len=>SC.fG ok (.cE ts x off j n sz len)
 |.bm=>.bm
theorem SC.CF (ok:Nat->Bool) (c:SC):(c.fG ok).er=c.er.fG ok:=by
 cases c with
 |ptr n k sz off=>simp only[SC.fG,SC.er,ah.fG];cases ok n<;>rfl
 |sl n sz lo len=>simp only[SC.fG,SC.er,ah.fG];cases ok n<;>rfl
 |bw n k aB off sz len=>simp only[SC.fG,SC.er,ah.fG];cases ok n<;>rfl
 |cY n k aB off sz i=>simp only[SC.fG,SC.er,ah.fG];cases ok n<;>rfl
 |cE ts x off j n sz len=>simp only[SC.fG,SC.er,ah.fG];cases ok n<;>rfl
 |_=>rfl
theorem SC.CG (ok:Nat->Bool) (c:SC):(c.dK ok).er=c.er.dK ok:=by
 cases c with
 |fn f cK=>
  simp only[SC.dK,SC.er,ah.dK,SC.zT,List.map_map];congr 1;exact List.map_congr_left fun c _=>SC.CF ok c
 |ptr n k sz off=>exact SC.CF ok (.ptr n k sz off)
 |sl n sz lo len=>exact SC.CF ok (.sl n sz lo len)
 |bw n k aB off sz len=>exact SC.CF ok (.bw n k aB off sz len)
 |cY n k aB off sz i=>exact SC.CF ok (.cY n k aB off sz i)
 |cE ts x off j n sz len=>exact SC.CF ok (.cE ts x off j n sz len)
 |_=>rfl
def SV.dK (ok:Nat->Bool):SV->SV
 |.one c=>.one (c.dK ok)
 |.agg cs=>.agg (cs.map (SC.dK ok))
 |.bH xs=>.bH (xs.map fun x=>(x.1,x.2.map (SC.dK ok)))
theorem Pw (ok:Nat->Bool) (cs:List SC):(cs.map (SC.dK ok)).map SC.er=(cs.map SC.er).map (ah.dK ok):=by
 simp only[List.map_map];exact List.map_congr_left fun c _=>SC.CG ok c
theorem SV.CG (ok:Nat->Bool) (v:SV):(v.dK ok).er=v.er.dK ok:=by
 cases v with
 |one c=>simp only[SV.dK,SV.er,aj.dK,SC.CG]
 |agg cs=>simp only[SV.dK,SV.er,aj.dK,Pw]
 |bH xs=>
  simp only[SV.dK,SV.er,aj.dK,List.map_map];congr 1;exact List.map_congr_left fun x _=>by simp only[Function.comp];rw[Pw]
def SB.dK (ok:Nat->Bool):SB->SB
 |.box cs=>.box (cs.map (SC.dK ok))
 |.row gr m ts xs=>.row gr m ts xs
theorem SB.CG (ok:Nat->Bool) (b:SB):(b.dK ok).er=b.er.dK ok:=by
 cases b with
 |box cs=>simp only[SB.dK,SB.er,aq.dK,Pw]
 |row gr m ts xs=>rfl
def Bq (ok:Nat->Bool) (env:Nat->SV):List Nat->(Nat->SV)
 |[]=>fun _=>.one .bm
 |s::ss=>ax (Bq ok env ss) s ((env s).dK ok)
def xb (ok:Nat->Bool) (h:Nat->Option SB):List Nat->(Nat->Option SB)
 |[]=>fun _=>none
 |s::ss=>match ok s with
  |true=>match h s with
   |some b=>ax (xb ok h ss) s (some (b.dK ok))
   |none=>xb ok h ss
  |false=>xb ok h ss
def tH (ok:Nat->Bool):List Nat->(Nat->Bool)
 |[]=>fun _=>false
 |s::ss=>match ok s with
  |true=>ax (tH ok ss) s true
  |false=>tH ok ss
theorem afV (ok:Nat->Bool) (env:Nat->SV):∀l,rI (Bq ok env l)=wV ok (rI env) l
 |[]=>rfl
 |s::ss=>by simp only[Bq,wV,vP,afV ok env ss,SV.CG];rfl
theorem MI (ok:Nat->Bool) (h:Nat->Option SB):∀l,df (xb ok h l)=sv ok (df h) l
 |[]=>rfl
 |s::ss=>by
  simp only[xb,sv];cases ok s with
  |false=>simp only[MI ok h ss,Bool.false_eq_true,if_false]
  |true=>
   have:df h s=(h s).map SB.er:=rfl;simp only[if_true,this];cases h s with
   |none=>simp only[Option.map_none,MI ok h ss]
   |some b=>simp only[Kh,MI ok h ss,Option.map_some,SB.CG]
theorem afW (ok:Nat->Bool):∀l,tH ok l=wW ok l
 |[]=>rfl
 |s::ss=>by
  simp only[tH,wW];cases ok s<;>simp[afW ok ss]
theorem Vp (ok:Nat->Bool) (env:Nat->SV):∀(l:List Nat) (s:Nat),s∉l->Bq ok env l s=.one .bm
 |[],s,_=>rfl
 |a::l,s,h=>by
  simp only[List.mem_cons,not_or] at h;simp only[Bq,cJ _ _ _ _ h.1,Vp ok env l s h.2]
theorem Vq (ok:Nat->Bool) (hp:Nat->Option SB):∀(l:List Nat) (s:Nat),s∉l->xb ok hp l s=none
 |[],s,_=>rfl
 |a::l,s,h=>by
  simp only[List.mem_cons,not_or] at h;have ih:=Vq ok hp l s h.2;simp only[xb];cases ok a with
  |false=>exact ih
  |true=>
   cases hp a with
   |none=>exact ih
   |some b=>simp only[cJ _ _ _ _ h.1];exact ih
theorem Vr (ok:Nat->Bool):∀(l:List Nat) (s:Nat),s∉l->tH ok l s=false
 |[],s,_=>rfl
 |a::l,s,h=>by
  simp only[List.mem_cons,not_or] at h;have ih:=Vr ok l s h.2;simp only[tH];cases ok a with
  |false=>exact ih
  |true=>simp only[cJ _ _ _ _ h.1];exact ih
def SC.yX (n:Nat):SC->Bool
 |.ptr m _ _ _=>Nat.beq m n
 |.sl m _ _ _=>Nat.beq m n
 |.bw m _ _ _ _ _=>Nat.beq m n
 |.cY m _ _ _ _ _=>Nat.beq m n
 |.cE _ _ _ _ m _ _=>Nat.beq m n
 |_=>false
def SC.iK (n:Nat):SC->Bool
 |.fn _ cK=>cK.any (SC.yX n)
 |.ptr m _ _ _=>Nat.beq m n
 |.sl m _ _ _=>Nat.beq m n
 |.bw m _ _ _ _ _=>Nat.beq m n
 |.cY m _ _ _ _ _=>Nat.beq m n
 |.cE _ _ _ _ m _ _=>Nat.beq m n
 |.v _ _=>false
 |.nil _=>false
 |.de _ _ _=>false
 |.bm=>false
theorem Cp (m n:Nat):(m==n)=Nat.beq m n:=by
 rw[Bool.eq_iff_iff,beq_iff_eq];exact⟨fun h=>by rw[h];exact Nat.beq_refl n,Nat.eq_of_beq_eq_true⟩
theorem SC.asd (n:Nat) (c:SC):c.er.yX n=c.yX n:=by
 cases c<;>simp[SC.er,ah.yX,SC.yX,Cp]
theorem SC.Mb (n:Nat) (c:SC):c.er.iK n=c.iK n:=by
 cases c with
 |fn f cK=>
  simp only[SC.er,SC.zT,ah.iK,SC.iK,List.any_map];congr 1;funext c;exact SC.asd n c
 |ptr m _ _ _=>exact Cp m n
 |sl m _ _ _=>exact Cp m n
 |bw m _ _ _ _ _=>exact Cp m n
 |cY m _ _ _ _ _=>exact Cp m n
 |cE _ _ _ _ m _ _=>exact Cp m n
 |_=>rfl
def SV.iK (n:Nat):SV->Bool
 |.one c=>c.iK n
 |.agg cs=>cs.any (SC.iK n)
 |.bH xs=>xs.any fun x=>x.2.any (SC.iK n)
theorem Tj (n:Nat) (cs:List SC):(cs.map SC.er).any (ah.iK n)=cs.any (SC.iK n):=by
 rw[List.any_map];congr 1;funext c;exact SC.Mb n c
theorem SV.Mb (n:Nat) (v:SV):v.er.iK n=v.iK n:=by
 cases v with
 |one c=>exact SC.Mb n c
 |agg cs=>exact Tj n cs
 |bH xs=>
  simp only[SV.er,aj.iK,SV.iK,List.any_map];congr 1;funext x;exact Tj n x.2
def adF (n:Nat):Option SB->Bool
 |some (.box cs)=>cs.any (SC.iK n)
 |_=>false
def Ke (n:Nat):List Nat->Bool
 |[]=>false
 |m::l=>match Nat.beq n m with
  |true=>true
  |false=>Ke n l
theorem XJ (n:Nat):∀l:List Nat,Ke n l=l.contains n
 |[]=>rfl
 |m::l=>by
  simp only[Ke,List.contains_cons];have e:(n==m)=Nat.beq n m:=by cases h:Nat.beq n m with
   |true=>simpa using Nat.eq_of_beq_eq_true h
   |false=>simp;intro h';rw[h',Nat.beq_refl] at h;cases h
  rw[e,XJ n l];cases Nat.beq n m<;>rfl
def af.j3 (σ:af) (ke kh:List Nat):Nat->Bool:=fun n=>(σ.h n).isSome&&Ke n kh&&(Nat.ble aW n||ke.any (fun s=>(σ.env s).iK n)||kh.any fun k=>adF n (σ.h k))
theorem af.aqC (σ:af) (ke kh:List Nat):σ.er.j3 ke kh=σ.j3 ke kh:=by
 funext n;simp only[St.j3,af.j3];have h1:(σ.er.h n).isSome=(σ.h n).isSome:=XP σ.h n;have h2:(fun s=>(σ.er.env s).iK n)=fun s=>(σ.env s).iK n:=by funext s;exact SV.Mb n _
 have h3:(fun k=>match σ.er.h k with|some (.box cs)=>cs.any (·.iK n)|_=>false)=fun k=>adF n (σ.h k):=by
  funext k;have:σ.er.h k=(σ.h k).map SB.er:=rfl;rw[this];cases σ.h k with
  |none=>rfl
  |some b=>cases b with
   |box cs=>exact Tj n cs
   |row gr m ts xs=>rfl
 rw[h1,h2,XJ,Bool.and_comm (x:=(σ.h n).isSome)];exact congrArg (fun g:Nat->Bool=>(kh.contains n&&(σ.h n).isSome&&((Nat.ble aW n||ke.any fun s=>SV.iK n (σ.env s))||kh.any g))) h3
def af.jo (σ:af) (ke kh:List Nat):af:=
 {env:=Bq (σ.j3 ke kh) σ.env ke,h:=xb (σ.j3 ke kh) σ.h kh,used:=fun n=>Nat.ble aW n||tH (σ.j3 ke kh) kh n}
theorem af.Tp (σ:af) (ke kh:List Nat):(σ.jo ke kh).er=σ.er.jo ke kh:=by
 simp only[af.jo,St.jo,af.aqC];have e1:=afV (σ.j3 ke kh) σ.env ke;have e2:=MI (σ.j3 ke kh) σ.h kh;have e3:=afW (σ.j3 ke kh) kh;show St.mk (rI (Bq (σ.j3 ke kh) σ.env ke)) (df (xb (σ.j3 ke kh) σ.h kh)) (fun n=>Nat.ble aW n||tH (σ.j3 ke kh) kh n)=_;rw[e1,e2,e3];rfl
def sF (x c n:Nat):Nat:=match Nat.beq n x with|true=>c|false=>n
theorem Ey (x c n:Nat):sF x c n=oe x c n:=by
 unfold sF oe;cases h:Nat.beq n x with
 |true=>rw[if_pos (Nat.eq_of_beq_eq_true h)]
 |false=>rw[if_neg (fun e=>by rw[e,Nat.beq_refl] at h;cases h)]
def SC.oY (x c:Nat):SC->SC
 |.ptr n k sz off=>.ptr (sF x c n) k sz off
 |.sl n sz lo len=>.sl (sF x c n) sz lo len
 |.bw n k aB off sz len=>.bw (sF x c n) k aB off sz len
 |.cY n k aB off sz i=>.cY (sF x c n) k aB off sz i
 |.cE ts y off j n sz len=>.cE ts y off j (sF x c n) sz len
 |y=>y
def SC.br (x c:Nat):SC->SC
 |.fn f cK=>.fn f (cK.map (SC.oY x c))
 |.ptr n k sz off=>.ptr (sF x c n) k sz off
 |.sl n sz lo len=>.sl (sF x c n) sz lo len
 |.bw n k aB off sz len=>.bw (sF x c n) k aB off sz len
 |.cY n k aB off sz i=>.cY (sF x c n) k aB off sz i
 |.cE ts y off j n sz len=>.cE ts y off j (sF x c n) sz len
 |.v t y=>.v t y
 |.nil ts=>.nil ts
 |.de ts y off=>.de ts y off
 |.bm=>.bm
theorem SC.asl (x c:Nat) (y:SC):(y.oY x c).er=y.er.oY x c:=by
 cases y<;>simp[SC.oY,SC.er,ah.oY,Ey]
theorem SC.y3 (x c:Nat) (y:SC):(y.br x c).er=y.er.br x c:=by
 cases y with
 |fn f cK=>
  simp only[SC.br,SC.er,ah.br,SC.zT,List.map_map];congr 1;exact List.map_congr_left fun y _=>SC.asl x c y
 |ptr n k sz off=>simp only[SC.br,SC.er,ah.br,ah.oY,Ey]
 |sl n sz lo len=>simp only[SC.br,SC.er,ah.br,ah.oY,Ey]
 |bw n k aB off sz len=>simp only[SC.br,SC.er,ah.br,ah.oY,Ey]
 |cY n k aB off sz i=>simp only[SC.br,SC.er,ah.br,ah.oY,Ey]
 |cE ts y off j n sz len=>simp only[SC.br,SC.er,ah.br,ah.oY,Ey]
 |_=>rfl
theorem Tn (x c:Nat) (cs:List SC):(cs.map (SC.br x c)).map SC.er=(cs.map SC.er).map (ah.br x c):=by
 simp only[List.map_map];exact List.map_congr_left fun y _=>SC.y3 x c y
def SV.br (x c:Nat):SV->SV
 |.one y=>.one (y.br x c)
 |.agg ys=>.agg (ys.map (SC.br x c))
 |.bH ys=>.bH (ys.map fun y=>(y.1,y.2.map (SC.br x c)))
theorem SV.y3 (x c:Nat) (v:SV):(v.br x c).er=v.er.br x c:=by
 cases v with
 |one y=>simp only[SV.br,SV.er,aj.br,SC.y3]
 |agg cs=>simp only[SV.br,SV.er,aj.br,Tn]
 |bH xs=>
  simp only[SV.br,SV.er,aj.br,List.map_map];congr 1;exact List.map_congr_left fun y _=>by simp only[Function.comp];rw[Tn]
def SB.br (x c:Nat):SB->SB
 |.box cs=>.box (cs.map (SC.br x c))
 |.row gr m ts xs=>.row gr m ts xs
theorem SB.y3 (x c:Nat) (b:SB):(b.br x c).er=b.er.br x c:=by
 cases b with
 |box cs=>simp only[SB.br,SB.er,aq.br,Tn]
 |row gr m ts xs=>rfl
def af.br (σ:af) (x c:Nat):Option af:=
  match Nat.beq x c with
  |true=>some σ
  |false=>match Nat.ble aW x with
   |true=>some σ
   |false=>match σ.used c with
    |true=>none
    |false=>some
     {env:=fun s=>(σ.env s).br x c
      h:=fun n=>match Nat.beq n c with
        |true=>(σ.h x).map (SB.br x c)
        |false=>match Nat.beq n x with
         |true=>none
         |false=>(σ.h n).map (SB.br x c)
      used:=fun n=>match Nat.beq n c with
        |true=>σ.used x
        |false=>match Nat.beq n x with
         |true=>false
         |false=>σ.used n}
theorem yM {m n:Nat} (h:Nat.beq m n=false):m≠n:=fun e=>by rw[e,Nat.beq_refl] at h;cases h
theorem af.y3 {σ σ1:af} {x c:Nat} (h:σ.br x c=some σ1):σ.er.br x c=some σ1.er:=by
 unfold af.br at h;split at h
 ·rename_i e;injection h with h;subst h;simp[St.br,Nat.eq_of_beq_eq_true e]
 ·rename_i e;split at h
  ·rename_i hx;injection h with h;subst h;simp only[St.br,if_neg (yM e),hx,if_true]
  rename_i hx;split at h
  ·cases h
  ·rename_i hu;injection h with h;subst h;have n4:σ.er.used c=false:=hu;simp only[St.br,if_neg (yM e),hx,n4,Bool.false_eq_true,if_false];congr 1;have mm:∀o:Option SB,(o.map (SB.br x c)).map SB.er=(o.map SB.er).map (·.br x c):=by
    intro o;cases o with
    |none=>rfl
    |some b=>simp only[Option.map_some,SB.y3]
   have e1:(fun s=>(σ.er.env s).br x c)=rI (fun s=>(σ.env s).br x c):=by
    funext s;exact(SV.y3 x c (σ.env s)).symm
   have e2:(fun n=>if n=c then(σ.er.h x).map (·.br x c) else if n=x then none else(σ.er.h n).map (·.br x c))=df (fun n=>match Nat.beq n c with
     |true=>(σ.h x).map (SB.br x c)
     |false=>match Nat.beq n x with
      |true=>none
      |false=>(σ.h n).map (SB.br x c)):=by
    funext n;simp only[df];cases hc:Nat.beq n c with
    |true=>rw[if_pos (Nat.eq_of_beq_eq_true hc)];exact(mm (σ.h x)).symm
    |false=>
     rw[if_neg (yM hc)];cases hx:Nat.beq n x with
     |true=>rw[if_pos (Nat.eq_of_beq_eq_true hx)];rfl
     |false=>rw[if_neg (yM hx)];exact(mm (σ.h n)).symm
   have e3:(fun n=>if n=c then σ.er.used x else if n=x then false else σ.er.used n)=(fun n=>match Nat.beq n c with
     |true=>σ.used x
     |false=>match Nat.beq n x with
      |true=>false
      |false=>σ.used n):=by
    funext n;cases hc:Nat.beq n c with
    |true=>rw[if_pos (Nat.eq_of_beq_eq_true hc)];rfl
    |false=>
     rw[if_neg (yM hc)];cases hx:Nat.beq n x with
     |true=>rw[if_pos (Nat.eq_of_beq_eq_true hx)]
     |false=>rw[if_neg (yM hx)];rfl
   rw[e1,e2,e3];rfl
abbrev Cn:=List (Bool×Nat×Nat×Nat×Mode×List Ty)
def Cn.er (cn:Cn):List (Bool×Nat×Nat×Nat×Mode):=cn.map fun x=>(x.1,x.2.1,x.2.2.1,x.2.2.2.1,x.2.2.2.2.1)
def af.kV (σ:af) (c:Nat):Mode->af
 |.aI=>match σ.h c with
  |some (.row gr .aO ts xs)=>σ.eD c (.row gr .aI ts xs)
  |_=>σ
 |_=>σ
theorem af.aix (σ:af) (c:Nat) (m:Mode):(σ.kV c m).er=σ.er.kV c m:=by
 cases m with
 |live=>rfl
 |aO=>rfl
 |aI=>
  simp only[af.kV,St.kV];have hh:σ.er.h c=(σ.h c).map SB.er:=rfl;rw[hh];cases σ.h c with
  |none=>rfl
  |some b=>cases b with
   |box cs=>rfl
   |row gr m ts xs=>cases m with
    |aO=>simp only[Option.map_some,SB.er,af.pz]
    |live=>rfl
    |aI=>rfl
def y6 (σ:af):Bool×Nat×Nat×Nat×Mode×List Ty->Option af
 |(true,n,j,c,m,us)=>match σ.h n with
  |some (.box cs)=>match cs[j]? with
   |some (.sl a _ _ _)=>(σ.br a c).map fun σ1=>σ1.kV c m
   |some (.nil ts)=>match ts with
    |[]=>some σ
    |t::ts=>match σ.ins c (.row true m (t::ts) []) with
     |some σ1=>some (σ1.eD n (.box (cs.set j (.sl c (t::ts).length 0 0))))
     |none=>none
   |_=>some σ
  |_=>some σ
 |(false,n,j,c,m,us)=>match σ.env n with
  |.one (.sl a _ _ _)=>(σ.br a c).map fun σ1=>σ1.kV c m
  |.one (.nil ts)=>match ts with
   |[]=>some σ
   |t::ts=>match σ.ins c (.row true m (t::ts) []) with
    |some σ1=>some (σ1.put (some n) (.one (.sl c (t::ts).length 0 0)))
    |none=>none
  |_=>some σ
theorem afU {σ σ1:af} {a c:Nat} {m:Mode} (h:(σ.br a c).map (fun σ1=>σ1.kV c m)=some σ1):(σ.er.br a c).map (fun σ1=>σ1.kV c m)=some σ1.er:=by
 rw[Option.map_eq_some_iff] at h;obtain⟨σ2,e,rfl⟩:=h;rw[af.y3 e,Option.map_some,af.aix]
theorem asQ {σ σ1:af} {x:Bool×Nat×Nat×Nat×Mode×List Ty} (h:y6 σ x=some σ1):σ.er.canon (x.1,x.2.1,x.2.2.1,x.2.2.2.1,x.2.2.2.2.1)=some σ1.er:=by
 obtain⟨b,n,j,c,m,us⟩:=x;cases b with
 |true=>
  simp only[y6] at h;simp only[St.canon];have hh:σ.er.h n=(σ.h n).map SB.er:=rfl;rw[hh];split at h
  ·rename_i cs hn;simp only[hn,Option.map_some,SB.er,List.getElem?_map];split at h
   ·rename_i a _ _ _ hj;simp only[hj,Option.map_some,SC.er];exact afU h
   ·rename_i ts hj;simp only[hj,Option.map_some,SC.er];split at h
    ·injection h with h;subst h;rfl
    ·rename_i t ts;split at h
     ·rename_i σ2 e;injection h with h;subst h;have i:=af.oJ e;rw[show(SB.row true m (t::ts) []).er=aq.row true m (t::ts).length [] from rfl] at i
      simp only[List.length_cons,Nat.zero_lt_succ,if_true] at i⊢;rw[i];simp only[af.pz,SB.er,List.map_set,SC.er,List.length_cons]
     ·cases h
   ·rename_i hs hz;injection h with h;subst h;cases hj:cs[j]? with
    |none=>rfl
    |some y=>cases y<;>first|rfl|(exfalso;exact hs _ _ _ _ hj)|(exfalso;exact hz _ hj)
  ·rename_i hb;injection h with h;subst h;cases hn:σ.h n with
   |none=>rfl
   |some b=>cases b with
    |box cs=>exact absurd hn (hb cs)
    |row gr m ts xs=>rfl
 |false=>
  simp only[y6] at h;simp only[St.canon];have hh:σ.er.env n=(σ.env n).er:=rfl;rw[hh];split at h
  ·rename_i a _ _ _ hn;simp only[hn,SV.er,SC.er];exact afU h
  ·rename_i ts hn;simp only[hn,SV.er,SC.er];split at h
   ·injection h with h;subst h;rfl
   ·rename_i t ts;split at h
    ·rename_i σ2 e;injection h with h;subst h;have i:=af.oJ e;rw[show(SB.row true m (t::ts) []).er=aq.row true m (t::ts).length [] from rfl] at i
     simp only[List.length_cons,Nat.zero_lt_succ,if_true] at i⊢;rw[i];simp only[af.dT,SV.er,SC.er,List.length_cons]
    ·cases h
  ·rename_i hs hz;injection h with h;subst h;cases hn:σ.env n with
   |one y=>cases y<;>first|rfl|(exfalso;exact hs _ _ _ _ hn)|(exfalso;exact hz _ hn)
   |_=>rfl
def Eh (σ:af):Cn->Option af
 |[]=>some σ
 |x::l=>match y6 σ x with
  |some σ1=>Eh σ1 l
  |none=>none
theorem afl:∀{cn:Cn} {σ σ1:af},Eh σ cn=some σ1->σ.er.uh cn.er=some σ1.er
 |[],σ,σ1,h=>by simp only[Eh] at h;injection h with h;subst h;rfl
 |x::l,σ,σ1,h=>by
  simp only[Eh] at h;split at h
  ·rename_i σ2 e;have i:=asQ e;have j:=afl h;simp only[Cn.er] at j;simp only[Cn.er,List.map_cons,St.uh,i,j]
  ·cases h
section
variable {ρ:Type}
def yK (n:Nat) (k:Nat->Option ρ):List Nat->Option ρ
 |[]=>k n
 |c::l=>match Nat.beq n c with
  |true=>k c
  |false=>yK n k l
theorem acP (n:Nat) (k:Nat->Option ρ):∀l,yK n k l=k n
 |[]=>rfl
 |c::l=>by
  simp only[yK];split
  ·rename_i e;rw[Nat.eq_of_beq_eq_true e]
  ·exact acP n k l
def Ql (kh:List Nat) (c:SC) (k:SC->Option ρ):Option ρ:=
 match c with
 |.v t x=>k (.v t x)
 |.nil ts=>k (.nil ts)
 |.ptr n kk sz off=>yK n (fun n=>k (.ptr n kk sz off)) kh
 |.de ts x off=>k (.de ts x off)
 |.sl n sz lo len=>yK n (fun n=>k (.sl n sz lo len)) kh
 |.bw n a b c d e=>yK n (fun n=>k (.bw n a b c d e)) kh
 |.cY n a b c d e=>yK n (fun n=>k (.cY n a b c d e)) kh
 |.cE ts x off j n sz len=>yK n (fun n=>k (.cE ts x off j n sz len)) kh
 |.fn f cK=>k (.fn f cK)
 |.bm=>k .bm
theorem Zw (kh:List Nat) (c:SC) (k:SC->Option ρ):Ql kh c k=k c:=by
 cases c<;>first|rfl|exact acP _ _ _
def FO (kh:List Nat):List SC->(List SC->Option ρ)->Option ρ
 |[],k=>k []
 |c::cs,k=>Ql kh c fun c=>FO kh cs fun cs=>k (c::cs)
theorem Qm (kh:List Nat):∀(cs:List SC) (k:List SC->Option ρ),FO kh cs k=k cs
 |[],k=>rfl
 |c::cs,k=>by simp only[FO,Zw,Qm kh cs]
def vR (kh:List Nat) (env:Nat->SV):List Nat->(List (Nat×SV)->Option ρ)->Option ρ
 |[],k=>k []
 |s::ss,k=>match env s with
  |.one .bm=>vR kh env ss k
  |.one c=>Ql kh c fun c=>vR kh env ss fun l=>k ((s,.one c)::l)
  |.agg cs=>FO kh cs fun cs=>vR kh env ss fun l=>k ((s,.agg cs)::l)
  |.bH xs=>vR kh env ss fun l=>k ((s,.bH xs)::l)
def vS (kh:List Nat) (h:Nat->Option SB):List Nat->(List (Nat×Option SB)->Option ρ)->Option ρ
 |[],k=>k []
 |n::ns,k=>match h n with
  |none=>vS kh h ns k
  |some (.box cs)=>FO kh cs fun cs=>vS kh h ns fun l=>k ((n,some (.box cs))::l)
  |some (.row gr m ts xs)=>vS kh h ns fun l=>k ((n,some (.row gr m ts xs))::l)
def z5 (u:Nat->Bool):List Nat->(List Nat->Option ρ)->Option ρ
 |[],k=>k []
 |n::ns,k=>match u n with
  |true=>z5 u ns fun l=>k (n::l)
  |false=>z5 u ns k
def xg:List Nat->Nat->Bool
 |[],n=>Nat.ble aW n
 |m::l,n=>match Nat.beq n m with
  |true=>true
  |false=>xg l n
def af.CX (ke kh:List Nat) (σ:af) (k:af->Option ρ):Option ρ:=
 vR kh σ.env ke fun le=>vS kh σ.h kh fun lh=>z5 σ.used kh fun lu=>k ⟨m7 le,lk lh,xg lu⟩
structure jr (ke kh:List Nat) (σ:af):Prop where
 e:∀s,s∉ke->σ.env s=.one .bm
 h:∀n,n∉kh->σ.h n=none
 u:∀n,n∉kh->σ.used n=Nat.ble aW n
 p:∀n,σ.used n=false->Nat.ble aW n=false
theorem Zx (kh:List Nat) (env:Nat->SV):∀(ss:List Nat) (k:List (Nat×SV)->Option ρ),∃l:List (Nat×SV),vR kh env ss k=k l/\∀s,m7 l s=if s∈ss then env s else .one .bm
 |[],k=>⟨[],rfl,fun s=>by simp[m7]⟩
 |a::ss,k=>by
  have db:∀v:SV,env a=v->(∀k':List (Nat×SV)->Option ρ,∃l,vR kh env ss k'=k' l/\∀s,m7 l s=if s∈ss then env s else .one .bm)->
    ∃l:List (Nat×SV),vR kh env ss (fun l=>k ((a,v)::l))=k l/\∀s,m7 l s=if s∈a::ss then env s else .one .bm:=by
   intro v hv ih;obtain⟨l,h1,h2⟩:=ih fun l=>k ((a,v)::l);refine⟨(a,v)::l,h1,fun s=>?_⟩;simp only[m7,j8];split
   ·rename_i e;subst e;rw[if_pos (by simp)];exact hv.symm
   ·rename_i aF;rw[h2 s];by_cases hs:s∈ss
    ·rw[if_pos hs,if_pos (by simp[hs])]
    ·rw[if_neg hs,if_neg (by simp[hs,aF])]
  have ih:=fun k':List (Nat×SV)->Option ρ=>Zx kh env ss k';simp only[vR];split
  ·rename_i hv;obtain⟨l,h1,h2⟩:=ih k;refine⟨l,h1,fun s=>?_⟩;rw[h2 s];by_cases hs:s∈ss
   ·rw[if_pos hs,if_pos (by simp[hs])]
   ·rw[if_neg hs];by_cases yl:s=a
    ·subst yl;rw[if_pos (by simp),hv]
    ·rw[if_neg (by simp[hs,yl])]
  ·rename_i c hc hv;rw[Zw];exact db _ hv ih
  ·rename_i cs hv;rw[Qm];exact db _ hv ih
  ·rename_i xs hv;exact db _ hv ih
theorem Zy (kh:List Nat) (h:Nat->Option SB):∀(ns:List Nat) (k:List (Nat×Option SB)->Option ρ),∃l:List (Nat×Option SB),vS kh h ns k=k l/\∀n,lk l n=if n∈ns then h n else none
 |[],k=>⟨[],rfl,fun s=>by simp[lk]⟩
 |a::ns,k=>by
  have db:∀v:Option SB,h a=v->(∀k':List (Nat×Option SB)->Option ρ,∃l,vS kh h ns k'=k' l/\∀s,lk l s=if s∈ns then h s else none)->
    ∃l:List (Nat×Option SB),vS kh h ns (fun l=>k ((a,v)::l))=k l/\∀s,lk l s=if s∈a::ns then h s else none:=by
   intro v hv ih;obtain⟨l,h1,h2⟩:=ih fun l=>k ((a,v)::l);refine⟨(a,v)::l,h1,fun s=>?_⟩;simp only[lk,j8];split
   ·rename_i e;subst e;rw[if_pos (by simp)];exact hv.symm
   ·rename_i aF;rw[h2 s];by_cases hs:s∈ns
    ·rw[if_pos hs,if_pos (by simp[hs])]
    ·rw[if_neg hs,if_neg (by simp[hs,aF])]
  have ih:=fun k':List (Nat×Option SB)->Option ρ=>Zy kh h ns k';simp only[vS];split
  ·rename_i hv;obtain⟨l,h1,h2⟩:=ih k;refine⟨l,h1,fun s=>?_⟩;rw[h2 s];by_cases hs:s∈ns
   ·rw[if_pos hs,if_pos (by simp[hs])]
   ·rw[if_neg hs];by_cases yl:s=a
    ·subst yl;rw[if_pos (by simp),hv]
    ·rw[if_neg (by simp[hs,yl])]
  ·rename_i cs hv;rw[Qm];exact db _ hv ih
  ·rename_i gr m ts xs hv;exact db _ hv ih
theorem Qn (u:Nat->Bool) (hp:∀n,u n=false->Nat.ble aW n=false):∀(ns:List Nat) (k:List Nat->Option ρ),∃l:List Nat,z5 u ns k=k l/\∀n,xg l n=if n∈ns then u n else Nat.ble aW n
 |[],k=>⟨[],rfl,fun s=>by simp[xg]⟩
 |a::ns,k=>by
  simp only[z5];split
  ·rename_i hv;obtain⟨l,h1,h2⟩:=Qn u hp ns fun l=>k (a::l);refine⟨a::l,h1,fun s=>?_⟩;simp only[xg];split
   ·rename_i e;have:=Nat.eq_of_beq_eq_true e;subst this;rw[if_pos (by simp)];exact hv.symm
   ·rename_i e;have aF:=yM e;rw[h2 s];by_cases hs:s∈ns
    ·rw[if_pos hs,if_pos (by simp[hs])]
    ·rw[if_neg hs,if_neg (by simp[hs,aF])]
  ·rename_i hv;obtain⟨l,h1,h2⟩:=Qn u hp ns k;refine⟨l,h1,fun s=>?_⟩;rw[h2 s];by_cases hs:s∈ns
   ·rw[if_pos hs,if_pos (by simp[hs])]
   ·rw[if_neg hs];by_cases yl:s=a
    ·subst yl;rw[if_pos (by simp),hv,hp _ hv]
    ·rw[if_neg (by simp[hs,yl])]
theorem Kx {ke kh:List Nat} {σ:af} (W:jr ke kh σ) (k:af->Option ρ):σ.CX ke kh k=k σ:=by
 unfold af.CX;obtain⟨le,e1,e2⟩:=Zx kh σ.env ke fun le=>vS kh σ.h kh fun lh=>z5 σ.used kh fun lu=>k ⟨m7 le,lk lh,xg lu⟩;rw[e1];obtain⟨lh,h1,h2⟩:=Zy kh σ.h kh fun lh=>z5 σ.used kh fun lu=>k ⟨m7 le,lk lh,xg lu⟩;rw[h1];obtain⟨lu,u1,u2⟩:=Qn σ.used W.p kh fun lu=>k ⟨m7 le,lk lh,xg lu⟩;rw[u1];have a1:m7 le=σ.env:=by
  funext s;rw[e2 s];split
  ·rfl
  ·rename_i hs;exact(W.e s hs).symm
 have a2:lk lh=σ.h:=by
  funext s;rw[h2 s];split
  ·rfl
  ·rename_i hs;exact(W.h s hs).symm
 have a3:xg lu=σ.used:=by
  funext s;rw[u2 s];split
  ·rfl
  ·rename_i hs;exact(W.u s hs).symm
 rw[a1,a2,a3]
theorem jr.jo (ke kh:List Nat) (σ:af):jr ke kh (σ.jo ke kh):=
 ⟨fun s hs=>Vp _ _ _ s hs,fun n hn=>Vq _ _ _ n hn,fun n hn=>by show(Nat.ble aW n||tH _ _ n)=_;rw[Vr _ _ n hn,Bool.or_false],
  fun n hn=>by have bu:(Nat.ble aW n||tH _ _ n)=false:=hn;simp only[Bool.or_eq_false_iff] at bu;exact bu.1⟩
theorem jr.br {ke kh:List Nat} {σ σ1:af} {a c:Nat} (W:jr ke kh σ) (hc:c∈kh) (h:σ.br a c=some σ1):jr ke kh σ1:=by
 unfold af.br at h;split at h
 ·injection h with h;subst h;exact W
 ·split at h
  ·injection h with h;subst h;exact W
  ·rename_i oP;split at h
   ·cases h
   ·rename_i K6;injection h with h;subst h;refine⟨fun s hs=>?_,fun n hn=>?_,fun n hn=>?_,fun n hn=>?_⟩
    ·show(σ.env s).br a c=_;rw[W.e s hs];rfl
    ·simp only
     split
     ·rename_i e;exact absurd (by rw[Nat.eq_of_beq_eq_true e];exact hc) hn
     ·split
      ·rfl
      ·rw[W.h n hn];rfl
    ·simp only
     split
     ·rename_i e;exact absurd (by rw[Nat.eq_of_beq_eq_true e];exact hc) hn
     ·split
      ·rename_i e;rw[Nat.eq_of_beq_eq_true e,oP]
      ·exact W.u n hn
    ·simp only at hn;split at hn
     ·rename_i e;rw[Nat.eq_of_beq_eq_true e];exact W.p c K6
     ·split at hn
      ·rename_i e;rw[Nat.eq_of_beq_eq_true e,oP]
      ·exact W.p n hn
theorem jr.ins {ke kh:List Nat} {σ σ1:af} {c:Nat} {b:SB} (W:jr ke kh σ) (hc:c∈kh) (h:σ.ins c b=some σ1):jr ke kh σ1:=by
 unfold af.ins at h;split at h
 ·cases h
 ·rename_i K6;injection h with h;subst h;refine⟨W.e,fun n hn=>?_,fun n hn=>?_,fun n hn=>?_⟩
  ·show ax σ.h c _ n=_;rw[cJ _ _ _ _ (fun e=>hn (by rw[e];exact hc))];exact W.h n hn
  ·show ax σ.used c _ n=_;rw[cJ _ _ _ _ (fun e=>hn (by rw[e];exact hc))];exact W.u n hn
  ·have bu:ax σ.used c true n=false:=hn;by_cases e:n=c
   ·subst e;rw[bO] at bu;cases bu
   ·rw[cJ _ _ _ _ e] at bu;exact W.p n bu
theorem jr.kV {ke kh:List Nat} {σ:af} (W:jr ke kh σ) (c:Nat) (m:Mode):jr ke kh (σ.kV c m):=by
 cases m with
 |live=>exact W
 |aO=>exact W
 |aI=>
  simp only[af.kV];split
  ·rename_i gr ts xs hn;exact⟨W.e,fun n hk=>by
    show ax σ.h c _ n=none;have th:n≠c:=fun e=>by subst e;rw[W.h n hk] at hn;cases hn
    rw[cJ _ _ _ _ th];exact W.h n hk,W.u,W.p⟩
  ·exact W
theorem jr.Hk {ke kh:List Nat} {σ σ1:af} {a c:Nat} {m:Mode} (W:jr ke kh σ) (hc:c∈kh) (h:(σ.br a c).map (fun σ1=>σ1.kV c m)=some σ1):jr ke kh σ1:=by
 rw[Option.map_eq_some_iff] at h;obtain⟨σ2,e,rfl⟩:=h;exact(W.br hc e).kV c m
theorem jr.canon {ke kh:List Nat} {σ σ1:af} {x:Bool×Nat×Nat×Nat×Mode×List Ty} (W:jr ke kh σ) (hc:x.2.2.2.1∈kh) (h:y6 σ x=some σ1):jr ke kh σ1:=by
 obtain⟨b,n,j,c,m,us⟩:=x;simp only at hc;have hJ:some σ=some σ1->jr ke kh σ1:=fun h=>by injection h with h;subst h;exact W
 cases b with
 |true=>
  simp only[y6] at h;split at h
  ·rename_i cs hn;split at h
   ·exact W.Hk hc h
   ·split at h
    ·exact hJ h
    ·split at h
     ·rename_i σ2 e;injection h with h;subst h;have W2:=W.ins hc e;have Q4:n∈kh:=by
       rcases Decidable.em (n∈kh) with h|h
       ·exact h
       ·rw[W.h n h] at hn;cases hn
      exact⟨W2.e,fun q hq=>by show ax σ2.h n _ q=_;rw[cJ _ _ _ _ (fun e=>hq (by rw[e];exact Q4))];exact W2.h q hq,W2.u,W2.p⟩
     ·cases h
   ·exact hJ h
  ·exact hJ h
 |false=>
  simp only[y6] at h;split at h
  ·exact W.Hk hc h
  ·rename_i ts hn;split at h
   ·exact hJ h
   ·split at h
    ·rename_i σ2 e;injection h with h;subst h;have W2:=W.ins hc e;have Q4:n∈ke:=by
      rcases Decidable.em (n∈ke) with h|h
      ·exact h
      ·rw[W.e n h] at hn;cases hn
     exact⟨fun q hq=>by show ax σ2.env n _ q=_;rw[cJ _ _ _ _ (fun e=>hq (by rw[e];exact Q4))];exact W2.e q hq,W2.h,W2.u,W2.p⟩
    ·cases h
  ·exact hJ h
def Mn (ke kh:List Nat):Cn->af->(af->Option ρ)->Option ρ
 |[],σ,k=>k σ
 |x::l,σ,k=>match y6 σ x with
  |some σ1=>match List.elem x.2.2.2.1 kh with
   |true=>σ1.CX ke kh fun σ2=>Mn ke kh l σ2 k
   |false=>none
  |none=>none
theorem afk {ke kh:List Nat}:∀{cn:Cn} {σ:af} {k:af->Option ρ} {r:ρ},jr ke kh σ->Mn ke kh cn σ k=some r->∃σ1,Eh σ cn=some σ1/\k σ1=some r
 |[],σ,k,r,W,h=>⟨σ,rfl,h⟩
 |x::l,σ,k,r,W,h=>by
  simp only[Mn] at h;split at h
  ·rename_i σ1 e;split at h
   ·rename_i hm;have W1:=W.canon (by simpa using hm) e;rw[Kx W1] at h;obtain⟨σ2,h1,h2⟩:=afk W1 h;exact⟨σ2,by simp only[Eh,e,h1],h2⟩
   ·cases h
  ·cases h
def Ek (sh:kA) (kh:List Nat) (cn:Cn) (σ:af) (k:sh.L.D->Option ρ):Option ρ:=
 (σ.jo sh.ke kh).CX sh.ke kh fun σ1=>(σ1.jo sh.ke kh).CX sh.ke kh fun σ2=>Mn sh.ke kh cn σ2 fun gK=>(gK.jo sh.ke kh).CX sh.ke kh fun σ4=>sh.flat kh σ4 k
theorem Ms {sh:kA} {kh:List Nat} {cn:Cn} {σ:af} {k:sh.L.D->Option ρ} {r:ρ} (h:Ek sh kh cn σ k=some r):
  ∃x,σ.er.head sh.ke kh cn.er=some (sh.un x).er/\k x=some r:=by
 unfold Ek at h;rw[Kx (jr.jo _ _ _),Kx (jr.jo _ _ _)] at h;obtain⟨σ1,e,h⟩:=afk (jr.jo _ _ _) h;rw[Kx (jr.jo _ _ _)] at h;obtain⟨x,h1,h2⟩:=kA.qm h (fun s hs=>Vp _ _ _ s hs) (fun n hn=>⟨Vq _ _ _ n hn,by show(Nat.ble aW n||tH _ _ n)=_;rw[Vr _ _ n hn,Bool.or_false]⟩);have i:=afl e;rw[af.Tp,af.Tp] at i;exact⟨x,by simp only[St.head,i,<-h1,af.Tp],h2⟩
end
inductive bt where
 |skip
 |ij (lK:Bool) (ops:List dA)
 |wT (ps:List (Nat×Nat)) (ops:List dA)
 |tE (its:List vw)
 |qZ (lK:Bool) (ps:List (Nat×Nat)) (ops:List dA) (sp:E8)
 |seq (a b:bt)
 |cond (c:cL) (a b:bt)
 |block (id:Nat) (c:bt)
 |join (sh:kA) (kh:List Nat) (cn:Cn) (c:bt)
 |loop (id:Nat) (sh:kA) (kh:List Nat) (cn:Cn) (c:bt)
 |exit (id:Nat)
 |ret
def bt.er:bt->lG
 |.skip=>.skip
 |.ij d ops=>.ij d (ops.map dA.er)
 |.wT ps ops=>.wT ps (ops.map dA.er)
 |.tE its=>.tE (its.map vw.er)
 |.qZ dr ps ops sp=>.qZ dr ps (ops.map dA.er) sp.er
 |.seq a b=>.seq a.er b.er
 |.cond c a b=>.cond c.er a.er b.er
 |.block id c=>.block id c.er
 |.join sh kh cn c=>.join sh.ke kh cn.er c.er
 |.loop id sh kh cn c=>.loop id sh.ke kh cn.er c.er
 |.exit id=>.exit id
 |.ret=>.ret
def af.Sn (σ:af) (c:cL) (b:Bool):af:=
 match c with
 |.t n=>σ.lit n b
 |.k _=>σ
def yw {X ρ:Type} (o:Option ρ):Option (X⊕ρ):=o.ae fun r=>some (.inr r)
theorem DE {X ρ:Type} {o:Option ρ} {s:X⊕ρ} (h:yw o=some s):∃r,o=some r/\s=.inr r:=by
 unfold yw at h;rw[d7] at h;obtain⟨r,h1,h2⟩:=h;injection h2 with h2;exact⟨r,h1,h2.symm⟩
def mb (N:Nat) (T:List au):bt->{ρ:Type}->af->(af->Option ρ)->(Nat->af->Option ρ)->(af->Option ρ)->Option ρ
 |.skip,_,σ,k,_,_=>k σ
 |.ij _ ops,_,σ,k,_,_=>o7 T ops σ k
 |.wT ps ops,_,σ,k,_,_=>pZ T ps ops [] σ k
 |.tE its,_,σ,k,_,_=>Hv T its σ k
 |.qZ false _ ops sp,_,σ,k,_,_=>o7 T ops σ fun σ1=>Er sp σ1 k
 |.qZ true ps ops sp,_,σ,k,_,_=>pZ T ps ops [] σ fun σ1=>Er sp σ1 k
 |.seq a b,_,σ,k,ex,kr=>mb N T a σ (fun σ1=>mb N T b σ1 k ex kr) ex kr
 |.cond c a b,_,σ,k,ex,kr=>match σ.ev c with
  |.one (.v .bool t)=>av t (mb N T a (σ.Sn c true) k ex kr) (mb N T b (σ.Sn c false) k ex kr)
  |_=>none
 |.block id c,_,σ,k,ex,kr=>mb N T c σ k (fun i σ1=>match Nat.beq i id with|true=>k σ1|false=>ex i σ1) kr
 |.join sh kh cn c,ρ,σ,k,ex,kr=>
  bV (mb N T c (ρ:=sh.L.D⊕ρ) σ (fun σ1=>Ek sh kh cn σ1 fun x=>some (.inl x)) (fun i σ1=>yw (ex i σ1)) (fun σ1=>yw (kr σ1))) fun x=>k (sh.un x)
 |.loop id sh kh cn c,ρ,σ,k,ex,kr=>
  Ek sh kh cn σ fun x0=>ci N (fun x=>mb N T c (ρ:=sh.L.D⊕ρ) (sh.un x) (fun σ1=>Ek sh kh cn σ1 fun x'=>some (.inl x')) (fun i σ1=>yw (ex i σ1)) (fun σ1=>yw (kr σ1))) x0
 |.exit id,_,σ,_,ex,_=>ex id σ
 |.ret,_,σ,_,_,kr=>kr σ
def Wm {ρ:Type} (k:af->Option ρ) (ex:Nat->af->Option ρ) (kr:af->Option ρ) (r:ρ):t6->Prop
 |.fD τ=>∃fm:af,τ=fm.er/\k fm=some r
 |.ext i τ=>∃fm:af,τ=fm.er/\ex i fm=some r
 |.ret τ=>∃fm:af,τ=fm.er/\kr fm=some r
theorem aa9 {σ:af} {c:cL} {b:Bool} (h:σ.ev c=.one (.v .bool b)):(σ.Sn c b).er=σ.er:=by
 cases c with
 |t n=>exact af.FG h
 |k v=>rfl
theorem sC {T:List au}:∀(m:bt) {ρ:Type} {σ:af} {k:af->Option ρ} {ex:Nat->af->Option ρ} {kr:af->Option ρ} {r:ρ},mb aL T m σ k ex kr=some r->
    ∃o:t6,eM (cI T) m.er σ.er=some o/\Wm k ex kr r o
  |.skip,ρ,σ,k,ex,kr,r,h=>⟨.fD σ.er,rfl,σ,rfl,h⟩
  |.ij d ops,ρ,σ,k,ex,kr,r,h=>by
   obtain⟨σ1,h1,h2⟩:=Hx (h:o7 T ops σ k=some r);exact⟨.fD σ1.er,by simp only[bt.er,eM,h1],σ1,rfl,h2⟩
  |.wT ps ops,ρ,σ,k,ex,kr,r,h=>by
   obtain⟨σ1,fs,h1,h2,h3⟩:=Mq (h:pZ T ps ops [] σ k=some r);exact⟨.fD σ1.er,by simp only[bt.er,eM,h1,h2,cond_true],σ1,rfl,h3⟩
  |.tE its,ρ,σ,k,ex,kr,r,h=>by
   obtain⟨σ1,h1,h2⟩:=UY (h:Hv T its σ k=some r);exact⟨.fD σ1.er,by simp only[bt.er,eM,h1],σ1,rfl,h2⟩
  |.qZ false ps ops sp,ρ,σ,k,ex,kr,r,h=>by
   obtain⟨σ1,h1,h2⟩:=Hx (h:o7 T ops σ (fun σ1=>Er sp σ1 k)=some r);obtain⟨σ2,h3,h4⟩:=afF h2;exact⟨.fD σ2.er,by simp only[bt.er,eM,h1,h3],σ2,rfl,h4⟩
  |.qZ true ps ops sp,ρ,σ,k,ex,kr,r,h=>by
   obtain⟨σ1,fs,h1,hp,h2⟩:=Mq (h:pZ T ps ops [] σ (fun σ1=>Er sp σ1 k)=some r);obtain⟨σ2,h3,h4⟩:=afF h2;exact⟨.fD σ2.er,by simp only[bt.er,eM,h1,h3,hp,cond_true],σ2,rfl,h4⟩
  |.seq a b,ρ,σ,k,ex,kr,r,h=>by
   obtain⟨o,h1,h2⟩:=sC a (h:mb aL T a σ (fun σ1=>mb aL T b σ1 k ex kr) ex kr=some r);cases o with
   |fD τ=>
    obtain⟨fm,rfl,h2⟩:=h2;obtain⟨o2,h3,h4⟩:=sC b h2;exact⟨o2,by simp only[bt.er,eM,h1,h3],h4⟩
   |ext i τ=>exact⟨.ext i τ,by simp only[bt.er,eM,h1],h2⟩
   |ret τ=>exact⟨.ret τ,by simp only[bt.er,eM,h1],h2⟩
  |.cond c a b,ρ,σ,k,ex,kr,r,h=>by
   simp only[mb] at h;split at h
   · rename_i t hc;have dm:σ.er.ev c.er=.one (.c (.bool t)):=by rw[af.dL,hc];rfl
     cases ht:(t:Bool) with
     |true=>
      rw[ht] at h;simp only[Px] at h;obtain⟨o,h1,h2⟩:=sC a h;rw[aa9 (by rw[hc,ht])] at h1;exact⟨o,by simp only[bt.er,eM,dm,ht,if_true,h1],h2⟩
     |false=>
      rw[ht] at h;simp only[J3] at h;obtain⟨o,h1,h2⟩:=sC b h;rw[aa9 (by rw[hc,ht])] at h1;exact⟨o,by simp only[bt.er,eM,dm,ht,Bool.false_eq_true,if_false,h1],h2⟩
   · cases h
  |.block id c,ρ,σ,k,ex,kr,r,h=>by
   obtain⟨o,h1,h2⟩:=sC c (h:mb aL T c σ k (fun i σ1=>match Nat.beq i id with|true=>k σ1|false=>ex i σ1) kr=some r)
   cases o with
   |fD τ=>exact⟨.fD τ,by simp only[bt.er,eM,h1],h2⟩
   |ret τ=>exact⟨.ret τ,by simp only[bt.er,eM,h1],h2⟩
   |ext i τ=>
    obtain⟨fm,rfl,h2⟩:=h2;simp only at h2;split at h2
    · rename_i e;exact⟨.fD fm.er,by simp only[bt.er,eM,h1,if_pos (Nat.eq_of_beq_eq_true e)],fm,rfl,h2⟩
    · rename_i e;exact⟨.ext i fm.er,by simp only[bt.er,eM,h1,if_neg (yM e)],fm,rfl,h2⟩
  |.join sh kh cn c,ρ,σ,k,ex,kr,r,h=>by
   simp only[mb,bV,Option.bind_eq_some_iff] at h;obtain⟨s,hs,h⟩:=h;obtain⟨o,h1,h2⟩:=sC c hs;cases o with
   |fD τ=>
    obtain⟨fm,rfl,h2⟩:=h2;obtain⟨x,h3,h4⟩:=Ms h2;injection h4 with h4;subst h4;exact⟨.fD (sh.un x).er,by simp only[bt.er,eM,h1,h3],sh.un x,rfl,h⟩
   |ext i τ=>
    obtain⟨fm,rfl,h2⟩:=h2;obtain⟨y,h3,rfl⟩:=DE h2;injection h with h;subst h;exact⟨.ext i fm.er,by simp only[bt.er,eM,h1],fm,rfl,h3⟩
   |ret τ=>
    obtain⟨fm,rfl,h2⟩:=h2;obtain⟨y,h3,rfl⟩:=DE h2;injection h with h;subst h;exact⟨.ret fm.er,by simp only[bt.er,eM,h1],fm,rfl,h3⟩
  |.loop id sh kh cn c,ρ,σ,k,ex,kr,r,h=>by
   simp only[mb] at h;obtain⟨x0,h0,h⟩:=Ms h;simp only[bt.er,eM];have db:∀(n:Nat) (x0:sh.L.D) (Ns:St),Ns.head sh.ke kh cn.er=some (sh.un x0).er->
       ci n (fun x=>mb aL T c (ρ:=sh.L.D⊕ρ) (sh.un x) (fun σ1=>Ek sh kh cn σ1 fun x'=>some (.inl x')) (fun i σ1=>yw (ex i σ1)) (fun σ1=>yw (kr σ1))) x0=some r->
       ∃o:t6,DM n (fun σ=>match σ.head sh.ke kh cn.er with|some σ1=>eM (cI T) c.er σ1|none=>none) Ns=some o/\Wm k ex kr r o:=by
    intro n;induction n with
    |zero=>intro x0 Ns h0 h;simp[ci] at h
    |succ n ih=>
     intro x0 Ns h0 h;simp only[ci] at h;simp only[DM,h0];split at h
     · rename_i x' hb;obtain⟨o,h1,h2⟩:=sC c hb;cases o with
       |fD τ=>
        obtain⟨fm,rfl,h2⟩:=h2;obtain⟨x2,h3,h4⟩:=Ms h2;injection h4 with h4;injection h4 with h4;subst h4;simp only[h1];exact ih x2 _ h3 h
       |ext i τ=>
        obtain⟨fm,rfl,h2⟩:=h2;obtain⟨y,_,e⟩:=DE h2;cases e
       |ret τ=>
        obtain⟨fm,rfl,h2⟩:=h2;obtain⟨y,_,e⟩:=DE h2;cases e
     · rename_i y hb;injection h with h;subst h;obtain⟨o,h1,h2⟩:=sC c hb;cases o with
       |fD τ=>
        obtain⟨fm,rfl,h2⟩:=h2;obtain⟨x2,h3,h4⟩:=Ms h2;injection h4 with h4;cases h4
       |ext i τ=>
        obtain⟨fm,rfl,h2⟩:=h2;obtain⟨y',h3,e⟩:=DE h2;injection e with e;subst e;exact⟨.ext i fm.er,by simp only[h1],fm,rfl,h3⟩
       |ret τ=>
        obtain⟨fm,rfl,h2⟩:=h2;obtain⟨y',h3,e⟩:=DE h2;injection e with e;subst e;exact⟨.ret fm.er,by simp only[h1],fm,rfl,h3⟩
     · cases h
   exact db aL x0 σ.er h0 h
  |.exit id,ρ,σ,k,ex,kr,r,h=>⟨.ext id σ.er,rfl,σ,rfl,h⟩
  |.ret,ρ,σ,k,ex,kr,r,h=>⟨.ret σ.er,rfl,σ,rfl,h⟩
structure gy (σ σ':St):Prop where
 h:∀n,σ.used n=true->σ'.h n=σ.h n
 u:∀n,σ.used n=true->σ'.used n=true
theorem gy.refl (σ:St):gy σ σ:=⟨fun _ _=>rfl,fun _ h=>h⟩
theorem gy.trans {σ σ1 σ2:St} (a:gy σ σ1) (b:gy σ1 σ2):gy σ σ2:=⟨fun n hn=>(b.h n (a.u n hn)).trans (a.h n hn),fun n hn=>b.u n (a.u n hn)⟩
theorem gy.put (σ:St) (d:Option Nat) (v:aj):gy σ (σ.put d v):=by cases d<;>exact⟨fun _ _=>rfl,fun _ h=>h⟩
theorem gy.dB:∀{l:List (Nat×aq)} {σ σ':St},σ.dB l=some σ'->gy σ σ'
 |[],σ,σ',h=>by simp only[St.dB] at h;injection h with h;subst h;exact gy.refl _
 |(n,b)::l,σ,σ',h=>by
  simp only[St.dB] at h;split at h
  ·rename_i σ1 e;obtain⟨hu,rfl⟩:=ko e;refine gy.trans ⟨fun m hm=>?_,fun m hm=>?_⟩ (gy.dB h)
   ·show ax σ.h n (some b) m=_;rw[cJ _ _ _ _ (fun e=>by subst e;rw[hu] at hm;cases hm)]
   ·show ax σ.used n true m=true;rw[j8];split
    ·rfl
    ·exact hm
  ·cases h
theorem gy.exec {T:aN} {d:Option Nat} {op:aU} {σ σ':St} (hc:Nat.ble op.eY 1=true) (h:exec T d op σ=some σ'):gy σ σ':=by
 rw[ql T d op σ (Nat.le_of_ble_eq_true hc)] at h;cases hr:rd T d op σ.ev σ.h with
 |none=>rw[hr] at h;cases h
 |some x=>
  rw[hr] at h;simp only[Option.bind_some,gV] at h;rw[Option.map_eq_some_iff] at h;obtain⟨σ1,h1,rfl⟩:=h;exact(gy.dB h1).trans (gy.put _ _ _)
theorem gy.d6 {T:aN} {o:bN} {σ σ':St} (hc:Nat.ble o.op.eY 1=true) (h:d6 T o σ=some σ'):gy σ σ':=by
 unfold Am.d6 at h;split at h
 ·exact gy.exec hc h
 ·split at h
  ·split at h
   ·exact gy.exec hc h
   ·injection h with h;subst h;exact gy.put _ _ _
  ·injection h with h;subst h;exact gy.put _ _ _
  ·cases h
theorem gy.fu {T:aN}:∀{os:List bN} {σ σ':St},os.all (fun o=>Nat.ble o.op.eY 1)=true->fu T os σ=some σ'->gy σ σ'
 |[],σ,σ',_,h=>by simp only[Am.fu] at h;injection h with h;subst h;exact gy.refl _
 |o::os,σ,σ',hc,h=>by
  simp only[List.all_cons,Bool.and_eq_true] at hc;simp only[Am.fu] at h;split at h
  ·rename_i σ1 e;exact(gy.d6 hc.1 e).trans (gy.fu hc.2 h)
  ·cases h
theorem gy.mD {T:aN}:∀{os:List bN} {dJ fs:List (Option FP)} {σ σ':St},os.all (fun o=>Nat.ble o.op.eY 1)=true->mD T os dJ σ=some (fs,σ')->gy σ σ'
 |[],dJ,fs,σ,σ',_,h=>by simp only[Am.mD] at h;injection h with h;injection h with _ h;subst h;exact gy.refl _
 |o::os,dJ,fs,σ,σ',hc,h=>by
  simp only[List.all_cons,Bool.and_eq_true] at hc;simp only[Am.mD] at h;split at h
  ·rename_i σ1 e;exact(gy.d6 hc.1 e).trans (gy.mD hc.2 h)
  ·cases h
def t6.st:t6->St
 |.fD σ=>σ
 |.ext _ σ=>σ
 |.ret σ=>σ
section
variable {B:Nat} {E:Ex} {w0 w w':World} {G G':Gh} {N:Nat} {h h':Nat->Option aq} {used:Nat->Bool}
variable {P:Program} {T:aN} {a:Act} {σ σ':St} {Q:Exit->Act->World->Prop}
end
section
variable {B:Nat} {E:Ex} {w0 w w':World} {G G':Gh} {N:Nat} {h h':Nat->Option aq} {used:Nat->Bool}
variable {P:Program} {T:aN} {a:Act} {σ σ':St} {Q:Exit->Act->World->Prop}
end
def Hs (k:K) (ts:List Ty) (x:Ty.DL ts):SV:=
 match k with
 |.one=>match Ty.cells ts x with
  |[c]=>.one c
  |_=>.one .bm
 |.agg=>.agg (Ty.cells ts x)
 |.ptr=>.one (.de ts x 0)
theorem adZ (k:K) (ts:List Ty) (x:Ty.DL ts):(Hs k ts x).er=zE (k,Ty.aE ts x):=by
 cases k with
 |one=>
  match ts,x with
  |[],x=>rfl
  |[t],x=>rfl
  |t::u::[],x=>rfl
  |t::u::v::ts,x=>rfl
 |agg=>simp only[Hs,SV.er,zE,Ty.kC]
 |ptr=>rfl
def HB:Nat->(as:ak)->ba as.aZ->(Nat->SV)
 |_,[],_=>fun _=>.one .bm
 |k,[a],x=>ax (fun _=>.one .bm) k (Hs a.1 a.2 x)
 |k,a::b::as,x=>ax (HB (k+1) (b::as) x.2) k (Hs a.1 a.2 x.1)
theorem afw:∀(k:Nat) (as:ak) (x:ba as.aZ),rI (HB k as x)=uN k (dE as x)
 |k,[],x=>rfl
 |k,[a],x=>by
  have e:(Hs a.1 a.2 x).er=zE (a.1,Ty.aE a.2 x):=adZ a.1 a.2 x;simp only[HB,dE,uN,vP];rw[e];rfl
 |k,a::b::as,x=>by
  have ih:=afw (k+1) (b::as) x.2;simp only[HB,dE,vP,adZ,ih];rw[uN]
def Mv (as:ak) (x:ba as.aZ):af:={env:=HB 0 as x,h:=fun _=>none,used:=fun n=>Nat.ble aW n}
theorem afy (as:ak) (x:ba as.aZ):(Mv as x).er=DC (dE as x):=by
 simp only[Mv,af.er,DC,afw];rfl
section
variable {ρ:Type}
def xa (σ:af):List bz->(List SV->Option ρ)->Option ρ
 |[],k=>k []
 |.tmp t::ms,k=>xa σ ms fun vs=>k (σ.env t::vs)
 |.cell t sz ag::ms,k=>match σ.env t with
  |.one p=>HE σ.h p sz fun cs=>xa σ ms fun vs=>k (Bx ag cs::vs)
  |_=>none
theorem Ew {σ:af}:∀{ms:List bz} {k:List SV->Option ρ} {r:ρ},xa σ ms k=some r->∃vs,σ.er.q9 ms=some (vs.map SV.er)/\k vs=some r
 |[],k,r,h=>⟨[],rfl,h⟩
 |.tmp t::ms,k,r,h=>by
  simp only[xa] at h;obtain⟨vs,h1,h2⟩:=Ew h;exact⟨_,by simp only[St.q9,h1];rfl,h2⟩
 |.cell t sz ag::ms,k,r,h=>by
  simp only[xa] at h;split at h
  ·rename_i p hp;obtain⟨cs,h1,h2⟩:=Vd h;obtain⟨vs,h3,h4⟩:=Ew h2;have bC:σ.er.env t=.one p.er:=by show(σ.env t).er=_;rw[hp];rfl
   have iS:loadAt σ.er.h p.er sz=some (cs.map SC.er):=h1;exact⟨_,by simp only[St.q9,bC,iS,h3,List.map_cons,EG],h4⟩
  ·cases h
def Vs (h:Nat->Option SB) (c:SC) (k:(t:Ty)->t.D->List Nat->Option ρ):Option ρ:=
 match c with
 |.v t x=>eC t.fh (k t x [])
 |.nil ts=>match ts with
  |[]=>none
  |t::us=>k (.list (t::us)) ([]:List (Ty.DL (t::us))) []
 |.sl n sz lo len=>match h n with
  |some (.row true m ts xs)=>cr ts.length sz (eC m.own (cr lo 0 ((dP xs len).ae fun ys=>k (.list ts) ys [n])))
  |_=>none
 |_=>none
theorem atq {h:Nat->Option SB} {c:SC} {k:(t:Ty)->t.D->List Nat->Option ρ} {r:ρ} (hx:Vs h c k=some r):
  ∃(t:Ty) (x:t.D) (ns:List Nat),jJ (df h) c.er=some (t.er x,ns)/\k t x ns=some r:=by
 unfold Vs at hx;split at hx
 ·rename_i t x;have h1:=(bX hx).1;replace hx:=(bX hx).2;exact⟨t,x,[],by simp only[SC.er,jJ,Ty.w5,h1,if_true],hx⟩
 ·split at hx
  ·cases hx
  ·rename_i t us;exact⟨.list (t::us),[],[],by simp[SC.er,jJ,Ty.er],hx⟩
 ·rename_i n sz lo len;split at hx
  ·rename_i m ts xs hn;have be:=(aP hx).1;replace hx:=(aP hx).2;subst be;have hm:=(bX hx).1;replace hx:=(bX hx).2;have be:=(aP hx).1;replace hx:=(aP hx).2;subst be;rw[d7] at hx;obtain⟨ys,hw,hx⟩:=hx;obtain⟨w1,w2⟩:=VP hw;refine⟨.list ts,ys,[n],?_,hx⟩;have bL:m≠ .aI:=by rintro rfl;cases hm
   simp only[SC.er,jJ,df,hn,Option.map_some,SB.er,List.length_map,w1,w2,ne_eq,bL,not_false_eq_true,and_self,if_true,Ty.er]
  ·cases hx
 ·cases hx
def ML (h:Nat->Option SB):List SC->(List TD->List Nat->Option ρ)->Option ρ
 |[],k=>k [] []
 |c::cs,k=>Vs h c fun t x ns=>ML h cs fun l lD=>k (⟨t,x⟩::l) (ns++lD)
theorem afZ {h:Nat->Option SB}:∀{cs:List SC} {k:List TD->List Nat->Option ρ} {r:ρ},ML h cs k=some r->
  ∃l ns,vb (df h) (cs.map SC.er)=some (dj l,ns)/\k l ns=some r
 |[],k,r,hx=>⟨[],[],rfl,hx⟩
 |c::cs,k,r,hx=>by
  simp only[ML] at hx;obtain⟨t,x,ns,h1,h2⟩:=atq hx;obtain⟨l,lD,h3,h4⟩:=afZ h2;exact⟨⟨t,x⟩::l,ns++lD,by simp[vb,h1,h3,dj],h4⟩
def kOf:Bool->K
 |true=>.agg
 |false=>.one
def HL (h:Nat->Option SB):List SV->(List cd->List Nat->Option ρ)->Option ρ
 |[],k=>k [] []
 |v::vs,k=>match v.cells? with
  |some (ag,cs)=>ML h cs fun l ns=>HL h vs fun ds lD=>k ((kOf ag,l)::ds) (ns++lD)
  |none=>none
theorem Vt {h:Nat->Option SB}:∀{vs:List SV} {k:List cd->List Nat->Option ρ} {r:ρ},HL h vs k=some r->
  ∃ds ns,sA (df h) (vs.map SV.er)=some (ds.map cd.er,ns)/\k ds ns=some r
 |[],k,r,hx=>⟨[],[],rfl,hx⟩
 |v::vs,k,r,hx=>by
  simp only[HL] at hx;split at hx
  ·rename_i ag cs hc;obtain⟨l,ns,h1,h2⟩:=afZ hx;obtain⟨ds,lD,h3,h4⟩:=Vt h2;refine⟨_,_,?_,h4⟩;simp only[List.map_cons,sA,SV.kC hc,h1,h3];cases ag<;>rfl
  ·cases hx
end
def G8:List Nat->Bool
 |[]=>true
 |n::l=> !(l.contains n)&&G8 l
theorem SK:∀{l:List Nat},G8 l=true->l.Nodup
 |[],_=>List.nodup_nil
 |n::l,h=>by
  simp only[G8,Bool.and_eq_true,Bool.not_eq_true'] at h;rw[List.nodup_cons];refine⟨fun hm=>?_,SK h.2⟩;have:l.contains n=true:=by simpa using hm
  rw[this] at h;cases h.1
def MK (σ:af) (ms:List bz) (aw:ak):Option (ba aw.aZ):=
 xa σ ms fun vs=>HL σ.h vs fun ds ns=>eC (G8 ns) (mM aw ds)
theorem afY {σ:af} {ms:List bz} {aw:ak} {y:ba aw.aZ} (h:MK σ ms aw=some y):σ.er.u9 ms=some (dE aw y):=by
 unfold MK at h;obtain⟨vs,h1,h2⟩:=Ew h;obtain⟨ds,ns,h3,h4⟩:=Vt h2;have h5:=(bX h4).1;replace h6:=(bX h4).2;have x3:sA σ.er.h (vs.map SV.er)=some (ds.map cd.er,ns):=h3;simp only[St.u9,h1,x3,if_pos (SK h5),pP h6]
def dt (N:Nat) (T:List au) (sc:bt) (ms:List bz) (args aw:ak) (x:ba args.aZ):Option (ba aw.aZ):=
 mb N T sc (Mv args x) (fun σ=>MK σ ms aw) (fun _ _=>none) (fun σ=>MK σ ms aw)
theorem asA {T:List au} {sc:bt} {ms:List bz} {args aw:ak} {x:ba args.aZ} {y:ba aw.aZ} (h:dt aL T sc ms args aw x=some y):
  Mf (cI T) sc.er ms (dE args x)=some (dE aw y):=by
 obtain⟨o,h1,h2⟩:=sC sc h;rw[afy] at h1;unfold Mf;rw[h1];cases o with
 |fD τ=>
  obtain⟨fm,rfl,h2⟩:=h2;exact afY h2
 |ret τ=>
  obtain⟨fm,rfl,h2⟩:=h2;exact afY h2
 |ext i τ=>
  obtain⟨fm,rfl,h2⟩:=h2;cases h2
theorem CP:∀(as:ak) (x:ba as.aZ),(dE as x).length=as.length
 |[],_=>rfl
 |[a],_=>rfl
 |a::b::as,x=>by simp only[dE,List.length_cons,CP (b::as) x.2]
def rf:Nat->List (Option Mode)->List TD->List SC
 |c,some _::fs,⟨.list ts,xs⟩::l=>.sl (aW+c) ts.length 0 (aa (α:=Ty.DL ts) xs)::rf (c+1) fs l
 |c,some _::fs,⟨.int _,_⟩::l=>.bm::rf (c+1) fs l
 |c,some _::fs,⟨.bool,_⟩::l=>.bm::rf (c+1) fs l
 |c,none::fs,x::l=>.v x.1 x.2::rf c fs l
 |c,[],l=>l.map fun x=>.v x.1 x.2
 |c,_::_,[]=>[]
theorem Hq:∀(c:Nat) (fs:List (Option Mode)) (l:List TD),(rf c fs l).map SC.er=iz c fs (dj l)
 |c,some m::fs,⟨.list ts,xs⟩::l=>by
  simp only[rf,dj,List.map_cons,Ty.er,iz,SC.er];have:=Hq (c+1) fs l;simp only[dj] at this;rw[this];exact congrArg (fun q=>ah.sl (aW+c) ts.length 0 q::_) (List.length_map (Ty.aE ts)).symm
 |c,some m::fs,⟨.int k,x⟩::l=>by
  simp only[rf,dj,List.map_cons,Ty.er,iz,SC.er];exact congrArg _ (Hq (c+1) fs l)
 |c,some m::fs,⟨.bool,x⟩::l=>by
  simp only[rf,dj,List.map_cons,Ty.er,iz,SC.er];exact congrArg _ (Hq (c+1) fs l)
 |c,none::fs,⟨t,x⟩::l=>by
  simp only[rf,dj,List.map_cons,iz,SC.er];exact congrArg _ (Hq c fs l)
 |c,[],l=>by
  cases l<;>simp[rf,dj,iz,SC.er]
 |c,some m::fs,[]=>rfl
 |c,none::fs,[]=>rfl
def UU (c:Nat) (s:List (Option Mode)) (ts:List Ty) (x:Ty.DL ts):SC:=
 match s with
 |[]=>.de ts x 0
 |_::_=>match(Ty.gO ts x).getLast? with
  |some ⟨.list us,l⟩=>.cE ts x 0 (ts.length - 1) (aW+c) us.length (aa l)
  |_=>.bm
theorem asM (c:Nat) (s:List (Option Mode)) (ts:List Ty) (x:Ty.DL ts):(UU c s ts x).er=Fa c s (Ty.aE ts x):=by
 cases s with
 |nil=>rfl
 |cons f fs=>
  have h1:Ty.aE ts x=(Ty.gO ts x).map fun y=>y.1.er y.2:=(Ty.pw ts x).symm;have h2:(Ty.aE ts x).length=ts.length:=Ty.CQ ts x;simp only[UU,Fa];rw[h2,h1,List.getLast?_map];cases hl:(Ty.gO ts x).getLast? with
  |none=>rfl
  |some y=>
   obtain⟨t,l⟩:=y;cases t with
   |list us=>
    simp only[Option.map_some,Ty.er,SC.er,h1,aa];exact congrArg (ah.cE _ 0 (ts.length - 1) (aW+c) us.length) (List.length_map (as:=(l:List (Ty.DL us))) (Ty.aE us)).symm
   |int k=>rfl
   |bool=>rfl
def Hr (c:Nat) (s:List (Option Mode)) (d:K×List Ty) (x:Ty.DL d.2):SV:=
 match d.1 with
 |.one=>match rf c s (Ty.gO d.2 x) with
  |[y]=>.one y
  |_=>.one .bm
 |.agg=>.agg (rf c s (Ty.gO d.2 x))
 |.ptr=>.one (UU c s d.2 x)
theorem adY (c:Nat) (s:List (Option Mode)) (d:K×List Ty) (x:Ty.DL d.2):(Hr c s d x).er=qi c s (d.1,Ty.aE d.2 x):=by
 obtain⟨k,ts⟩:=d;have h:=Hq c s (Ty.gO ts x);rw[Ty.pw] at h;cases k with
 |one=>
  simp only[Hr,qi,<-h];generalize rf c s (Ty.gO ts x)=l;match l with
  |[]=>rfl
  |[y]=>rfl
  |_::_::_=>rfl
 |agg=>simp only[Hr,qi,<-h,SV.er]
 |ptr=>exact congrArg aj.one (asM c s ts x)
def HC:Nat->Nat->aM->(as:ak)->ba as.aZ->(Nat->SV)
 |_,_,_,[],_=>fun _=>.one .bm
 |k,c,sig,[a],x=>ax (fun _=>.one .bm) k (Hr c sig.hd a x)
 |k,c,sig,a::b::as,x=>ax (HC (k+1) (c+(fi sig.hd (Ty.gO a.2 x.1)).length) sig.tl (b::as) x.2) k (Hr c sig.hd a x.1)
theorem PY {α β:Type}:∀(s:List (Option Mode)) (l:List α) (l':List β),l.length=l'.length->(fi s l).length=(fi s l').length
 |some m::fs,x::xs,y::ys,h=>by simp only[fi,List.length_cons,PY fs xs ys (by simpa using h)]
 |none::fs,x::xs,y::ys,h=>by simp only[fi];exact PY fs xs ys (by simpa using h)
 |[],l,l',h=>by cases l<;>cases l'<;>rfl
 |some m::fs,[],[],h=>rfl
 |none::fs,[],[],h=>rfl
 |_::_,[],_::_,h=>by simp at h
 |_::_,_::_,[],h=>by simp at h
theorem ah5 (ts:List Ty) (x:Ty.DL ts):(Ty.gO ts x).length=(Ty.aE ts x).length:=by
 rw[<-Ty.pw,dj,List.length_map]
theorem aaE (k c:Nat) (sig:aM) (d:Dv) (ds:List Dv):nk k c sig (d::ds)=ax (nk (k+1) (c+(fi sig.hd d.2).length) sig.tl ds) k (qi c sig.hd d):=by
 cases sig with
 |nil=>
  have:(fi (aM.hd []) d.2).length=0:=rfl;rw[this];simp only[nk,Nat.add_zero,aM.tl,aM.hd]
 |cons s sig=>rfl
theorem afu:∀(k c:Nat) (sig:aM) (as:ak) (x:ba as.aZ),rI (HC k c sig as x)=nk k c sig (dE as x)
 |k,c,sig,[],x=>by cases sig<;>rfl
 |k,c,sig,[a],x=>by
  simp only[HC,dE,vP];have h:=adY c sig.hd a x;rw[aaE];have e:nk (k+1) (c+(fi sig.hd (Ty.aE a.2 x)).length) sig.tl []=xQ:=by
   simp only[nk]
  rw[e];exact congrArg (fun v=>ax (rI fun _=>SV.one SC.bm) k v) h
 |k,c,sig,a::b::as,x=>by
  have ih:=afu (k+1) (c+(fi sig.hd (Ty.gO a.2 x.1)).length) sig.tl (b::as) x.2;simp only[HC,dE,vP,adY,ih,aaE (ds:=dE (b::as) x.2)];rw[PY sig.hd (Ty.gO a.2 x.1) (Ty.aE a.2 x.1) (ah5 _ _)]
def Ej (sig:aM) (as:ak) (x:ba as.aZ):List (Mode×TD):=eZ sig ((h9 as x).map (·.2))
theorem U9 (sig:aM) (as:ak) (x:ba as.aZ):(Ej sig as x).map (fun p=>(p.1,p.2.1.er p.2.2))=eZ sig ((dE as x).map (·.2)):=by
 unfold Ej;rw[<-s6,<-Kp (fun p:TD=>p.1.er p.2)];simp only[List.map_map];rfl
def Vw:Mode×TD->Option SB
 |(m,⟨.list ts,xs⟩)=>some (.row false m ts xs)
 |_=>none
theorem ats (p:Mode×TD):(Vw p).map SB.er=oh (p.1,p.2.1.er p.2.2):=by
 obtain⟨m,t,x⟩:=p;cases t<;>rfl
def Ez:List (Mode×TD)->Nat->Option SB
 |[],_=>none
 |p::_,0=>Vw p
 |_::l,n+1=>Ez l n
theorem af3:∀(l:List (Mode×TD)) (n:Nat),Ez l n=(l[n]?).bind Vw
 |[],n=>by simp[Ez]
 |p::l,0=>by simp[Ez]
 |p::l,n+1=>by simp[Ez,af3 l n]
def afs (fl:List (Mode×TD)):Nat->Option SB:=fun n=>match Nat.ble aW n with
 |true=>Ez fl (Nat.sub n aW)
 |false=>none
def Vb (sig:aM) (as:ak) (x:ba as.aZ):af:={env:=HC 0 0 sig as x,h:=afs (Ej sig as x),used:=fun n=>Nat.ble aW n}
theorem as9 (sig:aM) (as:ak) (x:ba as.aZ):(Vb sig as x).er=DD sig (dE as x):=by
 simp only[Vb,af.er,DD,afu];congr 1;funext n;simp only[df,afs];cases hb:Nat.ble aW n with
 |true=>
  rw[if_pos (Nat.le_of_ble_eq_true hb),<-U9,af3];simp only[List.getElem?_map];cases (Ej sig as x)[n - aW]? with
  |none=>simp
  |some p=>simp[ats]
 |false=>
  rw[if_neg (fun h=>by rw[Nat.ble_eq_true_of_le h] at hb;cases hb)];rfl
def af.kP (σ:af):af:={σ with h:=fun n=>match Nat.ble aW n with|true=>none|false=>σ.h n}
theorem af.aqv (σ:af):σ.kP.er=σ.er.kP:=by
 simp only[af.kP,af.er,St.kP];congr 1;funext n;simp only[df];cases hb:Nat.ble aW n with
 |true=>rw[if_pos (Nat.le_of_ble_eq_true hb)];rfl
 |false=>rw[if_neg (fun h=>by rw[Nat.ble_eq_true_of_le h] at hb;cases hb)]
section
variable {ρ:Type}
def Vi (σ:af) (q:Nat) (p:Mode×TD) (k:TD->Option ρ):Option ρ:=
 match p with
 |(m,⟨.list ts,xs⟩)=>match σ.h (aW+q) with
  |some (.row _ m' us ys)=>eC (Mode.beq m' m) (eC (Ty.sU us ts) (eC (VU m us) ((j6 (aa ys) (aa (α:=Ty.DL ts) xs)).ae fun _=>k ⟨.list us,ys⟩)))
  |_=>none
 |_=>none
theorem aaN (t:Ty) (x:t.D):(t.er x).sa= !t.fh:=by cases t<;>rfl
theorem aaM:∀(ts:List Ty) (x:Ty.DL ts),(Ty.aE ts x).map C.sa=ts.map fun t=> !t.fh
 |[],_=>rfl
 |[t],x=>congrArg (fun b=>[b]) (aaN t x)
 |t::u::ts,x=>by
  have:=aaM (u::ts) x.2;simp only[List.map_cons] at this;simp only[Ty.aE,List.map_cons,aaN,this]
theorem aaO (ts:List Ty) (xs:List (Ty.DL ts)):(List.map (Ty.aE ts) xs).map (fun e=>e.map C.sa)=List.replicate xs.length (ts.map fun t=> !t.fh):=by
 induction xs with
 |nil=>rfl
 |cons x xs ih=>simp only[List.map_cons,aaM,ih,List.length_cons,List.replicate_succ]
theorem ati {σ:af} {q:Nat} {p:Mode×TD} {k:TD->Option ρ} {r:ρ} (h:Vi σ q p k=some r):∃o:TD,DX σ.er q (p.1,p.2.1.er p.2.2)=some (o.1.er o.2)/\k o=some r:=by
 unfold Vi at h;split at h
 ·rename_i m ts xs;split at h
  ·rename_i gr m' us ys hn;have h1:=(bX h).1;replace h:=(bX h).2;have h2:=(bX h).1;replace h:=(bX h).2;have h3:=(bX h).1;replace h:=(bX h).2;rw[d7] at h;obtain⟨_,hs,h⟩:=h;have hl:aa ys=aa (α:=Ty.DL ts) xs:=by
    unfold j6 at hs;split at hs
    ·assumption
    ·cases hs
   have h1:=Mode.beq_eq h1;have h2:=Ty.sV h2;subst h1 h2;refine⟨_,?_,h⟩;have bu:σ.er.h (aW+q)=some (.row gr m' us.length (List.map (Ty.aE us) ys)):=by simp[af.er,df,hn,SB.er]
   have eG:List.length ys=List.length (α:=Ty.DL us) xs:=hl;have Al:(List.map (Ty.aE us) ys).length=(List.map (α:=Ty.DL us) (Ty.aE us) xs).length:=(List.length_map _).trans (eG.trans (List.length_map (as:=(xs:List (Ty.DL us))) (Ty.aE us)).symm);have qy:(List.map (Ty.aE us) ys).map (fun e=>e.map C.sa)=(List.map (α:=Ty.DL us) (Ty.aE us) xs).map (fun e=>e.map C.sa):=
    (aaO us ys).trans ((congrArg (fun n=>List.replicate n _) eG).trans (aaO us xs).symm)
   simp only[DX,Ty.er,bu];rw[if_pos ⟨trivial,trivial,Al,Yq _ _ _ h3,qy⟩]
  ·cases h
 ·cases h
def ME (σ:af):Nat->List (Mode×TD)->(List TD->Option ρ)->Option ρ
 |_,[],k=>k []
 |q,p::l,k=>Vi σ q p fun o=>ME σ (q+1) l fun os=>k (o::os)
theorem afJ {σ:af}:∀{l:List (Mode×TD)} {q:Nat} {k:List TD->Option ρ} {r:ρ},ME σ q l k=some r->∃os,yP σ.er q (l.map fun p=>(p.1,p.2.1.er p.2.2))=some (dj os)/\k os=some r
 |[],q,k,r,h=>⟨[],rfl,h⟩
 |p::l,q,k,r,h=>by
  simp only[ME] at h;obtain⟨o,h1,h2⟩:=ati h;obtain⟨os,h3,h4⟩:=afJ h2;exact⟨o::os,by simp only[List.map_cons,yP,h1,h3,dj],h4⟩
end
def MN (σ:af) (ms:List bz) (fl:List (Mode×TD)) (kk:Nat) (aw:ak):Option (ba aw.aZ):=
 xa σ.kP ms fun vs=>HL σ.kP.h vs fun ds ns=>eC (G8 ns) (cr ds.length kk (ME σ 0 fl fun os=>mM aw (ds++os.map fun o=>(.one,[o]))))
theorem af0 {σ:af} {ms:List bz} {fl:List (Mode×TD)} {kk:Nat} {aw:ak} {y:ba aw.aZ} (h:MN σ ms fl kk aw=some y):
  σ.er.Eb ms (fl.map fun p=>(p.1,p.2.1.er p.2.2))=some (w9 kk (dE aw y)):=by
 unfold MN at h;obtain⟨vs,h1,h2⟩:=Ew h;obtain⟨ds,ns,h3,h4⟩:=Vt h2;have h5:=(bX h4).1;replace h4:=(bX h4).2;have h6:=(aP h4).1;replace h4:=(aP h4).2;obtain⟨os,h7,h8⟩:=afJ h4;have x3:sA σ.kP.er.h (vs.map SV.er)=some (ds.map cd.er,ns):=h3;have hr:σ.er.kP.u9 ms=some (ds.map cd.er):=by
  rw[<-af.aqv];simp only[St.u9,h1,x3,if_pos (SK h5)]
 simp only[St.Eb,hr,h7,<-pP h8,Bo,<-h6];congr 2
 ·rw[List.take_left]
 ·rw[List.drop_left];congr 1;clear h7 h8;induction os with
  |nil=>rfl
  |cons o os ih=>rw[List.map_cons,List.flatMap_cons,<-ih];rfl
def wZ (N:Nat) (T:List au) (sc:bt) (ms:List bz) (args:ak) (mu:aM) (aw:ak) (x:ba args.aZ):Option (ba aw.aZ):=
 mb N T sc (Vb mu args x) (fun σ=>MN σ ms (Ej mu args x) (aw.length - mu.cA) aw) (fun _ _=>none) (fun σ=>MN σ ms (Ej mu args x) (aw.length - mu.cA) aw)
theorem asy {T:List au} {sc:bt} {ms:List bz} {args:ak} {mu:aM} {aw:ak} {x:ba args.aZ} {y:ba aw.aZ} (h:wZ aL T sc ms args mu aw x=some y):
  Mg (cI T) sc.er ms mu (dE args x)=some (w9 (aw.length - mu.cA) (dE aw y)):=by
 obtain⟨o,h1,h2⟩:=sC sc h;rw[as9] at h1;unfold Mg;rw[h1];cases o with
 |fD τ=>
  obtain⟨fm,rfl,h2⟩:=h2;simp only[<-U9];exact af0 h2
 |ret τ=>
  obtain⟨fm,rfl,h2⟩:=h2;simp only[<-U9];exact af0 h2
 |ext i τ=>
  obtain⟨fm,rfl,h2⟩:=h2;cases h2
def Hp (k:K) (ts:List Ty) (x:Ty.DL ts):SV:=
 match k with
 |.one=>match Ty.cells ts x with
  |[c]=>.one c
  |_=>.one .bm
 |.agg=>.agg (Ty.cells ts x)
 |.ptr=>.one (.ptr aW 0 0 0)
theorem adX (k:K) (ts:List Ty) (x:Ty.DL ts):(Hp k ts x).er=E9 (k,Ty.aE ts x):=by
 cases k with
 |one=>
  match ts,x with
  |[],x=>rfl
  |[t],x=>rfl
  |t::u::[],x=>rfl
  |t::u::v::ts,x=>rfl
 |agg=>simp only[Hp,SV.er,E9,Ty.kC]
 |ptr=>rfl
def HD:Nat->(as:ak)->ba as.aZ->(Nat->SV)
 |_,[],_=>fun _=>.one .bm
 |k,[a],x=>ax (fun _=>.one .bm) k (Hp a.1 a.2 x)
 |k,a::b::as,x=>ax (HD (k+1) (b::as) x.2) k (Hp a.1 a.2 x.1)
theorem afv:∀(k:Nat) (as:ak) (x:ba as.aZ),rI (HD k as x)=uO k (dE as x)
 |k,[],x=>rfl
 |k,[a],x=>by
  have e:(Hp a.1 a.2 x).er=E9 (a.1,Ty.aE a.2 x):=adX a.1 a.2 x;simp only[HD,dE,uO,vP];rw[e];rfl
 |k,a::b::as,x=>by
  have ih:=afv (k+1) (b::as) x.2;simp only[HD,dE,vP,adX,ih];rw[uO]
def sE:(as:ak)->ba as.aZ->Option (List TD)
 |[],_=>none
 |[a],x=>match a.1.uQ with
  |true=>some (Ty.gO a.2 x)
  |false=>none
 |a::b::as,x=>match a.1.uQ with
  |true=>some (Ty.gO a.2 x.1)
  |false=>sE (b::as) x.2
theorem adp (k:K) (xs:List C) (ds:List Dv):pW ((k,xs)::ds)=match k.uQ with|true=>some xs|false=>pW ds:=by cases k<;>rfl
theorem ZS (k:K) (ts:List Ty) (as:ak):C6 ((k,ts)::as)=match k.uQ with|true=>true|false=>C6 as:=by cases k<;>rfl
theorem Vl:∀(as:ak) (x:ba as.aZ),(sE as x).map dj=pW (dE as x)
 |[],_=>rfl
 |[(k,ts)],x=>by
  simp only[sE,dE,adp];cases k.uQ with
  |true=>exact congrArg some (Ty.pw ts x)
  |false=>rfl
 |(k,ts)::b::as,x=>by
  simp only[sE,dE,adp];cases k.uQ with
  |true=>simp only[Option.map_some];rw[Ty.pw]
  |false=>exact Vl (b::as) x.2
theorem afR:∀(as:ak) (x:ba as.aZ),(sE as x).isSome=C6 as
 |[],_=>rfl
 |[(k,ts)],x=>by
  simp only[sE,ZS];cases k.uQ<;>rfl
 |(k,ts)::b::as,x=>by
  simp only[sE];rw[ZS];cases k.uQ with
  |true=>rfl
  |false=>exact afR (b::as) x.2
def afx (as:ak) (x:ba as.aZ):Nat->Option SB:=fun n=>match Nat.beq n aW with
 |true=>match sE as x with
  |some l=>some (.box (l.map fun y=>.v y.1 y.2))
  |none=>none
 |false=>none
def Vc (as:ak) (x:ba as.aZ):af:={env:=HD 0 as x,h:=afx as x,used:=fun n=>Nat.ble aW n}
theorem ata (as:ak) (x:ba as.aZ):(Vc as x).er=Gy (dE as x):=by
 simp only[Vc,af.er,Gy,afv];congr 1;funext n;simp only[df,afx,pJ];cases Nat.beq n aW with
 |false=>rfl
 |true=>
  simp only
  rw[<-Vl];cases sE as x with
  |none=>rfl
  |some l=>simp only[Option.map_some,SB.er,Nh]
section
variable {ρ:Type}
def MJ (h:Nat->Option SB):List SV->(List cd->Option ρ)->Option ρ
 |[],k=>k []
 |v::vs,k=>match v.cells? with
  |some (ag,cs)=>Bw h cs fun l=>MJ h vs fun ds=>k ((DJ ag,l)::ds)
  |none=>none
theorem afX {h:Nat->Option SB}:∀{vs:List SV} {k:List cd->Option ρ} {r:ρ},MJ h vs k=some r->∃ds,sx (df h) (vs.map SV.er)=some (ds.map cd.er)/\k ds=some r
 |[],k,r,hx=>⟨[],rfl,hx⟩
 |v::vs,k,r,hx=>by
  simp only[MJ] at hx;split at hx
  ·rename_i ag cs hc;obtain⟨l,h1,h2⟩:=HP hx;obtain⟨ds,h3,h4⟩:=afX h2;refine⟨_,?_,h4⟩;simp only[List.map_cons,sx,SV.kC hc,h1,h3,cd.er];cases ag<;>rfl
  ·cases hx
def afQ:List SV->Option (Nat×Nat×Nat)
 |[v]=>v.qY
 |_=>none
def Vu (h:Nat->Option SB) (vs:List SV) (k:List cd->Option ρ):Option ρ:=
 match afQ vs with
 |some (n,kk,off)=>match Ml h n kk off with
  |some l=>match Nat.ble aW n with
   |true=>none
   |false=>k [(.ptr,l)]
  |none=>none
 |none=>MJ h vs k
theorem atr {h:Nat->Option SB} {vs:List SV} {k:List cd->Option ρ} {r:ρ} (hx:Vu h vs k=some r):∃ds,Ed (df h) (vs.map SV.er)=some (ds.map cd.er)/\k ds=some r:=by
 unfold Vu at hx;split at hx
 ·rename_i n kk off hp;have hv:∃sz,vs=[.one (.ptr n kk sz off)]:=by
   unfold afQ at hp;split at hp
   ·obtain⟨sz,rfl⟩:=ado hp;exact⟨sz,rfl⟩
   ·cases hp
  obtain⟨sz,rfl⟩:=hv;split at hx
  ·rename_i l hl;split at hx
   ·cases hx
   ·rename_i hb;refine⟨_,?_,hx⟩;have e:=ad0 (sz:=sz) hl;have hn:¬aW<=n:=fun gH=>by rw[Nat.ble_eq_true_of_le gH] at hb;cases hb
    simp only[List.map_cons,List.map_nil,Ed,e];rw[if_neg hn];rfl
  ·cases hx
 ·rename_i hp;obtain⟨ds,h1,h2⟩:=afX hx;refine⟨ds,?_,h2⟩;unfold Ed;split
  ·rename_i v0 he;have hv:∃v,vs=[v]/\v0=v.er:=by
    match vs,he with
    |[v],he=>simp at he;exact⟨v,rfl,he.symm⟩
   obtain⟨v,rfl,rfl⟩:=hv;have bC:v.qY=none:=hp;rw[adn bC];exact h1
  ·exact h1
def Vj (h:Nat->Option SB) (cur:Option (List TD)) (k:List cd->Option ρ):Option ρ:=
 match cur with
 |none=>k []
 |some xs=>match h aW with
  |some (.box cs)=>cr cs.length xs.length (match y8 cs with
   |some l=>k [(.ptr,l)]
   |none=>none)
  |_=>none
theorem atj {h:Nat->Option SB} {cur:Option (List TD)} {k:List cd->Option ρ} {r:ρ} (hx:Vj h cur k=some r):
  ∃os:List cd,DY (df h) (cur.map dj)=some (dj (os.flatMap (·.2)))/\os.length=(match cur.isSome with|true=>1|false=>0)/\k os=some r:=by
 unfold Vj at hx;split at hx
 ·exact⟨[],rfl,rfl,hx⟩
 ·rename_i xs;split at hx
  ·rename_i cs hn;have he:=(aP hx).1;replace hx:=(aP hx).2;split at hx
   ·rename_i l hl;refine⟨[(.ptr,l)],?_,rfl,hx⟩;simp only[Option.map_some,DY,df,hn,SB.er,List.length_map];rw[if_pos (by rw[he,dj,List.length_map]),Hz hl];simp
   ·cases hx
  ·cases hx
end
def MQ (σ:af) (ms:List bz) (cur:Option (List TD)) (aw:ak):Option (ba aw.aZ):=
 xa σ ms fun vs=>Vu σ.h vs fun ds=>Vj σ.h cur fun os=>mM aw (ds++os)
theorem af2 {σ:af} {ms:List bz} {args:ak} {x:ba args.aZ} {aw:ak} {y:ba aw.aZ} (h:MQ σ ms (sE args x) aw=some y):
  σ.er.Ec ms (dE args x)=some (w9 (aw.length - qW args) (dE aw y)):=by
 unfold MQ at h;obtain⟨vs,h1,h2⟩:=Ew h;obtain⟨ds,h3,h4⟩:=atr h2;obtain⟨os,h5,h6,h7⟩:=atj h4;have h8:=pP h7;have hlen:aw.length=ds.length+os.length:=by
  have:=congrArg List.length h8;rw[CP,List.length_map,List.length_append] at this;exact this.symm
 have th:qW args=os.length:=by
  rw[h6,afR];unfold qW;cases C6 args<;>rfl
 have hk:aw.length - qW args=ds.length:=by omega
 have x3:Ed σ.er.h (vs.map SV.er)=some (ds.map cd.er):=h3;have KE:DY σ.er.h (pW (dE args x))=some (dj (os.flatMap (·.2))):=by rw[<-Vl];exact h5
 simp only[St.Ec,h1,x3,KE,hk];rw[<-h8,Bo,List.take_left,List.drop_left]
def Mi (N:Nat) (T:List au) (sc:bt) (ms:List bz) (args aw:ak) (x:ba args.aZ):Option (ba aw.aZ):=
 mb N T sc (Vc args x) (fun σ=>MQ σ ms (sE args x) aw) (fun _ _=>none) (fun σ=>MQ σ ms (sE args x) aw)
theorem asB {T:List au} {sc:bt} {ms:List bz} {args aw:ak} {x:ba args.aZ} {y:ba aw.aZ} (h:Mi aL T sc ms args aw x=some y):
  Mh (cI T) sc.er ms (dE args x)=some (w9 (aw.length - qW args) (dE aw y)):=by
 obtain⟨o,h1,h2⟩:=sC sc h;rw[ata] at h1;unfold Mh;rw[h1];cases o with
 |fD τ=>
  obtain⟨fm,rfl,h2⟩:=h2;exact af2 h2
 |ret τ=>
  obtain⟨fm,rfl,h2⟩:=h2;exact af2 h2
 |ext i τ=>
  obtain⟨fm,rfl,h2⟩:=h2;cases h2
def MP (σ:af) (ms:List bz) (aw:ak):Option (ba aw.aZ):=
 xa σ ms fun vs=>match vs with
  |[.one (.sl n sz lo len)]=>match σ.h n with
   |some (.row true .live ts xs)=>cr ts.length sz (cr lo 0 ((dP xs len).ae fun ys=>mM aw [(.one,[⟨.list ts,ys⟩])]))
   |_=>none
  |_=>none
theorem af1 {σ:af} {ms:List bz} {aw:ak} {y:ba aw.aZ} (h:MP σ ms aw=some y):σ.er.Bb ms=some (dE aw y):=by
 unfold MP at h;obtain⟨vs,h1,h2⟩:=Ew h;split at h2
 ·rename_i n sz lo len;split at h2
  ·rename_i ts xs hn;have be:=(aP h2).1;replace h2:=(aP h2).2;subst be;have be:=(aP h2).1;replace h2:=(aP h2).2;subst be;rw[d7] at h2;obtain⟨ys,hw,h2⟩:=h2;obtain⟨w1,w2⟩:=VP hw;have bu:σ.er.h n=some (.row true .live ts.length (List.map (Ty.aE ts) xs)):=by simp[af.er,df,hn,SB.er]
   have hm:=pP h2;have iS:σ.er.q9 ms=some [.one (.sl n ts.length 0 len)]:=h1;have hr:jJ σ.er.h (.sl n ts.length 0 len)=some (.list ts.length (List.map (Ty.aE ts) ys),[n]):=by
    simp[jJ,bu,w1,w2]
   have oN:DV σ.er.h (.sl n ts.length 0 len)=true:=by simp only[DV,bu]
   simp only[St.Bb,iS,hr,oN,if_true];rw[<-hm];rfl
  ·cases h2
 ·cases h2
def UO (N:Nat) (T:List au) (sc:bt) (ms:List bz) (args aw:ak) (x:ba args.aZ):Option (ba aw.aZ):=
 mb N T sc (Mv args x) (fun σ=>MP σ ms aw) (fun _ _=>none) (fun σ=>MP σ ms aw)
theorem asz {T:List au} {sc:bt} {ms:List bz} {args aw:ak} {x:ba args.aZ} {y:ba aw.aZ} (h:UO aL T sc ms args aw x=some y):
  runN (cI T) sc.er ms (dE args x)=some (dE aw y):=by
 obtain⟨o,h1,h2⟩:=sC sc h;rw[afy] at h1;unfold runN;rw[h1];cases o with
 |fD τ=>
  obtain⟨fm,rfl,h2⟩:=h2;exact af1 h2
 |ret τ=>
  obtain⟨fm,rfl,h2⟩:=h2;exact af1 h2
 |ext i τ=>
  obtain⟨fm,rfl,h2⟩:=h2;cases h2
def Wn (P:Program) (fn:au):Prop:=(fn.mu.fo=0->dd P fn.id fn.M)/\(fn.mu.fo=1->rr P fn.id fn.mu fn.MM)/\(fn.mu.fo=2->zD P fn.id fn.MV)/\(fn.mu.fo=3->Wo P fn.id fn.mu.tl fn.MW)/\(fn.mu.fo=4->OP P fn.id fn.mu.oz fn.MX)/\(fn.mu.fo=5->xB P fn.id fn.M)/\bP P fn.id=true
def aD (P:Program) (T:List au):Prop:=∀fn∈T,Wn P fn
theorem aD.nil {P:Program}:aD P []:=fun _ h=>by cases h
theorem aD.Fq {P:Program} {fn:au} {T:List au} (h:Wn P fn) (hT:aD P T):aD P (fn::T):=by
 intro g hg;cases hg with
 |head=>exact h
 |tail _ hg=>exact hT g hg
theorem aD.cons {P:Program} {f:FuncId} {args aw:ak} {F:ba args.aZ->Option (ba aw.aZ)} {T:List au} (h:dd P f (au.M ⟨f,args,[],aw,F⟩)/\bP P f=true) (hT:aD P T):aD P (⟨f,args,[],aw,F⟩::T):=
 aD.Fq ⟨fun _=>h.1,fun hm=>(by cases hm),fun hm=>(by cases hm),fun hm=>(by cases hm),fun hm=>(by cases hm),fun hm=>(by cases hm),h.2⟩ hT
theorem aD.uo {P:Program} {f:FuncId} {args:ak} {s:List (Option Mode)} {mu:aM} {aw:ak} {F:ba args.aZ->Option (ba aw.aZ)} {T:List au} (h:rr P f (s::mu) (au.MM ⟨f,args,s::mu,aw,F⟩)/\bP P f=true) (hT:aD P T)
  (hk:aM.fo (s::mu)=1:=by rfl):aD P (⟨f,args,s::mu,aw,F⟩::T):=
 aD.Fq ⟨fun hm=>absurd (hk.symm.trans hm) (by decide),fun _=>h.1,fun hm=>absurd (hk.symm.trans hm) (by decide),fun hm=>absurd (hk.symm.trans hm) (by decide),fun hm=>absurd (hk.symm.trans hm) (by decide),fun hm=>absurd (hk.symm.trans hm) (by decide),h.2⟩ hT
theorem aD.PD {P:Program} {f:FuncId} {args:ak} {aw:ak} {F:ba args.aZ->Option (ba aw.aZ)} {T:List au} (h:zD P f (au.MV ⟨f,args,[[some .aI]],aw,F⟩)/\bP P f=true) (hT:aD P T):aD P (⟨f,args,[[some .aI]],aw,F⟩::T):=
 aD.Fq ⟨fun hm=>(by cases hm),fun hm=>(by cases hm),fun _=>h.1,fun hm=>(by cases hm),fun hm=>(by cases hm),fun hm=>(by cases hm),h.2⟩ hT
theorem aD.Ft {P:Program} {f:FuncId} {args:ak} {mu:aM} {aw:ak} {F:ba args.aZ->Option (ba aw.aZ)} {T:List au} (h:OP P f (aM.oz ([some .aI,some .aI,some .aI]::mu)) (au.MX ⟨f,args,[some .aI,some .aI,some .aI]::mu,aw,F⟩)/\bP P f=true) (hT:aD P T):aD P (⟨f,args,[some .aI,some .aI,some .aI]::mu,aw,F⟩::T):=
 aD.Fq ⟨fun hm=>(by cases hm),fun hm=>(by cases hm),fun hm=>(by cases hm),fun hm=>(by cases hm),fun _=>h.1,fun hm=>(by cases hm),h.2⟩ hT
theorem aD.jh {P:Program} {f:FuncId} {args:ak} {mu:aM} {aw:ak} {F:ba args.aZ->Option (ba aw.aZ)} {T:List au} (h:xB P f (au.M ⟨f,args,[some .aI,some .aI,some .aI,some .aI]::mu,aw,F⟩)/\bP P f=true) (hT:aD P T):aD P (⟨f,args,[some .aI,some .aI,some .aI,some .aI]::mu,aw,F⟩::T):=
 aD.Fq ⟨fun hm=>(by cases hm),fun hm=>(by cases hm),fun hm=>(by cases hm),fun hm=>(by cases hm),fun hm=>(by cases hm),fun _=>h.1,h.2⟩ hT
theorem VK:∀{T:List au} {f:FuncId} {M:List Dv->Option (List Dv)},aN.find (cI T).ns f=some M->∃fn∈T,fn.id=f/\M=fn.M/\fn.mu.fo=5
 |[],f,M,h=>by simp[cI,aN.find] at h
 |g::l,f,M,h=>by
  simp only[cI,List.filterMap_cons] at h;by_cases hg:g.mu.fo=5
  ·simp only[hg,aN.find] at h;split at h
   ·rename_i e;injection h with h;exact⟨g,by simp,e.symm,h.symm,hg⟩
   ·obtain⟨fn,h1,h2,h3⟩:=VK (T:=l) h;exact⟨fn,by simp[h1],h2,h3⟩
  ·split at h
   ·obtain⟨fn,h1,h2,h3⟩:=VK (T:=l) h;exact⟨fn,by simp[h1],h2,h3⟩
   ·rename_i z hz;split at hz
    ·rename_i h0;exact absurd h0 hg
    ·cases hz
theorem M4:∀{T:List au} {f:FuncId} {M:List Dv->Option (List Dv)},aN.find (cI T).pure f=some M->∃fn∈T,fn.id=f/\M=fn.M/\fn.mu.fo=0
 |[],f,M,h=>by simp[cI,aN.find] at h
 |g::l,f,M,h=>by
  simp only[cI,List.filterMap_cons] at h;by_cases hg:g.mu.fo=0
  ·simp only[hg,aN.find] at h;split at h
   ·rename_i e;injection h with h;exact⟨g,by simp,e.symm,h.symm,hg⟩
   ·obtain⟨fn,h1,h2,h3⟩:=M4 (T:=l) h;exact⟨fn,by simp[h1],h2,h3⟩
  ·split at h
   ·obtain⟨fn,h1,h2,h3⟩:=M4 (T:=l) h;exact⟨fn,by simp[h1],h2,h3⟩
   ·rename_i z hz;split at hz
    ·rename_i h0;exact absurd h0 hg
    ·cases hz
theorem VJ:∀{T:List au} {f:FuncId} {sig:aM} {M:List Dv->Option (List Dv×List C)},aN.nO (cI T).u4 f=some (sig,M)->∃fn∈T,fn.id=f/\sig=fn.mu/\M=fn.MM/\fn.mu.fo=1
 |[],f,sig,M,h=>by simp[cI,aN.nO] at h
 |g::l,f,sig,M,h=>by
  simp only[cI,List.filterMap_cons] at h;by_cases hg:g.mu.fo=1
  ·simp only[hg,aN.nO] at h;split at h
   ·rename_i e;injection h with h;injection h with ha hb;exact⟨g,by simp,e.symm,ha.symm,hb.symm,hg⟩
   ·obtain⟨fn,h1,h2,h3⟩:=VJ (T:=l) h;exact⟨fn,by simp[h1],h2,h3⟩
  ·split at h
   ·obtain⟨fn,h1,h2,h3⟩:=VJ (T:=l) h;exact⟨fn,by simp[h1],h2,h3⟩
   ·rename_i z hz;split at hz
    ·rename_i h0;exact absurd h0 hg
    ·cases hz
theorem VL:∀{T:List au} {f:FuncId} {M:List Dv->Option (List Dv×List C)},aN.lM (cI T).vs f=some M->∃fn∈T,fn.id=f/\M=fn.MV/\fn.mu.fo=2
 |[],f,M,h=>by simp[cI,aN.lM] at h
 |g::l,f,M,h=>by
  simp only[cI,List.filterMap_cons] at h;by_cases hg:g.mu.fo=2
  ·simp only[hg,aN.lM] at h;split at h
   ·rename_i e;injection h with h;exact⟨g,by simp,e.symm,h.symm,hg⟩
   ·obtain⟨fn,h1,h2,h3⟩:=VL (T:=l) h;exact⟨fn,by simp[h1],h2,h3⟩
  ·split at h
   ·obtain⟨fn,h1,h2,h3⟩:=VL (T:=l) h;exact⟨fn,by simp[h1],h2,h3⟩
   ·rename_i z hz;split at hz
    ·rename_i h0;exact absurd h0 hg
    ·cases hz
theorem VM:∀{T:List au} {f:FuncId} {sig:aM} {M:List Dv->Option (Nat×Nat)},aN.s8 (cI T).ws f=some (sig,M)->∃fn∈T,fn.id=f/\sig=fn.mu.tl/\M=fn.MW/\fn.mu.fo=3
 |[],f,sig,M,h=>by simp[cI,aN.s8] at h
 |g::l,f,sig,M,h=>by
  simp only[cI,List.filterMap_cons] at h;by_cases hg:g.mu.fo=3
  ·simp only[hg,aN.s8] at h;split at h
   ·rename_i e;injection h with h;injection h with ha hb;exact⟨g,by simp,e.symm,ha.symm,hb.symm,hg⟩
   ·obtain⟨fn,h1,h2,h3⟩:=VM (T:=l) h;exact⟨fn,by simp[h1],h2,h3⟩
  ·split at h
   ·obtain⟨fn,h1,h2,h3⟩:=VM (T:=l) h;exact⟨fn,by simp[h1],h2,h3⟩
   ·rename_i z hz;split at hz
    ·rename_i h0;exact absurd h0 hg
    ·cases hz
theorem VN:∀{T:List au} {f:FuncId} {sig:Nat} {M:List Dv->Option (List Dv×List C)},aN.s9 (cI T).xs f=some (sig,M)->∃fn∈T,fn.id=f/\sig=fn.mu.oz/\M=fn.MX/\fn.mu.fo=4
 |[],f,sig,M,h=>by simp[cI,aN.s9] at h
 |g::l,f,sig,M,h=>by
  simp only[cI,List.filterMap_cons] at h;by_cases hg:g.mu.fo=4
  ·simp only[hg,aN.s9] at h;split at h
   ·rename_i e;injection h with h;injection h with ha hb;exact⟨g,by simp,e.symm,ha.symm,hb.symm,hg⟩
   ·obtain⟨fn,h1,h2,h3⟩:=VN (T:=l) h;exact⟨fn,by simp[h1],h2,h3⟩
  ·split at h
   ·obtain⟨fn,h1,h2,h3⟩:=VN (T:=l) h;exact⟨fn,by simp[h1],h2,h3⟩
   ·rename_i z hz;split at hz
    ·rename_i h0;exact absurd h0 hg
    ·cases hz
theorem aD.tok {P:Program} {T:List au} (hT:aD P T):kg P (cI T):=by
 refine⟨fun g M hM=>?_,fun g sig M hM=>?_,fun g M hM=>?_,⟨fun g sig M hM=>?_,fun g sig M hM=>?_⟩,fun g M hM=>?_,fun g M hM=>?_⟩
 ·obtain⟨qn,h1,h2,h3,h4⟩:=M4 hM;subst h2 h3;exact(hT qn h1).1 h4
 ·obtain⟨qn,h1,h2,h3,h4,h5⟩:=VJ hM;subst h2 h3 h4;exact(hT qn h1).2.1 h5
 ·obtain⟨qn,h1,h2,h3,h4⟩:=VL hM;subst h2 h3;exact(hT qn h1).2.2.1 h4
 ·obtain⟨qn,h1,h2,h3,h4,h5⟩:=VM hM;subst h2 h3 h4;exact(hT qn h1).2.2.2.1 h5
 ·obtain⟨qn,h1,h2,h3,h4,h5⟩:=VN hM;subst h2 h3 h4;exact(hT qn h1).2.2.2.2.1 h5
 ·obtain⟨qn,h1,h2,h3,h4⟩:=VK hM;subst h2 h3;exact(hT qn h1).2.2.2.2.2.1 h4
 ·obtain⟨qn,h1,h2,h3,h4⟩:=M4 hM;subst h2;exact(hT qn h1).2.2.2.2.2.2
def cF (P:Program) (f:FuncId) (mc:lG) (ms:List bz) (n:Nat):Bool:=
 match P.funcs[f]? with
 |some fn=>match fn.body with
  |some c=>jg P fn.ntmps c mc&&m4 P fn.results.toList ms&&decide (n<=fn.ntmps)&&(fn.name != "runtime.NumGoroutine")
  |none=>false
 |none=>false
theorem JZ {P:Program} {f:FuncId} {mc:lG} {ms:List bz} {n:Nat} (h:cF P f mc ms n=true):bP P f=true:=by
 unfold cF at h;unfold bP;split at h
 ·rename_i fn hf;split at h
  ·rename_i c hb;simp only[Bool.and_eq_true] at h;simp[hf,hb,h.2]
  ·cases h
 ·cases h
theorem dw {P:Program} {T:List au} (hT:aD P T) (hm:P.follows .mixedOrders=true) {f:FuncId} {sc:bt} {ms:List bz} {args aw:ak} (hc:cF P f sc.er ms args.length=true)
  (F:ba args.aZ->Option (ba aw.aZ)) (hF:∀x y,F x=some y->dt aL T sc ms args aw x=some y):dd P f (au.M ⟨f,args,[],aw,F⟩)/\bP P f=true:=by
 refine⟨?_,JZ hc⟩;unfold cF at hc;split at hc
 ·rename_i fn hf;split at hc
  ·rename_i c hb;simp only[Bool.and_eq_true,decide_eq_true_eq] at hc;refine ar1 (T:=cI T) hT.tok hm hf hb hc.1.1.1 hc.1.1.2 fun ds rs hM=>?_;obtain⟨x,y,h1,h2,h3⟩:=au.Ie hM;subst h1 h3;exact⟨by rw[CP];exact hc.1.2,asA (hF x y h2)⟩
  ·cases hc
 ·cases hc
theorem A4 {P:Program} {T:List au} (hT:aD P T) (hm:P.follows .mixedOrders=true) {f:FuncId} {sc:bt} {ms:List bz} {args:ak} {mu:aM} {aw:ak} (hc:cF P f sc.er ms args.length=true)
  (F:ba args.aZ->Option (ba aw.aZ)) (hF:∀x y,F x=some y->wZ aL T sc ms args mu aw x=some y):rr P f mu (au.MM ⟨f,args,mu,aw,F⟩)/\bP P f=true:=by
 refine⟨?_,JZ hc⟩;unfold cF at hc;split at hc
 ·rename_i fn hf;split at hc
  ·rename_i c hb;simp only[Bool.and_eq_true,decide_eq_true_eq] at hc;refine ao5 (T:=cI T) hT.tok hm hf hb hc.1.1.1 hc.1.1.2 fun ds rs dW hM=>?_;unfold au.MM at hM;rw[Option.map_eq_some_iff] at hM;obtain⟨mP,h0,Qr⟩:=hM;obtain⟨x,y,h1,h2,h3⟩:=au.Ie h0;subst h1 h3;refine⟨by rw[CP];exact hc.1.2,?_⟩;rw[<-Qr];exact asy (hF x y h2)
  ·cases hc
 ·cases hc
theorem agI {P:Program} {T:List au} (hT:aD P T) (hm:P.follows .mixedOrders=true) {f:FuncId} {sc:bt} {ms:List bz} {args aw:ak} (hc:cF P f sc.er ms args.length=true)
  (F:ba args.aZ->Option (ba aw.aZ)) (hF:∀x y,F x=some y->Mi aL T sc ms args aw x=some y):zD P f (au.MV ⟨f,args,[[some .aI]],aw,F⟩)/\bP P f=true:=by
 refine⟨?_,JZ hc⟩;unfold cF at hc;split at hc
 ·rename_i fn hf;split at hc
  ·rename_i c hb;simp only[Bool.and_eq_true,decide_eq_true_eq] at hc;refine at3 (T:=cI T) hT.tok hm hf hb hc.1.1.1 hc.1.1.2 fun ds rs out hM=>?_;unfold au.MV at hM;rw[Option.map_eq_some_iff] at hM;obtain⟨mP,h0,Qr⟩:=hM;obtain⟨x,y,h1,h2,h3⟩:=au.Ie h0;subst h1 h3;refine⟨by rw[CP];exact hc.1.2,?_⟩;rw[<-Qr];exact asB (hF x y h2)
  ·cases hc
 ·cases hc
theorem apU {P:Program} {T:List au} (hT:aD P T) (hm:P.follows .mixedOrders=true) {f:FuncId} {sc:bt} {ms:List bz} {args:ak} {mu:aM} {aw:ak} (hc:cF P f sc.er ms args.length=true)
  (F:ba args.aZ->Option (ba aw.aZ)) (hF:∀x y,F x=some y->UO aL T sc ms args aw x=some y):xB P f (au.M ⟨f,args,mu,aw,F⟩)/\bP P f=true:=by
 refine⟨?_,JZ hc⟩;unfold cF at hc;split at hc
 ·rename_i fn hf;split at hc
  ·rename_i c hb;simp only[Bool.and_eq_true,decide_eq_true_eq] at hc;refine apT (T:=cI T) hT.tok hm hf hb hc.1.1.1 hc.1.1.2 fun ds rs hM=>?_;obtain⟨x,y,h1,h2,h3⟩:=au.Ie hM;subst h1 h3;exact⟨by rw[CP];exact hc.1.2,asz (hF x y h2)⟩
  ·cases hc
 ·cases hc
theorem dg {α:Type} (xs:List α) (i:Nat):cM xs (i:Int)=xs[i]? :=by simp[cM]
theorem Nr {n:Int} (h1: -9223372036854775808<=n) (h2:n<=9223372036854775807):IntKind.wrap .i64 n=n:=by rw[IntKind.wrap_i64];omega
theorem eK {a b:Int} (h1: -9223372036854775808<=a+b) (h2:a+b<=9223372036854775807):cC .i64 a b=a+b:=Nr h1 h2
theorem tI {a b:Int} (h1: -9223372036854775808<=a - b) (h2:a - b<=9223372036854775807):kx .i64 a b=a - b:=Nr h1 h2
theorem bj {α β:Type} (x:α) (f:α->Option β):(some x).ae f=f x:=rfl
theorem mK {X ρ:Type} (x:X) (k:X->Option ρ):bV (some (.inl x)) k=k x:=rfl
theorem GH {X ρ:Type} (x:ρ) (k:X->Option ρ):bV (some (.inr x):Option (X⊕ρ)) k=some x:=rfl
theorem aY {α:Type} {b:Bool} (h:b=true) (x y:α):av b x y=x:=by rw[h];rfl
theorem bc {α:Type} {b:Bool} (h:b=false) (x y:α):av b x y=y:=by rw[h];rfl
theorem nl {α:Type} (l:List α):aC (aa l)=(l.length:Int):=rfl
theorem dQ {a b:Int} (h:a<b):bG a b=true:=decide_eq_true h
theorem eJ {a b:Int} (h:b<=a):bG a b=false:=decide_eq_false (Int.not_lt.2 h)
theorem se {a b:Int} (h:a<=b):jb a b=true:=decide_eq_true h
theorem AW {a b:Int} (h:b<a):jb a b=false:=decide_eq_false (Int.not_le.2 h)
theorem rH {a b:Int} (h:a=b):dD a b=true:=by simp[dD,h]
theorem rG {a b:Int} (h:a≠b):dD a b=false:=by simp[dD,h]
theorem tz {a b:Int} (h:a≠b):fq a b=true:=by simp[fq,h]
theorem pS {a b:Int} (h:a=b):fq a b=false:=by simp[fq,h]
theorem G9 {p:Prop} [Decidable p] (h:¬p):dN (decide p)=true:=by simp[dN,h]
theorem A6 {p:Prop} [Decidable p] (h:p):dN (decide p)=false:=by simp[dN,h]
theorem bQ (n:Nat):bo 0 n n=some ():=by simp[bo]
theorem io {α:Type} (xs:List α):dP xs (aa xs)=some xs:=by simp[dP,aa]
theorem kY {α:Type} (xs:List α):cX xs 0 (aa xs)=some xs:=by simp[cX,aa]
theorem pQ {n by_:Nat} (h:n*by_<=dR):lV (aC n) (aC n) by_=some n:=by simp[lV,aC,h]
theorem mz {i n:Nat} (h:i<n):eX (i:Int) n=some i:=by simp[eX];omega
theorem dY {n:Nat} (h:n<18446744073709551616):n<aL:=h
theorem drop_cons {α:Type} {xs:List α} {i:Nat} {x:α} (h:xs[i]? =some x):xs.drop i=x::xs.drop (i+1):=by
 obtain⟨h1,h2⟩:=List.getElem?_eq_some_iff.1 h;rw[List.drop_eq_getElem_cons h1,h2]
theorem abi {X Y:Type} {f:X->Option (X⊕Y)} (st:Nat->X) {r:Y}:∀(n i:Nat),(∀j,i<=j->j<i+n->f (st j)=some (.inl (st (j+1))))->f (st (i+n))=some (.inr r)->∀N,n<N->ci N f (st i)=some r
 |0,i,_,h2,N+1,_=>by
  have h2:f (st i)=some (.inr r):=h2;simp only[ci,h2]
 |n+1,i,h1,h2,N+1,hN=>by
  simp only[ci,h1 i (Nat.le_refl i) (by omega)];exact abi st n (i+1) (fun j h3 h4=>h1 j (by omega) (by omega)) (by rw[show i+1+n=i+(n+1) by omega];exact h2) N (by omega)
 |_,_,_,_,0,h=>by omega
theorem fk {X Y:Type} {f:X->Option (X⊕Y)} (st:Nat->X) {r:Y} (n:Nat) (h1:∀j,j<n->f (st j)=some (.inl (st (j+1)))) (h2:f (st n)=some (.inr r)) {x0:X} (h0:x0=st 0) {N:Nat} (hN:n<N):ci N f x0=some r:=by
 subst h0;exact abi st n 0 (fun j _ h=>h1 j (by omega)) (by rw[Nat.zero_add];exact h2) N hN
theorem AZ {X Y α:Type} {f:X->Option (X⊕Y)} (es:List α) (mk:Nat->X) (p:α->Bool) (sS ez:Y)
  (h1:∀i a,es[i]? =some a->p a=true->f (mk i)=some (.inl (mk (i+1)))) (h2:∀i a,es[i]? =some a->p a=false->f (mk i)=some (.inr sS)) (h3:f (mk es.length)=some (.inr ez)) {x0:X} (h0:x0=mk 0) {N:Nat} (hN:es.length<N):
  ci N f x0=some (if es.all p=true then ez else sS):=by
 subst h0;have db:∀(k:Nat) (i:Nat),i+k=es.length->∀N,k<N->ci N f (mk i)=some (if(es.drop i).all p=true then ez else sS):=by
  intro k;induction k with
  |zero=>
   intro i hi N hN;obtain⟨N,rfl⟩:∃M,N=M+1:=⟨N - 1,by omega⟩;have:i=es.length:=by omega
   subst this;simp only[ci,h3,List.drop_length,List.all_nil,if_true]
  |succ k ih=>
   intro i hi N hN;obtain⟨N,rfl⟩:∃M,N=M+1:=⟨N - 1,by omega⟩;obtain⟨a,ha⟩:∃a,es[i]? =some a:=⟨_,List.getElem?_eq_getElem (by omega)⟩;rw[drop_cons ha];cases hp:p a with
   |true=>
    simp only[ci,h1 i a ha hp,List.all_cons,hp,Bool.true_and];exact ih (i+1) (by omega) N (by omega)
   |false=>simp only[ci,h2 i a ha hp,List.all_cons,hp,Bool.false_and,Bool.false_eq_true,if_false]
 exact db es.length 0 (by omega) N hN
def nb {S α:Type} (step:Nat->S->α->Option S):Nat->S->List α->Option S
 |_,s,[]=>some s
 |i,s,a::as=>match step i s a with
  |some s'=>nb step (i+1) s' as
  |none=>none
theorem Su {X Y α S:Type} {f:X->Option (X⊕Y)} (es:List α) (mk:S->Nat->X) (I:Nat->S->Prop) (step:Nat->S->α->Option S) (sS:Y) (ez:S->Y)
  (h1:∀i s a s',es[i]? =some a->I i s->step i s a=some s'->f (mk s i)=some (.inl (mk s' (i+1)))/\I (i+1) s')
  (h2:∀i s a,es[i]? =some a->I i s->step i s a=none->f (mk s i)=some (.inr sS))
  (h3:∀s,I es.length s->f (mk s es.length)=some (.inr (ez s))) {s:S} (h0:I 0 s) {x0:X} (hx:x0=mk s 0) {N:Nat} (hN:es.length<N):
  ci N f x0=some (match nb step 0 s es with|some s'=>ez s'|none=>sS):=by
 subst hx;have db:∀(k:Nat) (i:Nat) (s:S),I i s->i+k=es.length->∀N,k<N->ci N f (mk s i)=some (match nb step i s (es.drop i) with|some s'=>ez s'|none=>sS):=by
  intro k;induction k with
  |zero=>
   intro i s hs hi N hN;obtain⟨N,rfl⟩:∃M,N=M+1:=⟨N - 1,by omega⟩;have:i=es.length:=by omega
   subst this;simp only[ci,h3 s hs,List.drop_length,nb]
  |succ k ih=>
   intro i s hs hi N hN;obtain⟨N,rfl⟩:∃M,N=M+1:=⟨N - 1,by omega⟩;obtain⟨a,ha⟩:∃a,es[i]? =some a:=⟨_,List.getElem?_eq_getElem (by omega)⟩;rw[drop_cons ha];cases hp:step i s a with
   |some s'=>
    obtain⟨h4,h5⟩:=h1 i s a s' ha hs hp;simp only[ci,h4,nb,hp];exact ih (i+1) s' h5 (by omega) N (by omega)
   |none=>simp only[ci,h2 i s a ha hs hp,nb,hp]
 exact db es.length 0 s h0 (by omega) N hN
def uv {S α:Type} (step:Nat->S->α->S):Nat->S->List α->S
 |_,s,[]=>s
 |i,s,a::as=>uv step (i+1) (step i s a) as
theorem anJ {X Y α S:Type} {f:X->Option (X⊕Y)} (es:List α) (mk:S->Nat->X) (I:Nat->S->Prop) (step:Nat->S->α->S) (ez:S->Y)
  (h1:∀i s a,es[i]? =some a->I i s->f (mk s i)=some (.inl (mk (step i s a) (i+1)))/\I (i+1) (step i s a))
  (h3:∀s,I es.length s->f (mk s es.length)=some (.inr (ez s))) {s:S} (h0:I 0 s) {x0:X} (hx:x0=mk s 0) {N:Nat} (hN:es.length<N):
  ci N f x0=some (ez (uv step 0 s es)):=by
 subst hx;have db:∀(k:Nat) (i:Nat) (s:S),I i s->i+k=es.length->∀N,k<N->ci N f (mk s i)=some (ez (uv step i s (es.drop i))):=by
  intro k;induction k with
  |zero=>
   intro i s hs hi N hN;obtain⟨N,rfl⟩:∃M,N=M+1:=⟨N - 1,by omega⟩;have:i=es.length:=by omega
   subst this;simp only[ci,h3 s hs,List.drop_length,uv]
  |succ k ih=>
   intro i s hs hi N hN;obtain⟨N,rfl⟩:∃M,N=M+1:=⟨N - 1,by omega⟩;obtain⟨a,ha⟩:∃a,es[i]? =some a:=⟨_,List.getElem?_eq_getElem (by omega)⟩;rw[drop_cons ha];obtain⟨h4,h5⟩:=h1 i s a ha hs;simp only[ci,h4,uv];exact ih (i+1) _ h5 (by omega) N (by omega)
 exact db es.length 0 s h0 (by omega) N hN
theorem kv {α:Type} {es:List α} {i:Nat} {a:α} (h:es[i]? =some a):bG (i:Int) (aC (aa es))=true:=by
 have:=(List.getElem?_eq_some_iff.1 h).1;exact dQ (by have:=nl es;omega)
theorem gD {α:Type} (es:List α):bG ((es.length:Nat):Int) (aC (aa es))=false:=eJ (by have:=nl es;omega)
theorem nA {α:Type} {es:List α} {i:Nat} {a:α} (h:es[i]? =some a) (hl:es.length<=9223372036854775807):cC .i64 (i:Int) 1=((i+1:Nat):Int):=by
 have:=(List.getElem?_eq_some_iff.1 h).1;rw[eK (by omega) (by omega)];omega
theorem yI {α:Type} {es:List α} {i:Nat} {a:α} (h:es[i]? =some a):i<es.length:=(List.getElem?_eq_some_iff.1 h).1
theorem auk (n:Int) (auz:0<=n) (auA:n<2^63):IntKind.i64.wrap n=n:=by rw[IntKind.wrap_i64];omega
theorem as8 {k:Nat} (hk:k<63):y7 .i64 1 (k:Int)=some ((2^k:Nat):Int):=by
 unfold y7;rw[if_neg (by omega)];congr 1;rw[Int.toNat_natCast,show min k (IntKind.bits .i64)=k from Nat.min_eq_left (by simp[IntKind.bits];omega),Int.one_mul]
 have:(2:Int)^k=((2^k:Nat):Int):=by norm_cast
 rw[this];refine auk _ (Int.natCast_nonneg _) ?_;have:=Nat.pow_lt_pow_right (a:=2) (by decide) hk
 exact_mod_cast this
theorem pR {z:Int} (h:0<=z):∃n:Nat,z=(n:Int):=⟨z.toNat,by omega⟩
theorem AY {α:Type} (l:List α) (k:Nat) (x:α):aa (bS l k x)=aa l:=by simp[aa,bS]
theorem pO {α:Type} (n:Nat) (x:α):aa (dC n x)=n:=by simp[aa,dC]
theorem kD {n k:Nat} (h:n*k<=dR):jR n k=some ():=if_pos h
theorem fU (k:Nat):aG 0 k=k:=by simp[aG]
theorem Fk {α:Type} {l:List α} {i:Nat} {a:α} (h:l[i]? =some a):eX (i:Int) (aa l)=some i:=mz (yI h)
theorem anP (a b:Int):DO a b=min a b:=by unfold DO;split<;>omega
theorem LU (a b:Int):fq a b= !decide (a=b):=by by_cases h:a=b<;>simp[fq,h]
theorem Sj {n:Nat}:∀{l:List Nat},n∈l->n<=l.sum
 |[],h=>by cases h
 |a::l,h=>by
  rw[List.sum_cons];rcases List.mem_cons.1 h with rfl|h
  ·omega
  ·have:=Sj h;omega
def il (s:Nat) (k:Int):Int:=if(s:Int)<=k then k - s else -1
theorem VH {s:Nat} {k:Int} (h:(s:Int)<=k):il s k=k - s:=if_pos h
theorem HQ {s:Nat} {k:Int} (h:¬(s:Int)<=k):il s k= -1:=if_neg h
def yA (k:Int):Prop:=0<=k/\k<=1048576
instance (k:Int):Decidable (yA k):=inferInstanceAs (Decidable (0<=k/\k<=1048576))
theorem M3 {o:Option Int} {s:Nat} {k:Int} {f:Int->Option Int} (ho:o=some (il s k)):o.ae (fun i=>av (bG i 0) (some (-1)) (f i))=if(s:Int)<=k then f (k - s) else some (-1):=by
 rw[ho,bj];unfold il;by_cases h:(s:Int)<=k
 ·rw[if_pos h,if_pos h,bc (eJ (by omega))]
 ·rw[if_neg h,if_neg h,aY (dQ (by omega))]
theorem agm {α:Type} (sz:α->Nat):∀(l:List α) (i:Nat) (k:Int),0<=k->(match nb (fun _ (k:Int) e=>if(sz e:Int)<=k then some (k - sz e) else none) i k l with|some k'=>k'|none=> -1)=il (l.map sz).sum k
 |[],i,k,hk=>by simp[nb,il,hk]
 |e::l,i,k,hk=>by
  rw[nb];by_cases h:(sz e:Int)<=k
  ·rw[if_pos h];simp only
   rw[agm sz l (i+1) (k - sz e) (by omega)];simp only[il,List.map_cons,List.sum_cons];by_cases h2:((l.map sz).sum:Int)<=k - sz e
   ·rw[if_pos h2,if_pos (by omega)];omega
   ·rw[if_neg h2,if_neg (by omega)]
  ·rw[if_neg h];simp only[il,List.map_cons,List.sum_cons];rw[if_neg (by omega)]
theorem atH {α:Type} (F:α×Int->Option Int) (sz:α->Nat) (l:List α) (hl:l.length<=9223372036854775807) (hF:∀e∈l,∀k,yA k->F (e,k)=some (il (sz e) k)) (k:Int) (hk:yA k):
  av (bG (kx .i64 k (aC (aa l))) 0) (some (-1)) (bV (ci aL (fun(s:List α×Int×Int)=>av (bG s.2.2 (aC (aa s.1))) ((cM s.1 s.2.2).ae fun e=>(F (e,s.2.1)).ae fun i=>av (bG i 0) (some (.inr (.inr (-1)))) (some (.inl (s.1,i,cC .i64 s.2.2 1)))) (some (.inr (.inl s.2.1)))) (l,kx .i64 k (aC (aa l)),0)) (fun i=>some i))=some (il (l.length+(l.map sz).sum) k):=by
 obtain⟨k0,k1⟩:=hk;have hn:=nl l;rw[tI (by omega) (by omega)];by_cases h:k<l.length
 ·rw[aY (dQ (by omega)),il,if_neg (by omega)]
 rw[bc (eJ (by omega))];rw[Su l (fun(r:Int) i=>(l,r,(i:Int))) (fun _ r=>yA r) (fun _ (k:Int) e=>if(sz e:Int)<=k then some (k - sz e) else none) (Sum.inr (-1)) (fun r=>Sum.inl r) ?_ ?_ ?_ (s:=k - aC (aa l)) ⟨by omega,by omega⟩ ?_ (dY (by omega))]
 ·have:=agm sz l 0 (k - aC (aa l)) (by omega);have e:il (l.length+(l.map sz).sum) k=il (l.map sz).sum (k - aC (aa l)):=by
   simp only[il];by_cases h2:((l.map sz).sum:Int)<=k - aC (aa l)
   ·rw[if_pos h2,if_pos (by omega)];omega
   ·rw[if_neg h2,if_neg (by omega)]
  rw[e,<-this];cases nb (fun _ (k:Int) e=>if(sz e:Int)<=k then some (k - sz e) else none) 0 (k - aC (aa l)) l<;>rfl
 ·intro i r e r' ha hr hs;split at hs
  ·rename_i gH;injection hs with hs;subst hs;simp only
   rw[aY (kv ha),dg,ha,bj,hF e (List.mem_of_getElem? ha) r hr,bj,il,if_pos gH,bc (eJ (by omega)),nA ha (by omega)];exact⟨rfl,by have:=hr.1;have:=hr.2;constructor<;>omega⟩
  ·cases hs
 ·intro i r e ha hr hs;split at hs
  ·cases hs
  ·rename_i gH;simp only
   rw[aY (kv ha),dg,ha,bj,hF e (List.mem_of_getElem? ha) r hr,bj,il,if_neg gH,aY (dQ (by omega))]
 ·intro r _;simp only
  rw[bc (gD l)]
 ·rfl
def vQ {α:Type} (z:α) (l:List α) (i:Nat):List α:=l.take i++List.replicate (l.length - i) z
theorem Yf {α Y:Type} {f:(List α×Int)×List α->Option (((List α×Int)×List α)⊕Y)} (l:List α) (z:α) {r:Y}
  (h1:∀(i:Nat) e ys,l[i]? =some e->ys.length=l.length->ys[i]? =some z->f ((l,(i:Int)),ys)=some (.inl ((l,((i+1:Nat):Int)),ys.set i e)))
  (h2:f ((l,(l.length:Int)),l)=some (.inr r)) (hl:l.length<18446744073709551616):ci aL f ((l,0),dC (aa l) z)=some r:=by
 refine fk (fun i=>((l,(i:Int)),vQ z l i)) l.length ?_ ?_ ?_ (dY hl)
 ·intro j hj;obtain⟨e,he⟩:∃e,l[j]? =some e:=⟨_,List.getElem?_eq_getElem hj⟩;rw[h1 j e _ he (by simp[vQ];omega)]
  ·have:(vQ z l j).set j e=vQ z l (j+1):=by
    unfold vQ;rw[List.set_append_right _ _ (by simp;omega),List.take_add_one,he,show l.length - j=(l.length - (j+1))+1 by omega,List.replicate_succ];simp only[List.length_take,show j - min j l.length=0 by omega,List.set_cons_zero,Option.toList_some,List.append_assoc,List.cons_append,List.nil_append]
   rw[this]
  ·unfold vQ;rw[List.getElem?_append_right (by simp;omega)];simp only[List.length_take,show j - min j l.length=0 by omega];rw[List.getElem?_replicate,if_pos (by omega)]
 ·have:vQ z l l.length=l:=by simp[vQ]
  rw[this];exact h2
 ·simp[vQ,dC,aa]
theorem PP {α:Type} [DecidableEq α] (E:α×α->Option Bool) (l r:List α) (hE:∀a∈l,∀b,E (a,b)=some (decide (a=b))) (hl:l.length<=4611686018427387904):
  av (fq (aC (aa l)) (aC (aa r))) (some false) (bV (ci aL (fun s:List α×List α×Int=>av (bG s.2.2 (aC (aa s.1))) ((cM s.1 s.2.2).ae fun a=>(cM s.2.1 s.2.2).ae fun b=>(E (a,b)).ae fun c=>av (dN c) (some (.inr (.inr false))) (some (.inl (s.1,s.2.1,cC .i64 s.2.2 1)))) (some (.inr (.inl ())))) (l,r,0)) fun _=>some true)=some (decide (l=r)):=by
 by_cases KT:l.length=r.length
 ·rw[bc (pS (by have:=nl l;have:=nl r;omega))];have hz:(l.zip r).length=l.length:=by simp;omega
  rw[AZ (l.zip r) (fun i=>(l,r,(i:Int))) (fun p=>decide (p.1=p.2)) (Sum.inr false) (Sum.inl ()) ?_ ?_ ?_ ?_ (dY (by omega))]
  ·have:((l.zip r).all fun p=>decide (p.1=p.2))=decide (l=r):=by
    clear hE hl hz;induction l generalizing r with
    |nil=>cases r with
     |nil=>rfl
     |cons b r=>cases KT
    |cons a l ih=>cases r with
     |nil=>cases KT
     |cons b r=>
      simp only[List.zip_cons_cons,List.all_cons];rw[ih r (by simpa using KT)];simp only[List.cons.injEq,Bool.decide_and]
   rw[this];by_cases h:l=r<;>simp[h,bV]
  ·rintro i ⟨a,b⟩ ha hp;obtain⟨h1,h2⟩:=List.getElem?_zip_eq_some.1 ha;simp only at h1 h2 hp⊢;rw[aY (kv h1),dg,h1,bj,dg,h2,bj,hE a (List.mem_of_getElem? h1),bj,bc (by rw[hp];rfl),nA h1 (by omega)]
  ·rintro i ⟨a,b⟩ ha hp;obtain⟨h1,h2⟩:=List.getElem?_zip_eq_some.1 ha;simp only at h1 h2 hp⊢;rw[aY (kv h1),dg,h1,bj,dg,h2,bj,hE a (List.mem_of_getElem? h1),bj,aY (by rw[hp];rfl)]
  ·simp only
   rw[hz,bc (gD l)]
  ·rfl
 ·rw[aY (tz (by have:=nl l;have:=nl r;omega)),decide_eq_false (fun h=>KT (by rw[h]))]
theorem air (l r:J) (hl:l.length<=4611686018427387904):
  av (fq (aC (aa l)) (aC (aa r))) (some false) (bV (ci aL (fun s:J×J×Int=>av (bG s.2.2 (aC (aa s.1))) ((cM s.1 s.2.2).ae fun a=>(cM s.2.1 s.2.2).ae fun b=>av (fq a b) (some (.inr (.inr false))) (some (.inl (s.1,s.2.1,cC .i64 s.2.2 1)))) (some (.inr (.inl ())))) (l,r,0)) fun _=>some true)=some (decide (l=r)):=by
 have:=PP (fun p:Int×Int=>some (decide (p.1=p.2))) l r (fun _ _ _=>rfl) hl;refine Eq.trans ?_ this;congr 3
def gS {α:Type} (cA:α->Nat) (mk:α->Int->α):List α->Int->List α
 |[],_=>[]
 |e::l,k=>mk e k::gS cA mk l (k+cA e)
def iQ {α:Type} (cA:α->Nat) (l:List α):Nat:=(l.map cA).sum
theorem ahU {α:Type} (cA:α->Nat):iQ cA []=0:=rfl
theorem J4 {α:Type} (cA:α->Nat) (e:α) (l:List α):iQ cA (e::l)=cA e+iQ cA l:=by simp[iQ]
theorem ahT {α:Type} (cA:α->Nat) (l r:List α):iQ cA (l++r)=iQ cA l+iQ cA r:=by simp[iQ]
theorem A3 {α:Type} (cA:α->Nat) (mk:α->Int->α):∀(l:List α) (k:Int),(gS cA mk l k).length=l.length
 |[],_=>rfl
 |e::l,k=>by simp[gS,A3 cA mk l]
theorem abr {α:Type} (cA:α->Nat) (mk:α->Int->α):∀(l r:List α) (k:Int),gS cA mk (l++r) k=gS cA mk l k++gS cA mk r (k+iQ cA l)
 |[],r,k=>by simp[gS,iQ]
 |e::l,r,k=>by
  simp only[List.cons_append,gS,abr cA mk l r,J4];rw[show k+(cA e:Int)+(iQ cA l:Nat)=k+((cA e+iQ cA l:Nat):Int) by omega]
theorem HO {α:Type} (cA:α->Nat) (mk:α->Int->α) (f:α->Nat) (hf:∀e k,f (mk e k)=f e):∀(l:List α) (k:Int),((gS cA mk l k).map f).sum=(l.map f).sum
 |[],_=>rfl
 |e::l,k=>by simp[gS,hf,HO cA mk f hf l]
theorem SF {α:Type} (cA:α->Nat) (mk:α->Int->α) (hc:∀e k,cA (mk e k)=cA e) (hm:∀e k,mk (mk e k) k=mk e k):∀(l:List α) (k:Int),gS cA mk (gS cA mk l k) k=gS cA mk l k
 |[],_=>rfl
 |e::l,k=>by simp only[gS,hm,hc,SF cA mk hc hm l]
theorem Fo {α:Type} (cA sz:α->Nat) (hc:∀e,cA e<=4*(1+sz e)):∀l:List α,iQ cA l<=4*(l.length+(l.map sz).sum)
 |[]=>by simp[iQ]
 |e::l=>by
  have:=Fo cA sz hc l;have:=hc e;simp only[J4,List.length_cons,List.map_cons,List.sum_cons];omega
theorem SA {α Y:Type} {f:(Int×Int)×List α->Option (((Int×Int)×List α)⊕Y)} (l:List α) (cA sz:α->Nat) (mk:α->Int->α) (k:Int) {r:Y} (hc:∀e,cA e<=4*(1+sz e))
  (hk:0<=k) (hb:k+4*(l.length+(l.map sz).sum:Nat)<=1099511627776)
  (h1:∀(i:Nat) e ys (k':Int),l[i]? =some e->ys.length=l.length->ys[i]? =some e->0<=k'->k'+4*(1+sz e:Nat)<=1099511627776->f ((k',(i:Int)),ys)=some (.inl ((k'+cA e,((i+1:Nat):Int)),ys.set i (mk e k'))))
  (h2:f ((k+iQ cA l,(l.length:Int)),gS cA mk l k)=some (.inr r)):ci aL f ((k,0),l)=some r:=by
 refine fk (fun i=>((k+(iQ cA (l.take i):Nat),(i:Int)),gS cA mk (l.take i) k++l.drop i)) l.length ?_ ?_ ?_ (dY (by omega))
 ·intro j hj;obtain⟨e,he⟩:∃e,l[j]? =some e:=⟨_,List.getElem?_eq_getElem hj⟩;have hlen:(gS cA mk (l.take j) k).length=j:=by rw[A3,List.length_take];omega
  have Rj:(l.map sz).sum=((l.take j).map sz).sum+(sz e+((l.drop (j+1)).map sz).sum):=by
   conv=>lhs;rw[<-List.take_append_drop j l,drop_cons he]
   rw[List.map_append,List.sum_append,List.map_cons,List.sum_cons]
  have hct:=Fo cA sz hc (l.take j);rw[List.length_take] at hct;rw[h1 j e _ _ he (by rw[List.length_append,hlen,List.length_drop];omega) (by rw[List.getElem?_append_right (by omega),hlen,Nat.sub_self,List.getElem?_drop];simpa using he) (by omega) (by omega)];have e1:l.take (j+1)=l.take j++[e]:=by rw[List.take_add_one,he];rfl
  have e2:(gS cA mk (l.take j) k++l.drop j).set j (mk e (k+(iQ cA (l.take j):Nat)))=gS cA mk (l.take (j+1)) k++l.drop (j+1):=by
   rw[e1,abr,drop_cons he,List.set_append_right _ _ (by omega),hlen,Nat.sub_self,List.set_cons_zero,List.append_assoc];rfl
  rw[e2,e1,ahT,J4,ahU,show k+(iQ cA (l.take j):Nat)+(cA e:Nat)=k+((iQ cA (l.take j)+(cA e+0):Nat):Int) by omega]
 ·simp only[List.take_length,List.drop_length,List.append_nil];exact h2
 ·simp[iQ,gS]
theorem Z3 {α:Type} [DecidableEq α] (cA:α->Nat) (mk:α->Int->α):∀(l:List α) (i:Nat) (k:Int),
  nb (fun _ (k:Int) e=>if e=mk e k then some (k+(cA e:Int)) else none) i k l=if l=gS cA mk l k then some (k+(iQ cA l:Int)) else none
 |[],i,k=>by simp[nb,gS,iQ]
 |e::l,i,k=>by
  simp only[nb,gS,J4];by_cases h:e=mk e k
  ·rw[if_pos h];simp only
   rw[Z3 cA mk l];by_cases h2:l=gS cA mk l (k+cA e)
   ·rw[if_pos h2,if_pos (by rw[<-h,<-h2])];congr 1;omega
   ·rw[if_neg h2,if_neg (fun h3=>h2 (List.cons.inj h3).2)]
  ·rw[if_neg h,if_neg (fun h3=>h (List.cons.inj h3).1)]
theorem Z4 {α:Type} [DecidableEq α] {f:List α×Int×Int->Option ((List α×Int×Int)⊕(Int⊕Int))} (l:List α) (cA sz:α->Nat) (mk:α->Int->α) (k:Int) (hc:∀e,cA e<=4*(1+sz e))
  (hk:0<=k) (hb:k+4*(l.length+(l.map sz).sum:Nat)<=1099511627776)
  (h1:∀(i:Nat) e (k':Int),l[i]? =some e->0<=k'->k'+4*(1+sz e:Nat)<=1099511627776->f (l,k',(i:Int))=if e=mk e k' then some (.inl (l,k'+(cA e:Int),((i+1:Nat):Int))) else some (.inr (.inr (-1))))
  (h2:∀k',f (l,k',(l.length:Int))=some (.inr (.inl k'))):ci aL f (l,k,0)=some (if l=gS cA mk l k then .inl (k+(iQ cA l:Int)) else .inr (-1)):=by
 rw[Su l (fun(k:Int) i=>(l,k,(i:Int))) (fun i k'=>0<=k'/\k'+4*((l.drop i).length+((l.drop i).map sz).sum:Nat)<=1099511627776) (fun _ (k:Int) e=>if e=mk e k then some (k+(cA e:Int)) else none) (Sum.inr (-1)) (fun k=>Sum.inl k) ?_ ?_ ?_ (s:=k) ⟨hk,by simpa using hb⟩ ?_ (dY (by omega))]
 ·rw[Z3];by_cases h:l=gS cA mk l k
  ·rw[if_pos h,if_pos h]
  ·rw[if_neg h,if_neg h]
 ·intro i k' e s' he hI hs;rw[drop_cons he] at hI;simp only[List.length_cons,List.map_cons,List.sum_cons] at hI;split at hs
  ·rename_i hm;injection hs with hs;subst hs;have hce:=hc e;exact⟨by rw[h1 i e k' he hI.1 (by omega),if_pos hm],by omega,by omega⟩
  ·cases hs
 ·intro i k' e he hI hs;rw[drop_cons he] at hI;simp only[List.length_cons,List.map_cons,List.sum_cons] at hI;split at hs
  ·cases hs
  ·rename_i hm;rw[h1 i e k' he hI.1 (by omega),if_neg hm]
 ·intro k' _;exact h2 k'
 ·rfl
theorem KI {o:Option Int} {p:Prop} [Decidable p] {k:Int} {Y:Type} {f:Int->Option Y} {y:Option Y} (hk:0<=k) (ho:o=some (if p then k else -1)):
  o.ae (fun i=>av (bG i 0) y (f i))=if p then f k else y:=by
 rw[ho,bj];by_cases h:p
 ·rw[if_pos h,if_pos h,bc (eJ hk)]
 ·rw[if_neg h,if_neg h,aY (dQ (by omega))]
theorem agb {α:Type}:∀l:List α,(l.map fun _=>0).sum=0
 |[]=>rfl
 |_::l=>by simp[agb l]
theorem agk {o:Option Int} {s:Nat} {k:Int} {f:Int->Option Bool} (ho:o=some (il s k)):o.ae (fun i=>av (bG i 0) (some true) (f i))=if(s:Int)<=k then f (k - s) else some true:=by
 rw[ho,bj];unfold il;by_cases h:(s:Int)<=k
 ·rw[if_pos h,if_pos h,bc (eJ (by omega))]
 ·rw[if_neg h,if_neg h,aY (dQ (by omega))]
theorem aqo (b:Bool):GZ b b=false:=by cases b<;>rfl
theorem aqp (a:Int):fq a a=false:=pS rfl
theorem SL:dN true=false:=rfl
theorem aue {α:Type} {xs:List α} {n:Nat} (h:xs.length=n):cX xs 0 n=some xs:=by subst h;exact kY xs
theorem w4 {a b:Nat} (h:a=b):j6 a b=some ():=if_pos h
theorem xX {n m:Nat} (h:n=m):bo 0 n m=some ():=by subst h;exact bQ n
theorem akz {α:Type} {l:List α} {i:Nat} {a b:α} (h:l[i]? =some a):(l.set i b)[i]? =some b:=List.getElem?_set_self (yI h)
theorem KC {α:Type} {l:List α} {i:Nat} {a b:α} (h:l[i]? =some a):cu (bS l i b) i=some b:=akz h
theorem U8 {α:Type} (l:List α) (i:Nat) (a b:α):bS (bS l i a) i b=bS l i b:=by simp[bS,List.set_set]
def dS (l:J):Nat:=l.length
def xi (l:J):Bool:=decide (l.length<=9223372036854775807)
def rp:J×Int->Option Int:=fun((x,k):J×Int)=>if yA k/\xi x=true then some (il (dS x) k) else none
def tT:J->Option J:=fun(x:J)=>if dS x<=1048576 then some x else none
def rm:J×J->Option Bool:=fun((x,y):J×J)=>if dS x<=1048576 then some (decide (x=y)) else none
def o9 (l:List J):Nat:=l.length+(l.map dS).sum
def EM (l:List J):Bool:=decide (l.length<=9223372036854775807)&&l.all xi
def BW:(List J)×Int->Option Int:=fun((x,k):(List J)×Int)=>if yA k/\EM x=true then some (il (o9 x) k) else none
def BZ:(List J)->Option (List J):=fun(x:List J)=>if o9 x<=1048576 then some x else none
def BQ:(List J)×(List J)->Option Bool:=fun((x,y):(List J)×(List J))=>if o9 x<=1048576 then some (decide (x=y)) else none
def kS (x:J×J×J):Nat:=match x with|(a0,a1,a2)=>dS a0+dS a1+dS a2
def H9 (x:J×J×J):Bool:=match x with|(a0,a1,a2)=>xi a0&&xi a1&&xi a2
def BX:(J×J×J)×Int->Option Int:=fun((x,k):(J×J×J)×Int)=>if yA k/\H9 x=true then some (il (kS x) k) else none
def tU:(J×J×J)->Option (J×J×J):=fun(x:J×J×J)=>if kS x<=1048576 then some x else none
def tR:(J×J×J)×(J×J×J)->Option Bool:=fun((x,y):(J×J×J)×(J×J×J))=>if kS x<=1048576 then some (decide (x=y)) else none
def mR (x:Int×(List J)):Nat:=match x with|(a0,a1)=>o9 a1
def H8 (x:Int×(List J)):Bool:=match x with|(a0,a1)=>EM a1
def BV:(Int×(List J))×Int->Option Int:=fun((x,k):(Int×(List J))×Int)=>if yA k/\H8 x=true then some (il (mR x) k) else none
def tS:(Int×(List J))->Option (Int×(List J)):=fun(x:Int×(List J))=>if mR x<=1048576 then some x else none
def xo:(Int×(List J))×(Int×(List J))->Option Bool:=fun((x,y):(Int×(List J))×(Int×(List J)))=>if mR x<=1048576 then some (decide (x=y)) else none
def bi (l:J):Nat:=iQ (fun _=>1) l
def dM (l:J) (k:Int):J:=gS (fun _=>1) (fun _ k=>k) l k
def lc:J×Int->Option (Int×J):=fun((x,k):J×Int)=>if 0<=k/\k+4*(dS x:Nat)<=1099511627776 then some (k+(bi x:Nat),dM x k) else none
def rn:J×Int->Option Int:=fun((x,k):J×Int)=>if 0<=k/\k+4*(dS x:Nat)<=1099511627776 then some (if x=dM x k then k+(bi x:Nat) else -1) else none
def zJ (l:List J):Nat:=iQ bi l
def u0 (l:List J) (k:Int):List J:=gS bi dM l k
def BT:(List J)×Int->Option (Int×(List J)):=fun((x,k):(List J)×Int)=>if 0<=k/\k+4*(o9 x:Nat)<=1099511627776 then some (k+(zJ x:Nat),u0 x k) else none
def BU:(J×J×J)×Int->Option (Int×J×J×J):=fun(((a0,a1,a2),k):(J×J×J)×Int)=>if 0<=k/\k+4*(kS (a0,a1,a2):Nat)<=1099511627776 then some (k+(bi a0:Nat)+(bi a1:Nat)+(bi a2:Nat),dM a0 (k),dM a1 (k+(bi a0:Nat)),dM a2 (k+(bi a0:Nat)+(bi a1:Nat))) else none
def BS:(Int×(List J))×Int->Option (Int×(List J)):=fun(((a0,a1),k):(Int×(List J))×Int)=>if 0<=k/\k+4*(mR (a0,a1):Nat)<=1099511627776 then some (k+(zJ a1:Nat),u0 a1 (k)) else none
def I5:ak:=[(.one,[.list [.int .i64]]),(.one,[.int .i64])]
def Uc:ak:=[(.one,[.int .i64])]
def aov:aM:=[]
def I9:ak:=[(.one,[.list [.int .i64]])]
def Ug:ak:=[(.one,[.list [.int .i64]])]
def aoz:aM:=[]
def IU:ak:=[(.one,[.list [.int .i64]]),(.one,[.list [.int .i64]])]
def T0:ak:=[(.one,[.bool])]
def aop:aM:=[]
def I6:ak:=[(.one,[.list [.list [.int .i64]]]),(.one,[.int .i64])]
def Ud:ak:=[(.one,[.int .i64])]
def aow:aM:=[]
def Ja:ak:=[(.one,[.list [.list [.int .i64]]])]
def Uh:ak:=[(.one,[.list [.list [.int .i64]]])]
def aoA:aM:=[]
def IV:ak:=[(.one,[.list [.list [.int .i64]]]),(.one,[.list [.list [.int .i64]]])]
def T1:ak:=[(.one,[.bool])]
def aoq:aM:=[]
def I7:ak:=[(.agg,[.list [.int .i64],.list [.int .i64],.list [.int .i64]]),(.one,[.int .i64])]
def Ue:ak:=[(.one,[.int .i64])]
def aox:aM:=[]
def Jc:ak:=[(.agg,[.list [.int .i64],.list [.int .i64],.list [.int .i64]])]
def Uj:ak:=[(.agg,[.list [.int .i64],.list [.int .i64],.list [.int .i64]])]
def aoC:aM:=[]
def IW:ak:=[(.agg,[.list [.int .i64],.list [.int .i64],.list [.int .i64]]),(.agg,[.list [.int .i64],.list [.int .i64],.list [.int .i64]])]
def T2:ak:=[(.one,[.bool])]
def aor:aM:=[]
def I4:ak:=[(.agg,[.int .i64,.list [.list [.int .i64]]]),(.one,[.int .i64])]
def Ub:ak:=[(.one,[.int .i64])]
def aou:aM:=[]
def I8:ak:=[(.agg,[.int .i64,.list [.list [.int .i64]]])]
def Uf:ak:=[(.agg,[.int .i64,.list [.list [.int .i64]]])]
def aoy:aM:=[]
def IQ:ak:=[(.agg,[.int .i64,.list [.list [.int .i64]]]),(.agg,[.int .i64,.list [.list [.int .i64]]])]
def TZ:ak:=[(.one,[.bool])]
def aoo:aM:=[]
def I1:ak:=[(.one,[.list [.int .i64]]),(.one,[.int .i64])]
def T8:ak:=[(.one,[.int .i64]),(.one,[.list [.int .i64]])]
def LN:aM:=[[some .aO]]
def I2:ak:=[(.one,[.list [.list [.int .i64]]]),(.one,[.int .i64])]
def T9:ak:=[(.one,[.int .i64]),(.one,[.list [.list [.int .i64]]])]
def LO:aM:=[[some .live]]
def I3:ak:=[(.agg,[.list [.int .i64],.list [.int .i64],.list [.int .i64]]),(.one,[.int .i64])]
def Ua:ak:=[(.one,[.int .i64]),(.one,[.list [.int .i64]]),(.one,[.list [.int .i64]]),(.one,[.list [.int .i64]])]
def LP:aM:=[[some .aO,some .aO,some .aO]]
def I0:ak:=[(.agg,[.int .i64,.list [.list [.int .i64]]]),(.one,[.int .i64])]
def T7:ak:=[(.one,[.int .i64]),(.one,[.list [.list [.int .i64]]])]
def LM:aM:=[[none,some .live]]
def IY:ak:=[(.one,[.list [.int .i64]]),(.one,[.int .i64])]
def T5:ak:=[(.one,[.int .i64])]
def aot:aM:=[]
def N9 (NN:Nat):(J×Int)->(Option Int):=
 (fun((l0,i1):(J×Int))=>
 av (bG (kx .i64 i1 (aC (aa l0))) (0:Int))
 (some ((-1:Int)))
 (some (kx .i64 i1 (aC (aa l0)))))
def Oc (NN:Nat):J->(Option J):=
 (fun(l0:J)=>
 (lV (aC (aa l0)) (aC (aa l0)) 8).ae (fun k1=>
 bV ((bo 0 k1 (aa (dC k1 (0:Int)))).ae (fun _=>
 ci NN (fun(((l2,i3),l4):((J×Int)×J))=>
 av (bG i3 (aC (aa l2)))
 ((cM l2 i3).ae (fun i5=>
 (eX i3 (aa l4)).ae (fun k6=>
 (cu l4 (aG 0 k6)).ae (fun i7=>
 (bo 0 (aa l4) (aa (bS l4 (aG 0 k6) i5))).ae (fun _=>
 some (Sum.inl ((l2,cC .i64 i3 1),bS l4 (aG 0 k6) i5)))))))
 ((aA l4 (
 some (Sum.inl l4))).ae (fun l8=>
 some (Sum.inr l8))))
 ((l0,(0:Int)),dC k1 (0:Int))))
 (fun l9=>
 (dP l9 (aa l9)).ae (fun ed=>
 some ed))))
def Wc (NN:Nat):(J×J)->(Option Bool):=
 (fun((l0,l1):(J×J))=>
 av (fq (aC (aa l0)) (aC (aa l1)))
 (some false)
 (bV (ci NN (fun((l2,l3,i4):(J×(J×Int)))=>
 av (bG i4 (aC (aa l2)))
 ((cM l2 i4).ae (fun i5=>
 (cM l3 i4).ae (fun i6=>
 av (fq i5 i6)
 (some (Sum.inr (Sum.inr false)))
 (some (Sum.inl (l2,l3,cC .i64 i4 1))))))
 (some (Sum.inr (Sum.inl ()))))
 (l0,l1,(0:Int)))
 (fun _=>
 some true)))
def Wg (NN:Nat):((List J)×Int)->(Option Int):=
 (fun((l0,i1):((List J)×Int))=>
 av (bG (kx .i64 i1 (aC (aa l0))) (0:Int))
 (some ((-1:Int)))
 (bV (ci NN (fun((l2,i3,i4):((List J)×(Int×Int)))=>
 av (bG i4 (aC (aa l2)))
 ((cM l2 i4).ae (fun l5=>
 (rp (l5,i3)).ae (fun i6=>
 av (bG i6 (0:Int))
 (some (Sum.inr (Sum.inr ((-1:Int)))))
 (some (Sum.inl (l2,i6,cC .i64 i4 1))))))
 (some (Sum.inr (Sum.inl i3))))
 (l0,kx .i64 i1 (aC (aa l0)),(0:Int)))
 (fun i7=>
 some i7)))
def Od (NN:Nat):(List J)->(Option (List J)):=
 (fun(l0:(List J))=>
 (lV (aC (aa l0)) (aC (aa l0)) 24).ae (fun k1=>
 bV ((bo 0 k1 (aa (dC k1 (([]:J))))).ae (fun _=>
 ci NN (fun(((l2,i3),l4):(((List J)×Int)×(List J)))=>
 av (bG i3 (aC (aa l2)))
 ((cM l2 i3).ae (fun l5=>
 (tT l5).ae (fun l6=>
 (eX i3 (aa l4)).ae (fun k7=>
 (cu l4 (aG 0 k7)).ae (fun l8=>
 (dP l6 (aa l6)).ae (fun l9=>
 (bo 0 (aa l4) (aa (bS l4 (aG 0 k7) l9))).ae (fun _=>
 some (Sum.inl ((l2,cC .i64 i3 1),bS l4 (aG 0 k7) l9)))))))))
 ((aA l4 (
 some (Sum.inl l4))).ae (fun ed=>
 some (Sum.inr ed))))
 ((l0,(0:Int)),dC k1 (([]:J)))))
 (fun gi=>
 (dP gi (aa gi)).ae (fun fy=>
 some fy))))
def We (NN:Nat):((List J)×(List J))->(Option Bool):=
 (fun((l0,l1):((List J)×(List J)))=>
 av (fq (aC (aa l0)) (aC (aa l1)))
 (some false)
 (bV (ci NN (fun((l2,l3,i4):((List J)×((List J)×Int)))=>
 av (bG i4 (aC (aa l2)))
 ((cM l2 i4).ae (fun l5=>
 (cM l3 i4).ae (fun l6=>
 (rm (l5,l6)).ae (fun b7=>
 av (dN b7)
 (some (Sum.inr (Sum.inr false)))
 (some (Sum.inl (l2,l3,cC .i64 i4 1)))))))
 (some (Sum.inr (Sum.inl ()))))
 (l0,l1,(0:Int)))
 (fun _=>
 some true)))
def Oa (NN:Nat):((J×(J×J))×Int)->(Option Int):=
 (fun(((l0,l1,l2),i3):((J×(J×J))×Int))=>
 (rp (l0,i3)).ae (fun i4=>
 av (bG i4 (0:Int))
 (some ((-1:Int)))
 ((rp (l1,i4)).ae (fun i5=>
 av (bG i5 (0:Int))
 (some ((-1:Int)))
 ((rp (l2,i5)).ae (fun i6=>
 av (bG i6 (0:Int))
 (some ((-1:Int)))
 (some i6)))))))
def Oe (NN:Nat):(J×(J×J))->(Option (J×(J×J))):=
 (fun((l0,l1,l2):(J×(J×J)))=>
 (tT l0).ae (fun l3=>
 (tT l1).ae (fun l4=>
 (tT l2).ae (fun l5=>
 (dP l3 (aa l3)).ae (fun l6=>
 (dP l4 (aa l4)).ae (fun l7=>
 (dP l5 (aa l5)).ae (fun l8=>
 some (l6,l7,l8))))))))
def N0 (NN:Nat):((J×(J×J))×(J×(J×J)))->(Option Bool):=
 (fun(((l0,l1,l2),l3,l4,l5):((J×(J×J))×(J×(J×J))))=>
 (rm (l0,l3)).ae (fun b6=>
 av (dN b6)
 (some false)
 ((rm (l1,l4)).ae (fun b7=>
 av (dN b7)
 (some false)
 ((rm (l2,l5)).ae (fun b8=>
 av (dN b8)
 (some false)
 (some true)))))))
def N8 (NN:Nat):((Int×(List J))×Int)->(Option Int):=
 (fun(((i0,l1),i2):((Int×(List J))×Int))=>
 (BW (l1,i2)).ae (fun i3=>
 av (bG i3 (0:Int))
 (some ((-1:Int)))
 (some i3)))
def Ob (NN:Nat):(Int×(List J))->(Option (Int×(List J))):=
 (fun((i0,l1):(Int×(List J)))=>
 (BZ l1).ae (fun l2=>
 (dP l2 (aa l2)).ae (fun l3=>
 some (i0,l3))))
def NZ (NN:Nat):((Int×(List J))×(Int×(List J)))->(Option Bool):=
 (fun(((i0,l1),i2,l3):((Int×(List J))×(Int×(List J))))=>
 av (fq i0 i2)
 (some false)
 ((BQ (l1,l3)).ae (fun b4=>
 av (dN b4)
 (some false)
 (some true))))
def N5 (NN:Nat):(J×Int)->(Option (Int×J)):=
 (fun((l0,i1):(J×Int))=>
 bV (aA l0 (
 ci NN (fun(((i2,i3),l4):((Int×Int)×J))=>
 av (bG i3 (aC (aa l4)))
 ((eX i3 (aa l4)).ae (fun k5=>
 (cu l4 (aG 0 k5)).ae (fun i6=>
 (bo 0 (aa l4) (aa (bS l4 (aG 0 k5) i2))).ae (fun _=>
 some (Sum.inl ((cC .i64 i2 1,cC .i64 i3 1),bS l4 (aG 0 k5) i2))))))
 (some (Sum.inr (Sum.inl (i2,l4)))))
 ((i1,(0:Int)),l0)))
 (fun(i7,l8)=>
 (j6 (aa l8) (aa l0)).ae (fun _=>
 some (i7,l8))))
def N6 (NN:Nat):((List J)×Int)->(Option (Int×(List J))):=
 (fun((l0,i1):((List J)×Int))=>
 bV (aA l0 (
 ci NN (fun(((i2,i3),l4):((Int×Int)×(List J)))=>
 av (bG i3 (aC (aa l4)))
 ((eX i3 (aa l4)).ae (fun k5=>
 (cu l4 (aG 0 k5)).ae (fun l6=>
 (cu l4 (aG 0 k5)).ae (fun l7=>
 (lc (l7,i2)).ae (fun(i8,l9)=>
 (cu l4 (aG 0 k5)).ae (fun ed=>
 (bo 0 (aa l4) (aa (bS l4 (aG 0 k5) l9))).ae (fun _=>
 some (Sum.inl ((i8,cC .i64 i3 1),bS l4 (aG 0 k5) l9)))))))))
 (some (Sum.inr (Sum.inl (i2,l4)))))
 ((i1,(0:Int)),l0)))
 (fun(fZ,fy)=>
 (j6 (aa fy) (aa l0)).ae (fun _=>
 some (fZ,fy))))
def N7 (NN:Nat):((J×(J×J))×Int)->(Option (Int×(J×(J×J)))):=
 (fun(((l0,l1,l2),i3):((J×(J×J))×Int))=>
 aA l0 (
 (lc (l0,i3)).ae (fun(i4,l5)=>
 aA l1 (
 (lc (l1,i4)).ae (fun(i6,l7)=>
 aA l2 (
 (lc (l2,i6)).ae (fun(i8,l9)=>
 (j6 (aa l5) (aa l0)).ae (fun _=>
 (j6 (aa l7) (aa l1)).ae (fun _=>
 (j6 (aa l9) (aa l2)).ae (fun _=>
 some (i8,l5,l7,l9)))))))))))
def N4 (NN:Nat):((Int×(List J))×Int)->(Option (Int×(List J))):=
 (fun(((i0,l1),i2):((Int×(List J))×Int))=>
 aA l1 (
 (BT (l1,i2)).ae (fun(i3,l4)=>
 (j6 (aa l4) (aa l1)).ae (fun _=>
 some (i3,l4)))))
def N2 (NN:Nat):(J×Int)->(Option Int):=
 (fun((l0,i1):(J×Int))=>
 bV (ci NN (fun((l2,i3,i4):(J×(Int×Int)))=>
 av (bG i4 (aC (aa l2)))
 ((cM l2 i4).ae (fun i5=>
 av (fq i5 i3)
 (some (Sum.inr (Sum.inr ((-1:Int)))))
 (some (Sum.inl (l2,cC .i64 i3 1,cC .i64 i4 1)))))
 (some (Sum.inr (Sum.inl i3))))
 (l0,i1,(0:Int)))
 (fun i6=>
 some i6))
theorem ajR (x:J×Int) (y:Int) (h:rp x=some y):N9 aL x=some y:=by
 obtain⟨l,k⟩:=x;simp only[rp] at h;split at h
 ·rename_i hc;obtain⟨⟨k0,k1⟩,hw⟩:=hc;have hw:=of_decide_eq_true hw;rw[<-h];have hn:=nl l;simp only[N9];rw[tI (by omega) (by omega)];show _=some (il l.length k);by_cases hs:(l.length:Int)<=k
  ·rw[VH hs,bc (eJ (by omega))];rfl
  ·rw[HQ hs,aY (dQ (by omega))]
 ·cases h
theorem ajV (x y:J) (h:tT x=some y):Oc aL x=some y:=by
 simp only[tT] at h;split at h
 ·rename_i hl;injection h with h;subst h;have hl:x.length<=1048576:=hl;simp only[Oc,pQ (n:=aa x) (by_:=8) (by simp only[aa,dR];omega),bj,pO,bQ,aA];rw[Yf x 0 (r:=Sum.inl x) ?_ ?_ (by omega)]
  ·simp only[mK,io,bj]
  ·intro i e ys he hy hi;simp only
   rw[aY (kv he),dg,he,bj];simp only[Fk hi,bj,fU,cu,hi,AY,bQ,nA he (by omega)];rfl
  ·simp only
   rw[bc (gD x)]
 ·cases h
theorem ajG (x:J×J) (y:Bool) (h:rm x=some y):Wc aL x=some y:=by
 obtain⟨a,b⟩:=x;simp only[rm] at h;split at h
 ·rename_i hl;rw[<-h];have hl:a.length<=1048576:=hl;exact air a b (by omega)
 ·cases h
theorem ajS (x:(List J)×Int) (y:Int) (h:BW x=some y):Wg aL x=some y:=by
 obtain⟨l,k⟩:=x;simp only[BW] at h;split at h
 ·rename_i hc;obtain⟨hk,hw⟩:=hc;unfold EM at hw;rw[Bool.and_eq_true,decide_eq_true_eq,List.all_eq_true] at hw;rw[<-h];exact atH rp dS l hw.1 (fun e he k hk=>if_pos ⟨hk,hw.2 e he⟩) k hk
 ·cases h
theorem VI {l:List J} (h:o9 l<=1048576):l.length<=1048576/\∀e∈l,dS e<=1048576:=by
 unfold o9 at h;refine⟨by omega,fun e he=>?_⟩;have:=Sj (List.mem_map_of_mem (f:=dS) he);omega
theorem ajW (x y:List J) (h:BZ x=some y):Od aL x=some y:=by
 simp only[BZ] at h;split at h
 ·rename_i hl;injection h with h;subst h;obtain⟨hl,hm⟩:=VI hl;simp only[Od,pQ (n:=aa x) (by_:=24) (by simp only[aa,dR];omega),bj,pO,bQ,aA];rw[Yf x [] (r:=Sum.inl x) ?_ ?_ (by omega)]
  ·simp only[mK,io,bj]
  ·rintro i e0 ys he hy hi;simp only
   rw[aY (kv he),dg,he,bj];simp only[tT,if_pos (hm _ (List.mem_of_getElem? he)),Fk hi,bj,fU,cu,hi,io,AY,bQ,nA he (by omega)];rfl
  ·simp only
   rw[bc (gD x)]
 ·cases h
theorem ajH (x:(List J)×(List J)) (y:Bool) (h:BQ x=some y):We aL x=some y:=by
 obtain⟨a,b⟩:=x;simp only[BQ] at h;split at h
 ·rename_i hl;rw[<-h];obtain⟨hl,hm⟩:=VI hl;exact PP rm a b (fun e he b=>show(if dS e<=1048576 then some (decide (e=b)) else none)=_ from if_pos (hm e he)) (by omega)
 ·cases h
theorem ajT (x:(J×J×J)×Int) (y:Int) (h:BX x=some y):Oa aL x=some y:=by
 obtain⟨⟨a0,a1,a2⟩,k⟩:=x;simp only[BX] at h;split at h
 ·rename_i hc;obtain⟨⟨k0,k1⟩,hw⟩:=hc;simp only[H9,Bool.and_eq_true] at hw;rw[<-h];simp only[Oa];rw[M3 (o:=rp (a0,k)) (s:=dS a0) (if_pos ⟨by constructor<;>omega,hw.1.1⟩)]
  by_cases c0:((dS a0:Nat):Int)<=k
  ·rw[if_pos c0];rw[M3 (o:=rp (a1,k - dS a0)) (s:=dS a1) (if_pos ⟨by constructor<;>omega,hw.1.2⟩)]
   by_cases c1:((dS a1:Nat):Int)<=k - dS a0
   ·rw[if_pos c1];rw[M3 (o:=rp (a2,k - dS a0 - dS a1)) (s:=dS a2) (if_pos ⟨by constructor<;>omega,hw.2⟩)]
    by_cases c2:((dS a2:Nat):Int)<=k - dS a0 - dS a1
    ·rw[if_pos c2];show _=some (il (dS a0+dS a1+dS a2) k);rw[VH (by omega)];exact congrArg some (by omega)
    ·rw[if_neg c2];show _=some (il (dS a0+dS a1+dS a2) k);rw[HQ (by omega)]
   ·rw[if_neg c1];show _=some (il (dS a0+dS a1+dS a2) k);rw[HQ (by omega)]
  ·rw[if_neg c0];show _=some (il (dS a0+dS a1+dS a2) k);rw[HQ (by omega)]
 ·cases h
theorem ajY (x y:J×J×J) (h:tU x=some y):Oe aL x=some y:=by
 obtain⟨a0,a1,a2⟩:=x;simp only[tU] at h;split at h
 ·rename_i hl;rw[<-h];simp only[kS] at hl;simp only[Oe,tT,if_pos (show dS a0<=1048576 by omega),if_pos (show dS a1<=1048576 by omega),if_pos (show dS a2<=1048576 by omega),bj,io]
 ·cases h
theorem ajI (x:(J×J×J)×(J×J×J)) (y:Bool) (h:tR x=some y):N0 aL x=some y:=by
 obtain⟨⟨a0,a1,a2⟩,b0,b1,b2⟩:=x;simp only[tR] at h;split at h
 ·rename_i hl;rw[<-h];simp only[kS] at hl;simp only[N0,rm,if_pos (show dS a0<=1048576 by omega),if_pos (show dS a1<=1048576 by omega),if_pos (show dS a2<=1048576 by omega),bj];by_cases e0:a0=b0<;>by_cases e1:a1=b1<;>by_cases e2:a2=b2<;>simp[LU,dN,av, *]
 ·cases h
theorem ajQ (x:(Int×(List J))×Int) (y:Int) (h:BV x=some y):N8 aL x=some y:=by
 obtain⟨⟨a0,a1⟩,k⟩:=x;simp only[BV] at h;split at h
 ·rename_i hc;obtain⟨⟨k0,k1⟩,hw⟩:=hc;simp only[H8] at hw;rw[<-h];simp only[N8];rw[M3 (o:=BW (a1,k)) (s:=o9 a1) (if_pos ⟨by constructor<;>omega,hw⟩)]
  by_cases c0:((o9 a1:Nat):Int)<=k
  ·rw[if_pos c0];show _=some (il (o9 a1) k);rw[VH (by omega)]
  ·rw[if_neg c0];show _=some (il (o9 a1) k);rw[HQ (by omega)]
 ·cases h
theorem ajU (x y:Int×(List J)) (h:tS x=some y):Ob aL x=some y:=by
 obtain⟨a0,a1⟩:=x;simp only[tS] at h;split at h
 ·rename_i hl;rw[<-h];simp only[mR] at hl;simp only[Ob,BZ,if_pos (show o9 a1<=1048576 by omega),bj,io]
 ·cases h
theorem ajF (x:(Int×(List J))×(Int×(List J))) (y:Bool) (h:xo x=some y):NZ aL x=some y:=by
 obtain⟨⟨a0,a1⟩,b0,b1⟩:=x;simp only[xo] at h;split at h
 ·rename_i hl;rw[<-h];simp only[mR] at hl;simp only[NZ,BQ,if_pos (show o9 a1<=1048576 by omega),bj];by_cases e0:a0=b0<;>by_cases e1:a1=b1<;>simp[LU,dN,av, *]
 ·cases h
theorem aiu (x:J×J×J) (h:kS x<=1048576):tR (x,x)=some true:=by
 have:=show tR (x,x)=if kS x<=1048576 then some (decide (x=x)) else none from rfl
 rw[this,if_pos h,decide_eq_true rfl]
theorem atW (x:J×J×J) (h:kS x<=1048576):tU x=some x:=if_pos h
theorem ait (x:Int×(List J)) (h:mR x<=1048576):xo (x,x)=some true:=by
 have:=show xo (x,x)=if mR x<=1048576 then some (decide (x=x)) else none from rfl
 rw[this,if_pos h,decide_eq_true rfl]
theorem atV (x:Int×(List J)) (h:mR x<=1048576):tS x=some x:=if_pos h
theorem HT (l:J):dS l=l.length+(l.map (fun _=>0)).sum:=by
 simp[dS,agb]
theorem kB (l:J):bi l<=4*dS l:=by
 rw[HT];exact Fo (fun _=>1) (fun _=>0) (fun e=>by omega) l
theorem ath (l:J) (k:Int):dS (dM l k)=dS l:=by
 rw[HT,HT,dM,A3,HO (fun _=>1) (fun _ k=>k) (fun _=>0) (fun _ _=>rfl)]
theorem Xh (l:J) (k:Int):bi (dM l k)=bi l:=HO (fun _=>1) (fun _ k=>k) (fun _=>1) (fun _ _=>rfl) l k
theorem anV (l:J) (k:Int):dM (dM l k) k=dM l k:=SF (fun _=>1) (fun _ k=>k) (fun _ _=>rfl) (fun _ _=>rfl) l k
theorem GU (l:J) (k:Int):(dM l k).length=l.length:=A3 _ _ _ _
theorem ajN (x:J×Int) (y:Int×J) (h:lc x=some y):N5 aL x=some y:=by
 obtain⟨l,k⟩:=x;simp only[lc] at h;split at h
 ·rename_i hc;obtain⟨hk,hb⟩:=hc;rw[HT] at hb;rw[<-h];simp only[N5,bQ,bj,aA];rw[SA l (fun _=>1) (fun _=>0) (fun _ k=>k) k (r:=Sum.inl (k+(bi l:Nat),dM l k)) (fun e=>by omega) hk hb ?_ ?_]
  ·rw[mK];simp only
   rw[w4 (show aa (dM l k)=aa l from GU l k),bj]
  ·intro i e ys k' he hy hi h0 hM;have F7:cu ys i=some e:=hi;simp only
   rw[aY (kv hi),nA hi (by omega)];simp only[Fk hi,bj,fU,F7,AY,bQ];have e1:cC .i64 k' 1=k'+1:=eK (by omega) (by omega);simp only[e1];rfl
  ·simp only
   rw[bc (eJ (by have:=GU l k;have h2:=nl (dM l k);unfold dM at this h2;omega))];rfl
 ·cases h
theorem ajK (x:J×Int) (y:Int) (h:rn x=some y):N2 aL x=some y:=by
 obtain⟨l,k⟩:=x;simp only[rn] at h;split at h
 ·rename_i hc;obtain⟨hk,hb⟩:=hc;rw[HT] at hb;rw[<-h];simp only[N2];rw[Z4 l (fun _=>1) (fun _=>0) (fun _ k=>k) k (fun e=>by omega) hk hb ?_ ?_]
  ·unfold dM bi;by_cases hq:l=gS (fun _=>1) (fun _ k=>k) l k
   ·rw[if_pos hq,if_pos hq,mK]
   ·rw[if_neg hq,if_neg hq,GH]
  ·intro i e k' he h0 hM;simp only
   rw[aY (kv he),dg,he,bj];have e1:cC .i64 k' 1=k'+1:=eK (by omega) (by omega);rw[e1,nA he (by omega)];by_cases hq:e=k'
   ·rw[bc (pS hq),if_pos hq];rfl
   ·rw[aY (tz hq),if_neg hq]
  ·intro k';simp only
   rw[bc (gD l)]
 ·cases h
theorem agl (l:List J):o9 l=l.length+(l.map dS).sum:=by
 rfl
theorem WX (l:List J):zJ l<=4*o9 l:=by
 rw[agl];exact Fo bi dS (fun e=>by have:=kB e;omega) l
theorem Sr (l:List J) (k:Int):(u0 l k).length=l.length:=A3 _ _ _ _
theorem ajO (x:(List J)×Int) (y:Int×(List J)) (h:BT x=some y):N6 aL x=some y:=by
 obtain⟨l,k⟩:=x;simp only[BT] at h;split at h
 ·rename_i hc;obtain⟨hk,hb⟩:=hc;rw[agl] at hb;rw[<-h];simp only[N6,bQ,bj,aA];rw[SA l bi dS dM k (r:=Sum.inl (k+(zJ l:Nat),u0 l k)) (fun e=>by have:=kB e;omega) hk hb ?_ ?_]
  ·rw[mK];simp only
   rw[w4 (show aa (u0 l k)=aa l from Sr l k),bj]
  ·rintro i e0 ys k' he hy hi h0 hM;have F7:cu ys i=some e0:=hi;simp only
   rw[aY (kv hi),nA hi (by omega)];simp only[Fk hi,bj,fU,F7,AY,bQ];have aup:=kB e0;have E0:lc (e0,k')=some (k'+(bi e0:Nat),dM e0 (k')):=if_pos ⟨by omega,by omega⟩;simp only[E0,bj,KC hi,U8,AY,bQ];refine congrArg some (congrArg Sum.inl (Prod.ext (Prod.ext ?_ rfl) rfl));simp only[bi]
  ·simp only
   rw[bc (eJ (by have:=Sr l k;have h2:=nl (u0 l k);unfold u0 at this h2;omega))];rfl
 ·cases h
theorem ajP (x:(J×J×J)×Int) (y:Int×J×J×J) (h:BU x=some y):N7 aL x=some y:=by
 obtain⟨⟨a0,a1,a2⟩,k⟩:=x;simp only[BU] at h;split at h
 ·rename_i hc;obtain⟨hk,hb⟩:=hc;simp only[kS] at hb;have WY:=kB a0;have Pb:=kB a1;have WZ:=kB a2;rw[<-h];have e0:lc (a0,k)=some (k+(bi a0:Nat),dM a0 (k)):=if_pos ⟨by omega,by omega⟩;have e1:lc (a1,k+(bi a0:Nat))=some (k+(bi a0:Nat)+(bi a1:Nat),dM a1 (k+(bi a0:Nat))):=if_pos ⟨by omega,by omega⟩;have e2:lc (a2,k+(bi a0:Nat)+(bi a1:Nat))=some (k+(bi a0:Nat)+(bi a1:Nat)+(bi a2:Nat),dM a2 (k+(bi a0:Nat)+(bi a1:Nat))):=if_pos ⟨by omega,by omega⟩;simp only[N7,bQ,bj,e0,e1,e2,w4 (show aa (dM a0 (k))=aa a0 from GU a0 (k)),w4 (show aa (dM a1 (k+(bi a0:Nat)))=aa a1 from GU a1 (k+(bi a0:Nat))),w4 (show aa (dM a2 (k+(bi a0:Nat)+(bi a1:Nat)))=aa a2 from GU a2 (k+(bi a0:Nat)+(bi a1:Nat))),aA]
 ·cases h
theorem ajM (x:(Int×(List J))×Int) (y:Int×(List J)) (h:BS x=some y):N4 aL x=some y:=by
 obtain⟨⟨a0,a1⟩,k⟩:=x;simp only[BS] at h;split at h
 ·rename_i hc;obtain⟨hk,hb⟩:=hc;simp only[mR] at hb;have Pb:=WX a1;rw[<-h];have e0:BT (a1,k)=some (k+(zJ a1:Nat),u0 a1 (k)):=if_pos ⟨by omega,by omega⟩;simp only[N4,bQ,bj,e0,w4 (show aa (u0 a1 (k))=aa a1 from Sr a1 (k)),aA]
 ·cases h
def ZE (r c:Nat) (M:Nat->Nat->Int):J:=(List.range (r*c)).map fun n=>M (n/c) (n%c)
def ofD (c:Nat) (l:J):Nat->Nat->Int:=fun i j=>l.getD (i*c+j) 0
theorem asj {a p:Int} (ha:0<=a) (hp:0<p):mO a p=some (a%p):=by
 unfold mO;rw[if_neg (by omega),Int.tmod_eq_emod_of_nonneg ha]
theorem anL {i n:Nat} (h:i<n):bG (i:Int) (n:Int)=true:=dQ (by omega)
theorem DN {i n:Nat} (h:n<=i):bG (i:Int) (n:Int)=false:=eJ (by omega)
theorem Ci {i:Nat} (h:i<=1048577):cC .i64 (i:Int) 1=((i+1:Nat):Int):=by rw[eK (by omega) (by omega)];omega
def oU (p:Int):Prop:=2<=p/\p<=1000003
instance (p:Int):Decidable (oU p):=inferInstanceAs (Decidable (2<=p/\p<=1000003))
def qK (p x:Int):Prop:=0<=x/\x<p
instance (p x:Int):Decidable (qK p x):=inferInstanceAs (Decidable (0<=x/\x<p))
theorem PO {p:Int} (hp:oU p) (a:Int):qK p (a%p):=⟨Int.emod_nonneg _ (by have:=hp.1;omega),Int.emod_lt_of_pos _ (by have:=hp.1;omega)⟩
theorem qK.le {p x:Int} (h:qK p x):0<=x/\x<=p:=⟨h.1,Int.le_of_lt h.2⟩
theorem qK.s {p x:Int} (hp:oU p) (h:qK p x):0<=x/\x<=1000003000000:=⟨h.1,by have:=h.2;have:=hp.2;omega⟩
def qJ (p:Int) (r c:Nat) (M:Nat->Nat->Int):Prop:=∀i,i<r->∀j,j<c->qK p (M i j)
def qh (p:Int) (l:J):Prop:=∀x∈l,qK p x
instance (p:Int) (l:J):Decidable (qh p l):=inferInstanceAs (Decidable (∀x∈l,qK p x))
def A2 (x:Int×Int×J):Prop:=(0<=x.1/\x.1<=4096)/\(0<=x.2.1/\x.2.1<=4096)/\(x.2.2.length:Int)=x.1*x.2.1/\x.2.2.length<=1048576
instance (x:Int×Int×J):Decidable (A2 x):=by unfold A2;infer_instance
def ky:Int×Int×Int->Option Bool:=fun((a,b,c):Int×Int×Int)=>some (decide (b<=a/\a<=c))
def Jl:ak:=[(.one,[.int .i64]),(.one,[.int .i64]),(.one,[.int .i64])]
def Ut:ak:=[(.one,[.bool])]
def aoL:aM:=[]
def On (NN:Nat):(Int×(Int×Int))->(Option Bool):=
 (fun((i0,i1,i2):(Int×(Int×Int)))=>
 av (jb i1 i0)
 (some (jb i0 i2))
 (some false))
theorem aj7 (x:Int×Int×Int) (y:Bool) (h:ky x=some y):On aL x=some y:=by
 obtain⟨a,b,c⟩:=x;rw[<-h];simp only[ky,On,jb];by_cases hc:b<=a<;>simp[hc,av]
def rD (n:Int) (i:Nat):Bool:=decide ((i:Int)*i<=n)&&decide (n%(i:Int)=0)
def gZ (n:Int):Bool:=decide (2<=n/\n<=1000003)&& !((List.range' 2 999).any (rD n))
def xt:Int->Option Bool:=fun(n:Int)=>some (gZ n)
def xk:Int->Option Bool:=fun(n:Int)=>some (gZ n)
def yu (m:Int) (v:Int):Bool:=decide (0<=v/\v<m)
def rb (m:Int) (l:J):Bool:=l.all (yu m)
def zt:Int×J->Option Bool:=fun((m,l):Int×J)=>if l.length<=1048576 then some (rb m l) else none
def Jh:ak:=[(.one,[.int .i64])]
def Uo:ak:=[(.one,[.bool])]
def aoH:aM:=[]
def Iq:ak:=[(.one,[.int .i64])]
def Tz:ak:=[(.one,[.bool])]
def an0:aM:=[]
def IA:ak:=[(.one,[.int .i64]),(.one,[.list [.int .i64]])]
def TK:ak:=[(.one,[.bool])]
def aoa:aM:=[]
def Oj (NN:Nat):Int->(Option Bool):=
 (fun(i0:Int)=>
 bV (ci NN (fun((i1,i2):(Int×Int))=>
 av (jb (lW .i64 i2 i2) i1)
 (av (jb i1 (1000003:Int))
 ((mO i1 i2).ae (fun i3=>
 av (dD i3 (0:Int))
 (some (Sum.inr (Sum.inr false)))
 (some (Sum.inl (i1,cC .i64 i2 1)))))
 (some (Sum.inr (Sum.inl i1))))
 (some (Sum.inr (Sum.inl i1))))
 (i0,(2:Int)))
 (fun i4=>
 (ky (i4,(2:Int),(1000003:Int))).ae (fun b5=>
 some b5)))
def NC (NN:Nat):Int->(Option Bool):=
 (fun(i0:Int)=>
 av (bG i0 (2:Int))
 (some false)
 (av (bG (1000003:Int) i0)
 (some false)
 (bV (ci NN (fun((i1,i2):(Int×Int))=>
 av (jb (lW .i64 i2 i2) i1)
 ((mO i1 i2).ae (fun i3=>
 av (dD i3 (0:Int))
 (some (Sum.inr (Sum.inr false)))
 (some (Sum.inl (i1,cC .i64 i2 1)))))
 (some (Sum.inr (Sum.inl ()))))
 (i0,(2:Int)))
 (fun _=>
 some true))))
def NM (NN:Nat):(Int×J)->(Option Bool):=
 (fun((i0,l1):(Int×J))=>
 bV (ci NN (fun((i2,l3,i4,i5):(Int×(J×(Int×Int))))=>
 av (bG i5 i4)
 ((cM l3 i5).ae (fun i6=>
 av (bG i6 (0:Int))
 (some (Sum.inr (Sum.inr false)))
 (av (jb i2 i6)
 (some (Sum.inr (Sum.inr false)))
 (some (Sum.inl (i2,l3,i4,cC .i64 i5 1))))))
 (some (Sum.inr (Sum.inl ()))))
 (i0,l1,aC (aa l1),(0:Int)))
 (fun _=>
 some true))
theorem oT {a b:Int} (h1: -9223372036854775808<=a*b) (h2:a*b<=9223372036854775807):lW .i64 a b=a*b:=Nr h1 h2
theorem Hj {n:Int} {i:Nat} (hn:0<=n) (hi:0<i):mO n (i:Int)=some (n%(i:Int)):=by
 unfold mO;rw[if_neg (by omega),Int.tmod_eq_emod_of_nonneg hn]
theorem Vo {i j:Nat} (h:i<=j):(i:Int)*i<=(j:Int)*j:=by
 have:=Nat.mul_le_mul h h
 exact_mod_cast this
theorem XC {X Y:Type} {f:X->Option (X⊕(Y⊕Bool))} (n:Int) (mk:Nat->X) (r:Y) (hn:n<=1000003)
  (h1:∀i:Nat,2<=i->i<=1001->(i:Int)*i<=n->n%(i:Int)=0->f (mk i)=some (.inr (.inr false)))
  (h2:∀i:Nat,2<=i->i<=1001->(i:Int)*i<=n->n%(i:Int)≠0->f (mk i)=some (.inl (mk (i+1))))
  (h3:∀i:Nat,2<=i->i<=1001->¬(i:Int)*i<=n->f (mk i)=some (.inr (.inl r))) {x0:X} (hx:x0=mk 2):
  ci aL f x0=some (if(List.range' 2 999).any (rD n)=true then .inr false else .inl r):=by
 subst hx;have db:∀(d i:Nat),2<=i->i+d=1001->∀N,d<N->ci N f (mk i)=some (if(List.range' i d).any (rD n)=true then .inr false else .inl r):=by
  intro d;induction d with
  |zero=>
   intro i hi hd N hN;obtain⟨N,rfl⟩:∃M,N=M+1:=⟨N - 1,by omega⟩;have:i=1001:=by omega
   subst this;rw[ci,h3 1001 (by omega) (by omega) (by omega)];rfl
  |succ d ih=>
   intro i hi hd N hN;obtain⟨N,rfl⟩:∃M,N=M+1:=⟨N - 1,by omega⟩;rw[List.range'_succ,List.any_cons];by_cases gH:(i:Int)*i<=n
   ·by_cases hm:n%(i:Int)=0
    ·rw[ci,h1 i hi (by omega) gH hm];simp[rD,gH,hm]
    ·rw[ci,h2 i hi (by omega) gH hm];simp only
     rw[ih (i+1) (by omega) (by omega) N (by omega),show rD n i=false by simp[rD,hm],Bool.false_or]
   ·rw[ci,h3 i hi (by omega) gH];have:(List.range' (i+1) d).any (rD n)=false:=by
     rw[List.any_eq_false];intro j hj;have:=(List.mem_range'_1.1 hj).1;have:=Vo (show i<=j by omega);simp only[rD,Bool.and_eq_true,decide_eq_true_eq,not_and];intro h;omega
    simp only
    rw[this];simp[rD,gH]
 exact db 999 2 (by omega) (by omega) aL (dY (by omega))
theorem Ev {i:Nat} (h:i<=1001):0<=(i:Int)*i/\(i:Int)*i<=1002001:=by
 have h1:=Vo h;have h0:=Vo (Nat.zero_le i);omega
theorem aj3 (x:Int) (y:Bool) (h:xt x=some y):Oj aL x=some y:=by
 rw[<-h];simp only[xt,Oj];by_cases hx:x<=1000003
 ·rw[XC x (fun i=>(x,(i:Int))) x hx ?_ ?_ ?_ ?_]
  ·by_cases hd:(List.range' 2 999).any (rD x)=true
   ·rw[if_pos hd,GH,gZ,hd];simp
   ·rw[if_neg hd,mK,gZ];simp only[ky,bj];simp[hd]
  all_goals try simp only
  ·intro i h2 hi gH hm;have hs:=Ev hi;rw[oT (by omega) (by omega),aY (se gH),aY (se hx),Hj (by omega) (by omega),bj,aY (rH hm)]
  ·intro i h2 hi gH hm;have hs:=Ev hi;rw[oT (by omega) (by omega),aY (se gH),aY (se hx),Hj (by omega) (by omega),bj,bc (rG hm),eK (by omega) (by omega)];rfl
  ·intro i h2 hi gH;have hs:=Ev hi;rw[oT (by omega) (by omega),bc (AW (by omega))]
  ·rfl
 ·rw[fk (fun i=>(x,(i:Int)+2)) (r:=Sum.inl x) 0 (fun j hj=>by omega) ?_ ?_ (dY (by omega))]
  ·rw[mK,gZ];simp only[ky,bj];have:¬(2<=x/\x<=1000003):=by omega
   simp[this]
  ·simp only
   rw[aY (se (by rw[oT (by omega) (by omega)];omega)),bc (AW (by omega))]
  ·rfl
theorem ajj (x:Int) (y:Bool) (h:xk x=some y):NC aL x=some y:=by
 rw[<-h];simp only[xk,NC];by_cases h2:x<2
 ·rw[aY (dQ h2),gZ,decide_eq_false (by omega)];rfl
 rw[bc (eJ (by omega))];by_cases hx:1000003<x
 ·rw[aY (dQ hx),gZ,decide_eq_false (by omega)];rfl
 rw[bc (eJ (by omega))];rw[XC x (fun i=>(x,(i:Int))) () (by omega) ?_ ?_ ?_ ?_]
 ·have hr:(2<=x/\x<=1000003):=by omega
  by_cases hd:(List.range' 2 999).any (rD x)=true
  ·rw[if_pos hd,GH,gZ,hd];simp
  ·rw[if_neg hd,mK,gZ];simp[hd,hr]
 all_goals try simp only
 ·intro i h2 hi gH hm;have hs:=Ev hi;rw[oT (by omega) (by omega),aY (se gH),Hj (by omega) (by omega),bj,aY (rH hm)]
 ·intro i h2 hi gH hm;have hs:=Ev hi;rw[oT (by omega) (by omega),aY (se gH),Hj (by omega) (by omega),bj,bc (rG hm),eK (by omega) (by omega)];rfl
 ·intro i h2 hi gH;have hs:=Ev hi;rw[oT (by omega) (by omega),bc (AW (by omega))]
 ·rfl
theorem ajt (x:Int×J) (y:Bool) (h:zt x=some y):NM aL x=some y:=by
 obtain⟨m,l⟩:=x;simp only[zt] at h;split at h
 ·rename_i hl;rw[<-h];simp only[NM];rw[AZ (mk:=fun i=>(m,l,aC (aa l),(i:Int))) l (yu m) (Sum.inr false) (Sum.inl ()) ?_ ?_ ?_ ?_ (dY (by omega))]
  ·unfold rb;cases l.all (yu m)<;>rfl
  all_goals try simp only
  ·intro i a ha hp;have hp:=of_decide_eq_true hp;rw[aY (kv ha),dg,ha,bj,bc (eJ (by omega)),bc (AW (by omega)),nA ha (by omega)]
  ·intro i a ha hp;have hp:=of_decide_eq_false hp;rw[aY (kv ha),dg,ha,bj];by_cases h0:a<0
   ·rw[aY (dQ h0)]
   ·rw[bc (eJ (by omega)),aY (se (by omega))]
  ·rw[bc (gD l)]
  ·rfl
 ·cases h
theorem qM {m:Int} (h:gZ m=true):2<=m/\m<=1000003:=by
 simp only[gZ,Bool.and_eq_true,decide_eq_true_eq] at h;exact h.1
def eo:J->Int
 |[]=>1
 |x::l=>x*eo l
def zH (kM:Int) (_:Nat) (a x:Int):Int:=min (a*x) (kM+1)
def zG (kM:Int) (l:J):Int:=uv (zH kM) 0 1 l
def atd (x:Int):Bool:=decide (0<=x/\x<=1048576)
def rq:J×Int->Option Int:=fun((l,kM):J×Int)=>if(0<=kM/\kM<=1048576)/\l.length<=1048576/\l.all atd=true then some (zG kM l) else none
def Jw:ak:=[(.one,[.list [.int .i64]]),(.one,[.int .i64])]
def UE:ak:=[(.one,[.int .i64])]
def aoW:aM:=[]
def Oy (NN:Nat):(J×Int)->(Option Int):=
 (fun((l0,i1):(J×Int))=>
 bV (ci NN (fun((i2,i3,l4,i5,i6):(Int×(Int×(J×(Int×Int)))))=>
 av (bG i6 i5)
 ((cM l4 i6).ae (fun i7=>
 some (Sum.inl (i2,DO (lW .i64 i3 i7) (cC .i64 i2 1),l4,i5,cC .i64 i6 1))))
 (some (Sum.inr (Sum.inl i3))))
 (i1,(1:Int),l0,aC (aa l0),(0:Int)))
 (fun i8=>
 some i8))
theorem SI {a x A B:Int} (h0:0<=a) (h1:a<=A) (h2:0<=x) (h3:x<=B):0<=a*x/\a*x<=A*B:=
 ⟨Int.mul_nonneg h0 h2,Int.mul_le_mul h1 h3 h2 (by omega)⟩
theorem akh (x:J×Int) (y:Int) (h:rq x=some y):Oy aL x=some y:=by
 obtain⟨l,kM⟩:=x;simp only[rq] at h;split at h
 ·rename_i hc;obtain⟨aac,hl,hs⟩:=hc;rw[<-h];simp only[Oy];rw[anJ l (fun(a:Int) i=>(kM,a,l,aC (aa l),(i:Int))) (fun _ a=>0<=a/\a<=kM+1) (zH kM) (fun a=>Sum.inl a) ?_ ?_ (s:=1) ⟨by omega,by omega⟩ ?_ (dY (by omega))]
  ·rfl
  all_goals try simp only
  ·intro i a x hx ha;have Dr:=of_decide_eq_true (List.all_eq_true.1 hs x (List.mem_of_getElem? hx));obtain⟨b1,b2⟩:=SI ha.1 (show a<=1048577 by omega) Dr.1 Dr.2;rw[aY (kv hx),dg,hx,bj,oT (by omega) (by omega),eK (a:=kM) (by omega) (by omega),anP,nA hx (by omega)];refine⟨rfl,?_⟩;unfold zH;omega
  ·intro a _;rw[bc (gD l)]
  ·rfl
 ·cases h
theorem D5:∀{l:J},(∀x∈l,1<=x)->1<=eo l
 |[],_=>by simp[eo]
 |x::l,h=>by
  have h1:=h x List.mem_cons_self;have h2:=D5 (l:=l) (fun x hx=>h x (List.mem_cons_of_mem _ hx));have:=Int.mul_le_mul h1 h2 (by omega) (by omega);simpa[eo] using this
theorem JO {kM:Int} (aac:0<=kM):∀(l:J) (i:Nat) (a:Int),(∀x∈l,1<=x)->1<=a->a<=kM+1->uv (zH kM) i a l=min (a*eo l) (kM+1)
 |[],i,a,_,_,h2=>by simp only[uv,eo,Int.mul_one];omega
 |x::l,i,a,h,h1,h2=>by
  have hx:=h x List.mem_cons_self;have hp:=D5 (l:=l) (fun x hx=>h x (List.mem_cons_of_mem _ hx));have hax:=Int.mul_le_mul h1 hx (by omega) (by omega);rw[uv,JO aac l (i+1) _ (fun x hx=>h x (List.mem_cons_of_mem _ hx)) (by unfold zH;omega) (by unfold zH;omega),eo,<-Int.mul_assoc];unfold zH;generalize a*x=c at*
  by_cases hc:c<=kM+1
  ·rw[Int.min_eq_left hc]
  ·have e:min c (kM+1)=kM+1:=by omega
   rw[e];have k1:=Int.mul_le_mul_of_nonneg_left hp (show 0<=kM+1 by omega);have k2:=Int.mul_le_mul_of_nonneg_left hp (show 0<=c by omega);omega
end Go.Am
