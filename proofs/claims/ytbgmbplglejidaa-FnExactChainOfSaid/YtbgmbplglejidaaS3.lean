/- S3: typed functions, and one operation of the typed evaluator. No condition. -/
import Derived.Test.YtbgmbplglejidaaS2
set_option linter.unusedVariables false
set_option linter.unusedSimpArgs false
namespace Go.Am
def aQ:List (List Ty)->Type
 |[]=>Unit
 |ts::l=>match l with
  |[]=>Ty.DL ts
  |us::l'=>Ty.DL ts×aQ (us::l')
abbrev ai:=List (K×List Ty)
abbrev ai.aP (s:ai):List (List Ty):=s.map (·.2)
def c6:(as:ai)->aQ as.aP->List Dv
 |[],_=>[]
 |[a],x=>[(a.1,Ty.aJ a.2 x)]
 |a::b::as,x=>(a.1,Ty.aJ a.2 x.1)::c6 (b::as) x.2
def kC:(as:ai)->aQ as.aP->List bM
 |[],_=>[]
 |[a],x=>[(a.1,Ty.gW a.2 x)]
 |a::b::as,x=>(a.1,Ty.gW a.2 x.1)::kC (b::as) x.2
theorem vN:∀(as:ai) (x:aQ as.aP),(kC as x).map bM.er=c6 as x
 |[],_=>rfl
 |[a],x=>congrArg (fun l=>[((a.1,l):Dv)]) (Ty.pN a.2 x)
 |a::b::as,x=>by
  have:=vN (b::as) x.2
  simp only[kC,c6,List.map_cons,bM.er,Ty.pN,this]
def K.beq:K->K->Bool
 |.one,.one=>true
 |.agg,.agg=>true
 |.ptr,.ptr=>true
 |_,_=>false
theorem K.beq_eq {a b:K} (h:K.beq a b=true):a=b:=by cases a<;>cases b<;>first|rfl|cases h
def H8 (ts:List Ty):(l:List (List Ty))->Ty.DL ts->aQ l->aQ (ts::l)
 |[],x,_=>x
 |_::_,x,y=>(x,y)
theorem Yp (a:K×List Ty):∀(as:ai) (x:Ty.DL a.2) (y:aQ (ai.aP as)),c6 (a::as) (H8 a.2 (ai.aP as) x y)=(a.1,Ty.aJ a.2 x)::c6 as y
 |[],_,_=>rfl
 |_::_,_,_=>rfl
def n7:(as:ai)->List bM->Option (aQ as.aP)
 |[],[]=>some ()
 |a::as,d::ds=>eP (K.beq a.1 d.1) (match qA a.2 d.2,n7 as ds with
  |some x,some y=>some (H8 a.2 (ai.aP as) x y)
  |_,_=>none)
 |_,_=>none
theorem tj:∀{as:ai} {ds:List bM} {x:aQ as.aP},n7 as ds=some x->ds.map bM.er=c6 as x
 |[],[],x,h=>rfl
 |a::as,d::ds,x,h=>by
  simp only[n7] at h
  have h1:=(bZ h).1;replace h2:=(bZ h).2
  split at h2
  ·rename_i y z e1 e2
   injection h2 with h2
   subst h2
   rw[Yp,List.map_cons,tj e2,bM.er,<-K.beq_eq h1,<-wS e1]
  ·cases h2
 |[],_::_,x,h=>by simp[n7] at h
 |a::as,[],x,h=>by simp[n7] at h
mutual
theorem Ty.Yt:∀(t:Ty) (x y:t.D),t.er x=t.er y->x=y
 |.int k,x,y,h=>by simp only[Ty.er] at h;injection h
 |.bool,x,y,h=>by simp only[Ty.er] at h;injection h
 |.list ts,x,y,h=>by simp only[Ty.er] at h;injection h with _ h;exact Ty.Ys ts x y h
theorem Ty.Ys:∀(ts:List Ty) (xs ys:List (Ty.DL ts)),List.map (Ty.aJ ts) xs=List.map (Ty.aJ ts) ys->xs=ys
 |ts,[],[],h=>rfl
 |ts,x::xs,y::ys,h=>by
  simp only[List.map_cons,List.cons.injEq] at h
  rw[Ty.Il ts x y h.1,Ty.Ys ts xs ys h.2]
 |ts,[],_::_,h=>by simp at h
 |ts,_::_,[],h=>by simp at h
theorem Ty.Il:∀(ts:List Ty) (x y:Ty.DL ts),Ty.aJ ts x=Ty.aJ ts y->x=y
 |[],x,y,h=>rfl
 |[t],x,y,h=>by simp only[Ty.aJ,List.cons.injEq,and_true] at h;exact Ty.Yt t x y h
 |t::u::ts,x,y,h=>by
  simp only[Ty.aJ,List.cons.injEq] at h
  exact Prod.ext (Ty.Yt t x.1 y.1 h.1) (Ty.Il (u::ts) x.2 y.2 h.2)
end
theorem Yq:∀(as:ai) (x y:aQ as.aP),c6 as x=c6 as y->x=y
 |[],x,y,h=>rfl
 |[a],x,y,h=>by simp[c6] at h;exact Ty.Il a.2 x y h
 |a::b::as,x,y,h=>by
  simp only[c6,List.cons.injEq,Prod.mk.injEq,true_and] at h
  exact Prod.ext (Ty.Il a.2 x.1 y.1 h.1) (Yq (b::as) x.2 y.2 h.2)
structure au where
 id:FuncId
 args:ai
 mu:aN
 aA:ai
 F:aQ args.aP->Option (aQ aA.aP)
open Classical in
noncomputable def au.M (fn:au) (ds:List Dv):Option (List Dv):=
 if h:∃x,c6 fn.args x=ds then(fn.F h.choose).map (c6 fn.aA) else none
theorem au.xQ (fn:au) (x:aQ fn.args.aP):fn.M (c6 fn.args x)=(fn.F x).map (c6 fn.aA):=by
 have h:∃y,c6 fn.args y=c6 fn.args x:=⟨x,rfl⟩
 unfold au.M
 rw[dif_pos h,Yq _ _ _ h.choose_spec]
theorem au.F6 {fn:au} {ds rs:List Dv} (h:fn.M ds=some rs):∃x y,ds=c6 fn.args x/\fn.F x=some y/\rs=c6 fn.aA y:=by
 unfold au.M at h
 split at h
 ·rename_i e
  rw[Option.map_eq_some_iff] at h
  obtain⟨y,h1,h2⟩:=h
  exact⟨_,y,e.choose_spec.symm,h1,h2.symm⟩
 ·cases h
def aN.bA:aN->Nat
 |[]=>0
 |s::l=>(s.filter Option.isSome).length+aN.bA l
def xn (k:Nat) (rs:List Dv):List Dv×List C:=(rs.take k,(rs.drop k).flatMap (·.2))
noncomputable def au.MM (fn:au) (ds:List Dv):Option (List Dv×List C):=(fn.M ds).map (xn (fn.aA.length - fn.mu.bA))
def aN.fD:aN->Nat
 |[]=>0
 |[[some .aO]]=>2
 |[some .aO,some .aO]::_=>3
 |_=>1
def AS:ai->Bool
 |[]=>false
 |(.ptr,_)::_=>true
 |_::as=>AS as
def pi (as:ai):Nat:=match AS as with
 |true=>1
 |false=>0
noncomputable def au.MV (fn:au) (ds:List Dv):Option (List Dv×List C):=(fn.M ds).map (xn (fn.aA.length - pi fn.args))
def aqD:List Dv->Option (Nat×Nat)
 |[(.one,[.int _ a]),(.one,[.int _ b])]=>some (a.toNat,(b - a).toNat)
 |_=>none
noncomputable def au.MW (fn:au) (ds:List Dv):Option (Nat×Nat):=(fn.M ds).bind aqD
noncomputable def cH (T:List au):aS:=
 ⟨T.filterMap fun fn=>match fn.mu.fD with|0=>some (fn.id,fn.M)|_=>none,T.filterMap fun fn=>match fn.mu.fD with|1=>some (fn.id,fn.mu,fn.MM)|_=>none,
  T.filterMap fun fn=>match fn.mu.fD with|2=>some (fn.id,fn.MV)|_=>none,T.filterMap fun fn=>match fn.mu.fD with|3=>some (fn.id,fn.mu.tl,fn.MW)|_=>none⟩
def au.find:List au->FuncId->Option au
 |[],_=>none
 |fn::l,f=>match Nat.beq f fn.id with
  |true=>some fn
  |false=>au.find l f
theorem au.Nc:∀{T:List au} {f:FuncId} {fn:au},au.find T f=some fn->fn.mu.fD=0->aS.find (cH T).pure f=some fn.M
 |[],f,fn,h,_=>by simp[au.find] at h
 |g::l,f,fn,h,hm=>by
  simp only[au.find] at h
  split at h
  ·rename_i e
   injection h with h
   subst h
   simp only[cH,List.filterMap_cons,hm,aS.find]
   rw[if_pos (Nat.eq_of_beq_eq_true e)]
  ·rename_i e
   have ih:aS.find (cH l).pure f=some fn.M:=au.Nc h hm
   simp only[cH,List.filterMap_cons] at ih⊢
   by_cases hg:g.mu.fD=0
   ·simp only[hg,aS.find]
    rw[if_neg (fun he=>by rw[he,Nat.beq_refl] at e;cases e)]
    exact ih
   ·split
    ·exact ih
    ·rename_i z hz
     split at hz
     ·rename_i h0;exact absurd h0 hg
     ·cases hz
theorem au.YV:∀{T:List au} {f:FuncId} {fn:au},au.find T f=some fn->fn.mu.fD=1->aS.rk (cH T).BH f=some (fn.mu,fn.MM)
 |[],f,fn,h,_=>by simp[au.find] at h
 |g::l,f,fn,h,hm=>by
  simp only[au.find] at h
  split at h
  ·rename_i e
   injection h with h
   subst h
   simp only[cH,List.filterMap_cons,hm,aS.rk]
   rw[if_pos (Nat.eq_of_beq_eq_true e)]
  ·rename_i e
   have ih:aS.rk (cH l).BH f=some (fn.mu,fn.MM):=au.YV h hm
   simp only[cH,List.filterMap_cons] at ih⊢
   by_cases hg:g.mu.fD=1
   ·simp only[hg,aS.rk]
    rw[if_neg (fun he=>by rw[he,Nat.beq_refl] at e;cases e)]
    exact ih
   ·split
    ·exact ih
    ·rename_i z hz
     split at hz
     ·rename_i h0;exact absurd h0 hg
     ·cases hz
theorem au.YW:∀{T:List au} {f:FuncId} {fn:au},au.find T f=some fn->fn.mu.fD=2->aS.j9 (cH T).vs f=some fn.MV
 |[],f,fn,h,_=>by simp[au.find] at h
 |g::l,f,fn,h,hm=>by
  simp only[au.find] at h
  split at h
  ·rename_i e
   injection h with h
   subst h
   simp only[cH,List.filterMap_cons,hm,aS.j9]
   rw[if_pos (Nat.eq_of_beq_eq_true e)]
  ·rename_i e
   have ih:aS.j9 (cH l).vs f=some fn.MV:=au.YW h hm
   simp only[cH,List.filterMap_cons] at ih⊢
   by_cases hg:g.mu.fD=2
   ·simp only[hg,aS.j9]
    rw[if_neg (fun he=>by rw[he,Nat.beq_refl] at e;cases e)]
    exact ih
   ·split
    ·exact ih
    ·rename_i z hz
     split at hz
     ·rename_i h0;exact absurd h0 hg
     ·cases hz
def vd (m:Mode) (σ:af):Nat->List TD->Option (List SC×Nat×af)
 |nm,[]=>some ([],nm,σ)
 |nm,⟨t,x⟩::cs=>match t,x with
  |.list ts,xs=>match σ.ins nm (.row true m ts xs) with
   |some σ1=>match vd m σ1 (nm+1) cs with
    |some (l,fc,σ2)=>some (.sl nm ts.length 0 (J (α:=Ty.DL ts) xs)::l,fc,σ2)
    |none=>none
   |none=>none
  |.int k,x=>match vd m σ nm cs with
   |some (l,fc,σ2)=>some (.v (.int k) x::l,fc,σ2)
   |none=>none
  |.bool,x=>match vd m σ nm cs with
   |some (l,fc,σ2)=>some (.v .bool x::l,fc,σ2)
   |none=>none
theorem Kk (m:Mode):∀{cs:List TD} {σ σ1:af} {nm fc:Nat} {l:List SC},vd m σ nm cs=some (l,fc,σ1)->
  σ.er.imp m nm (cA cs)=some (l.map SC.er,fc,σ1.er)
 |[],σ,σ1,nm,fc,l,h=>by
  simp only[vd] at h
  injection h with h
  injection h with h1 h2
  injection h2 with h2 h3
  subst h1 h2 h3
  rfl
 |⟨.list ts,xs⟩::cs,σ,σ2,nm,fc,l,h=>by
  simp only[vd] at h
  split at h
  ·rename_i σ1 e1
   split at h
   ·rename_i l' EC gD e2
    injection h with h
    injection h with h1 h2
    injection h2 with h2 h3
    subst h1 h2 h3
    have i1:σ.er.ins nm (.row true m ts.length (List.map (Ty.aJ ts) xs))=some σ1.er:=af.sH e1
    have i2:=Kk m e2
    simp only[cA] at i2
    simp only[cA,List.map_cons,Ty.er,St.imp,i1,i2,SC.er]
    exact congrArg (fun q=>some (ah.sl nm ts.length 0 q::List.map SC.er l',EC,gD.er)) (List.length_map (Ty.aJ ts))
   ·cases h
  ·cases h
 |⟨.int k,x⟩::cs,σ,σ2,nm,fc,l,h=>by
  simp only[vd] at h
  split at h
  ·rename_i l' EC gD e2
   injection h with h
   injection h with h1 h2
   injection h2 with h2 h3
   subst h1 h2 h3
   have i2:=Kk m e2
   simp only[cA] at i2
   simp only[cA,List.map_cons,Ty.er,St.imp,i2,SC.er]
  ·cases h
 |⟨.bool,x⟩::cs,σ,σ2,nm,fc,l,h=>by
  simp only[vd] at h
  split at h
  ·rename_i l' EC gD e2
   injection h with h
   injection h with h1 h2
   injection h2 with h2 h3
   subst h1 h2 h3
   have i2:=Kk m e2
   simp only[cA] at i2
   simp only[cA,List.map_cons,Ty.er,St.imp,i2,SC.er]
  ·cases h
def K.isAgg:K->Bool
 |.agg=>true
 |_=>false
def K.ta:K->Bool
 |.ptr=>true
 |_=>false
def Ce (m:Mode) (σ:af):Nat->List bM->Option (List (Bool×List SC)×af)
 |_,[]=>some ([],σ)
 |nm,(k,cs)::ds=>match k.ta with
  |true=>none
  |false=>match vd m σ nm cs with
   |some (l,fc,σ1)=>match Ce m σ1 fc ds with
    |some (ls,σ2)=>some ((k.isAgg,l)::ls,σ2)
    |none=>none
   |none=>none
theorem VB (m:Mode):∀{ds:List bM} {σ σ1:af} {nm:Nat} {ls:List (Bool×List SC)},Ce m σ nm ds=some (ls,σ1)->
  σ.er.jt m nm (ds.map bM.er)=some (ls.map (fun x=>(x.1,x.2.map SC.er)),σ1.er)
 |[],σ,σ1,nm,ls,h=>by
  simp only[Ce] at h
  injection h with h
  injection h with h1 h2
  subst h1 h2
  rfl
 |(k,cs)::ds,σ,σ2,nm,ls,h=>by
  simp only[Ce] at h
  split at h
  ·cases h
  ·rename_i hk
   split at h
   ·rename_i l fc σ1 e1
    split at h
    ·rename_i y4 gD e2
     injection h with h
     injection h with h1 h2
     subst h1 h2
     have i1:=Kk m e1
     have i2:=VB m e2
     have i2':σ1.er.jt m fc (List.map bM.er ds)=some (y4.map (fun x=>(x.1,x.2.map SC.er)),gD.er):=i2
     cases k with
     |ptr=>cases hk
     |one=>simp only[List.map_cons,bM.er,St.jt,i1,i2'];rfl
     |agg=>simp only[List.map_cons,bM.er,St.jt,i1,i2'];rfl
    ·cases h
   ·cases h
def Cq:List (Bool×List SC)->SV
 |[(ag,cs)]=>zw ag cs
 |l=>.bo l
theorem Fl (l:List (Bool×List SC)):(Cq l).er=kQ (l.map fun x=>(x.1,x.2.map SC.er)):=by
 match l with
 |[]=>rfl
 |[(ag,cs)]=>exact Cu ag cs
 |_::_::_=>rfl
section
variable {ρ:Type}
def Kf (T:List au) (m:Mode) (d:Option Nat) (f:FuncId) (as:List SV) (σ:af) (k:af->Option ρ):Option ρ:=
 match au.find T f with
 |some fn=>match fn.mu.fD with
  |0=>Fv σ.h as fun ds=>match n7 fn.args ds with
   |some x=>(fn.F x).U fun rs=>match Ce m σ (y8 d) (kC fn.aA rs) with
    |some (ls,σ1)=>k (σ1.put d (Cq ls))
    |none=>none
   |none=>none
  |_=>none
 |none=>none
theorem acD {T:List au} {m:Mode} {d:Option Nat} {f:FuncId} {as:List SV} {σ:af} {k:af->Option ρ} {r:ρ} (h:Kf T m d f as σ k=some r):
  ∃σ1:af,rb (cH T) m d f (as.map SV.er) σ.er=some σ1.er/\k σ1=some r:=by
 unfold Kf at h
 split at h
 ·rename_i fn hf
  split at h
  ·rename_i wh
   obtain⟨ds,h1,h2⟩:=Wg h
   split at h2
   ·rename_i x hx
    rw[eH] at h2
    obtain⟨rs,hF,h2⟩:=h2
    split at h2
    ·rename_i ls σ1 hs
     refine⟨_,?_,h2⟩
     have e:=VB m hs
     rw[vN] at e
     have hv:kw σ.er.h (as.map SV.er)=some (ds.map bM.er):=h1
     simp only[rb,hv,au.Nc hf wh,tj hx,au.xQ,hF,Option.map_some,e,af.dn,Fl]
    ·cases h2
   ·cases h2
  ·cases h
 ·cases h
def zo:List bM->Option (List (Bool×List SC))
 |[]=>some []
 |(k,cs)::ds=>match k.ta with
  |true=>none
  |false=>match zo ds with
   |some ls=>some ((k.isAgg,cs.map fun x=>SC.v x.1 x.2)::ls)
   |none=>none
theorem Ke:∀{ds:List bM} {ls:List (Bool×List SC)},zo ds=some ls->gj (ds.map bM.er)=some (ls.map fun x=>(x.1,x.2.map SC.er))
 |[],ls,h=>by simp only[zo] at h;injection h with h;subst h;rfl
 |(k,cs)::ds,ls,h=>by
  simp only[zo] at h
  split at h
  ·cases h
  ·rename_i hk
   split at h
   ·rename_i y4 e
    injection h with h
    subst h
    have i2:=Ke e
    have ec:(cA cs).map ah.c=(cs.map fun x=>SC.v x.1 x.2).map SC.er:=by simp[cA,SC.er]
    cases k with
    |ptr=>cases hk
    |one=>simp only[List.map_cons,bM.er,gj];rw[show gj (List.map bM.er ds)=_ from i2];simp only;rw[ec];rfl
    |agg=>simp only[List.map_cons,bM.er,gj];rw[show gj (List.map bM.er ds)=_ from i2];simp only;rw[ec];rfl
   ·cases h
def Vt (T:List au) (d:Option Nat) (f:FuncId) (as:List SV) (σ:af) (k:af->Option ρ):Option ρ:=
 match au.find T f with
 |some fn=>match fn.mu.fD with
  |0=>Fv σ.h as fun ds=>match n7 fn.args ds with
   |some x=>(fn.F x).U fun rs=>match zo (kC fn.aA rs) with
    |some ls=>k (σ.put d (Cq ls))
    |none=>none
   |none=>none
  |_=>none
 |none=>none
theorem apv {T:List au} {d:Option Nat} {f:FuncId} {as:List SV} {σ:af} {k:af->Option ρ} {r:ρ} (h:Vt T d f as σ k=some r):
  ∃v:SV,tQ (cH T) f (as.map SV.er) σ.er.h=some v.er/\k (σ.put d v)=some r:=by
 unfold Vt at h
 split at h
 ·rename_i fn hf
  split at h
  ·rename_i wh
   obtain⟨ds,h1,h2⟩:=Wg h
   split at h2
   ·rename_i x hx
    rw[eH] at h2
    obtain⟨rs,hF,h2⟩:=h2
    split at h2
    ·rename_i ls hs
     refine⟨_,?_,h2⟩
     have e:=Ke hs
     rw[vN] at e
     have hv:kw σ.er.h (as.map SV.er)=some (ds.map bM.er):=h1
     simp only[tQ,hv,au.Nc hf wh,tj hx,au.xQ,hF,Option.map_some,e,Fl]
    ·cases h2
   ·cases h2
  ·cases h
 ·cases h
def Ty.sE:Ty->Bool
 |.list ts=>Ty.fq ts
 |_=>true
def Wu:Mode->List Ty->Bool
 |.ab,ts=>Ty.fq ts
 |.live,ts=>ts.all Ty.sE
 |.aO,_=>false
theorem zm (ts:List Ty) (xs:List (Ty.DL ts)) (h:Ty.fq ts=true):fQ (List.map (Ty.aJ ts) xs)=true:=by
 simp only[fQ,List.all_eq_true,List.mem_map]
 rintro e ⟨x,_,rfl⟩
 rw[Ty.Kc];exact h
theorem X9 (t:Ty) (x:t.D) (h:Ty.sE t=true):C.sE (t.er x)=true:=by
 cases t with
 |int k=>rfl
 |bool=>rfl
 |list ts=>exact zm ts x h
theorem X8:∀(ts:List Ty) (x:Ty.DL ts),ts.all Ty.sE=true->(Ty.aJ ts x).all C.sE=true
 |[],_,_=>rfl
 |[t],x,h=>by
  simp only[List.all_cons,List.all_nil,Bool.and_true] at h
  simp only[Ty.aJ,List.all_cons,List.all_nil,Bool.and_true]
  exact X9 t x h
 |t::u::ts,x,h=>by
  simp only[List.all_cons (a:=t),Bool.and_eq_true] at h
  simp only[Ty.aJ,List.all_cons (a:=Ty.er t x.1),Bool.and_eq_true]
  exact⟨X9 t x.1 h.1,X8 (u::ts) x.2 h.2⟩
theorem Y0 (m:Mode) (ts:List Ty) (xs:List (Ty.DL ts)) (h:Wu m ts=true):sJ m (List.map (Ty.aJ ts) xs)=true:=by
 cases m with
 |aO=>cases h
 |ab=>exact zm ts xs h
 |live=>
  simp only[sJ,List.all_eq_true,List.mem_map]
  rintro e ⟨x,_,rfl⟩
  have:=X8 ts x h
  simpa[List.all_eq_true] using this
def Mode.P3:Mode->Bool
 |.live=>true
 |_=>false
def Mode.aav:Mode->Bool
 |.ab=>true
 |_=>false
def VL (h:Nat->Option SB) (md:Mode) (c:SC) (k:cI->(t:Ty)->t.D->Option ρ):Option ρ:=
 match c with
 |.nil ts=>match ts with
  |[]=>none
  |t::us=>eP md.own (k (.nil (us.length+1)) (.list (t::us)) ([]:List (Ty.DL (t::us))))
 |.sl n sz lo len=>match h n with
  |some (.row _ m ts xs)=>eP (m.own&&((!md.P3||m.P3)&&Wu md ts)) (cG ts.length sz ((ae lo len (J xs)).U fun _=>k (.row n) (.list ts) xs))
  |_=>none
 |.bx n kk aD off sz len=>match h n with
  |some (.row _ .live ts xs)=>eP md.aav (cG ts.length aD ((bY xs kk).U fun e=>match(Ty.gW ts e)[off]? with
   |some ⟨.list us,ys⟩=>eP (Ty.fq us) (k (.nest n kk off) (.list us) ys)
   |_=>none))
  |_=>none
 |_=>none
theorem apM {h:Nat->Option SB} {md:Mode} {c:SC} {k:cI->(t:Ty)->t.D->Option ρ} {r:ρ} (hx:VL h md c k=some r):
  ∃(it:cI) (t:Ty) (x:t.D),rQ (cR h) md c.er=some (it,t.er x)/\k it t x=some r:=by
 unfold VL at hx
 split at hx
 ·split at hx
  ·cases hx
  ·rename_i t us
   have hm:=(bZ hx).1;replace hx:=(bZ hx).2
   refine⟨_,.list (t::us),[],?_,hx⟩
   have bI:md≠ .aO:=by rintro rfl;cases hm
   simp[SC.er,rQ,Ty.er,bI]
 ·rename_i n sz lo len
  split at hx
  ·rename_i gr m ts xs hn
   have hm:=(bZ hx).1;replace hx:=(bZ hx).2
   have br:=(bc hx).1;replace hx:=(bc hx).2;subst br
   rw[eH] at hx
   obtain⟨_,hf,hx⟩:=hx
   have OW:lo=0/\len=J xs:=by
    unfold ae at hf
    split at hf
    ·assumption
    ·cases hf
   obtain⟨rfl,rfl⟩:=OW
   simp only[Bool.and_eq_true] at hm
   have bI:m≠ .aO:=by rintro rfl;cases hm.1
   have sR:md=.live->m=.live:=by
    rintro rfl
    have:=hm.2.1
    cases m<;>first|rfl|(simp[Mode.P3] at this)
   refine⟨_,.list ts,xs,?_,hx⟩
   simp only[SC.er,rQ,cR,hn,Option.map_some,SB.er,Ty.er]
   rw[if_pos ⟨bI,sR,trivial,trivial,(List.length_map (Ty.aJ ts)).symm,Y0 md ts xs hm.2.2⟩]
  ·cases hx
 ·rename_i n kk aD off sz len
  split at hx
  ·rename_i gr ts xs hn
   have hm:=(bZ hx).1;replace hx:=(bZ hx).2
   have br:=(bc hx).1;replace hx:=(bc hx).2;subst br
   rw[eH] at hx
   obtain⟨e,he,hx⟩:=hx
   replace he:xs[kk]? =some e:=he
   split at hx
   ·rename_i us ys hd
    have hs:=(bZ hx).1;replace hx:=(bZ hx).2
    refine⟨_,.list us,ys,?_,hx⟩
    have I2:md=.ab:=by cases md<;>first|rfl|(simp[Mode.aav] at hm)
    have nc:=MX hd
    simp only[SC.er,rQ,cR,hn,Option.map_some,SB.er,List.getElem?_map,he,Option.bind_some,nc,Ty.er,I2,and_self,if_true]
    rw[if_pos (zm us ys hs)]
   ·cases hx
  ·cases hx
 ·cases hx
def SC.nm:SC->List Nat
 |.sl n _ _ _=>[n]
 |.bx n _ _ _ _ _=>[n]
 |_=>[]
theorem SC.ank (c:SC):c.er.dB.toList=c.nm:=by cases c<;>rfl
def Ci:List (Option Mode)->List SC->List Nat
 |some _::fs,c::cs=>c.nm++Ci fs cs
 |none::fs,_::cs=>Ci fs cs
 |_,_=>[]
theorem VN:∀(fs:List (Option Mode)) (cs:List SC),mQ fs (cs.map SC.er)=Ci fs cs
 |some m::fs,c::cs=>by simp only[List.map_cons,mQ,Ci,SC.ank,VN fs cs]
 |none::fs,c::cs=>by simp only[List.map_cons,mQ,Ci,VN fs cs]
 |[],cs=>by cases cs<;>rfl
 |some m::fs,[]=>rfl
 |none::fs,[]=>rfl
def Cj:aN->List (Bool×List SC)->List Nat
 |s::sig,a::as=>Ci s a.2++Cj sig as
 |_,_=>[]
theorem VM:∀(sig:aN) (as:List (Bool×List SC)),jW sig (as.map fun x=>(x.1,x.2.map SC.er))=Cj sig as
 |s::sig,a::as=>by simp only[List.map_cons,jW,Cj,VN,VM sig as]
 |[],as=>by cases as<;>rfl
 |s::sig,[]=>rfl
def Kj (h:Nat->Option SB) (ns:List Nat):Nat->Option SB:=fun n=>match ns.contains n with|true=>none|false=>h n
theorem acK (h:Nat->Option SB) (ns:List Nat):cR (Kj h ns)=dJ (cR h) ns:=by
 funext n
 simp only[cR,Kj,dJ]
 cases hc:ns.contains n<;>simp[hc]
def ve (h h0:Nat->Option SB):List (Option Mode)->List SC->(List TD->List (cI×Mode)->Option ρ)->Option ρ
 |[],cs,k=>zv h0 cs fun l=>k l []
 |none::fs,c::cs,k=>xr h0 c fun t x=>ve h h0 fs cs fun l its=>k (⟨t,x⟩::l) its
 |some md::fs,c::cs,k=>VL h md c fun it t x=>ve h h0 fs cs fun l its=>k (⟨t,x⟩::l) ((it,md)::its)
 |_::_,[],_=>none
theorem VK {h h0:Nat->Option SB}:∀{fs:List (Option Mode)} {cs:List SC} {k:List TD->List (cI×Mode)->Option ρ} {r:ρ},ve h h0 fs cs k=some r->
  ∃l its,jA (cR h) (cR h0) fs (cs.map SC.er)=some (cA l,its)/\k l its=some r
 |[],cs,k,r,hx=>by
  simp only[ve] at hx
  obtain⟨l,h1,h2⟩:=Fw hx
  exact⟨l,[],by simp only[jA,h1],h2⟩
 |none::fs,c::cs,k,r,hx=>by
  simp only[ve] at hx
  obtain⟨t,x,h1,h2⟩:=Ct hx
  obtain⟨l,its,h3,h4⟩:=VK h2
  exact⟨⟨t,x⟩::l,its,by simp only[List.map_cons,jA,h1,h3,cA],h4⟩
 |some md::fs,c::cs,k,r,hx=>by
  simp only[ve] at hx
  obtain⟨it,t,x,h1,h2⟩:=apM hx
  obtain⟨l,its,h3,h4⟩:=VK h2
  exact⟨⟨t,x⟩::l,(it,md)::its,by simp only[List.map_cons,jA,h1,h3,cA],h4⟩
 |none::fs,[],k,r,hx=>by simp[ve] at hx
 |some md::fs,[],k,r,hx=>by simp[ve] at hx
def Jm:Bool->K
 |true=>.agg
 |false=>.one
def Fg (h h0:Nat->Option SB):aN->List (Bool×List SC)->(List bM->List (cI×Mode)->Option ρ)->Option ρ
 |_,[],k=>k [] []
 |sig,(ag,cs)::as,k=>ve h h0 sig.hd cs fun l its=>Fg h h0 sig.tl as fun ds uS=>k ((Jm ag,l)::ds) (its++uS)
theorem VO {h h0:Nat->Option SB}:∀{as:List (Bool×List SC)} {sig:aN} {k:List bM->List (cI×Mode)->Option ρ} {r:ρ},Fg h h0 sig as k=some r->
  ∃ds its,kO (cR h) (cR h0) sig (as.map fun x=>(x.1,x.2.map SC.er))=some (ds.map bM.er,its)/\k ds its=some r
 |[],sig,k,r,hx=>⟨[],[],by simp only[List.map_nil,kO],hx⟩
 |(ag,cs)::as,sig,k,r,hx=>by
  simp only[Fg] at hx
  obtain⟨l,its,h1,h2⟩:=VK hx
  obtain⟨ds,uS,h3,h4⟩:=VO h2
  refine⟨_,_,?_,h4⟩
  simp only[List.map_cons,kO,h1,h3,bM.er]
  cases ag<;>rfl
def Ch:List SV->Option (List (Bool×List SC))
 |[]=>some []
 |v::vs=>match v.cells?,Ch vs with
  |some x,some xs=>some (x::xs)
  |_,_=>none
theorem VG:∀{as:List SV} {dq:List (Bool×List SC)},Ch as=some dq->o8 (as.map SV.er)=some (dq.map fun x=>(x.1,x.2.map SC.er))
 |[],dq,h=>by simp only[Ch] at h;injection h with h;subst h;rfl
 |v::vs,dq,h=>by
  simp only[Ch] at h
  split at h
  ·rename_i x xs e1 e2
   injection h with h
   subst h
   obtain⟨b,cs⟩:=x
   simp only[List.map_cons,o8,SV.lx e1,VG e2]
  ·cases h
def Kg (ts:List Ty) (e:Ty.DL ts) (off:Nat) (x:TD):Option (Ty.DL ts):=qA ts ((Ty.gW ts e).set off x)
theorem acF {ts:List Ty} {e e':Ty.DL ts} {off:Nat} {x:TD} (h:Kg ts e off x=some e'):Ty.aJ ts e'=(Ty.aJ ts e).set off (x.1.er x.2):=by
 have:=wS h
 rw[this,cA,List.map_set,<-Ty.pN ts e]
 rfl
def VT (σ:af) (it:cI) (x:TD) (k:af->Option ρ):Option ρ:=
 match it with
 |.nil _=>k σ
 |.row n=>match x with
  |⟨.list ts,xs⟩=>match σ.h n with
   |some (.row gr m us _)=>cG us.length ts.length (k (σ.du n (.row gr m ts xs)))
   |_=>none
  |_=>none
 |.nest n kk off=>match σ.h n with
  |some (.row gr m us xs)=>(bY xs kk).U fun e=>match Kg us e off x with
   |some e'=>k (σ.du n (.row gr m us (bg xs kk e')))
   |none=>none
  |_=>none
theorem apX {σ:af} {it:cI} {x:TD} {k:af->Option ρ} {r:ρ} (hx:VT σ it x k=some r):∃σ1,σ.er.nr it (x.1.er x.2)=some σ1.er/\k σ1=some r:=by
 unfold VT at hx
 split at hx
 ·exact⟨σ,rfl,hx⟩
 ·rename_i n
  split at hx
  ·rename_i ts xs
   split at hx
   ·rename_i gr m us ys hn
    have br:=(bc hx).1;replace hx:=(bc hx).2
    refine⟨_,?_,hx⟩
    have bk:σ.er.h n=some (.row gr m us.length (List.map (Ty.aJ us) ys)):=by simp[af.er,cR,hn,SB.er]
    simp only[St.nr,Ty.er,bk,br,if_true,af.oJ,SB.er]
   ·cases hx
  ·cases hx
 ·rename_i n kk off
  split at hx
  ·rename_i gr m us xs hn
   rw[eH] at hx
   obtain⟨e,he,hx⟩:=hx
   replace he:xs[kk]? =some e:=he
   split at hx
   ·rename_i e' hs
    refine⟨_,?_,hx⟩
    have bk:σ.er.h n=some (.row gr m us.length (List.map (Ty.aJ us) xs)):=by simp[af.er,cR,hn,SB.er]
    simp only[St.nr,bk,List.getElem?_map,he,Option.map_some,af.oJ,SB.er,bg,List.map_set,acF hs]
   ·cases hx
  ·cases hx
def Co (σ:af):List (cI×Mode)->List TD->(af->Option ρ)->Option ρ
 |[],[],k=>k σ
 |it::its,x::xs,k=>VT σ it.1 x fun σ1=>Co σ1 its xs k
 |_,_,_=>none
theorem adf:∀{its:List (cI×Mode)} {xs:List TD} {σ:af} {k:af->Option ρ} {r:ρ},Co σ its xs k=some r->∃σ1,σ.er.pw its (cA xs)=some σ1.er/\k σ1=some r
 |[],[],σ,k,r,hx=>⟨σ,rfl,hx⟩
 |it::its,x::xs,σ,k,r,hx=>by
  simp only[Co] at hx
  obtain⟨σ1,h1,h2⟩:=apX hx
  obtain⟨σ2,h3,h4⟩:=adf h2
  refine⟨σ2,?_,h4⟩
  simp only[cA] at h3
  simp only[cA,List.map_cons,St.pw,h1,h3]
 |[],_::_,σ,k,r,hx=>by simp[Co] at hx
 |_::_,[],σ,k,r,hx=>by simp[Co] at hx
def JP:List Nat->Bool
 |[]=>true
 |n::l=> !(l.contains n)&&JP l
theorem abm:∀{l:List Nat},JP l=true->l.Nodup
 |[],_=>List.nodup_nil
 |n::l,h=>by
  simp only[JP,Bool.and_eq_true,Bool.not_eq_true'] at h
  rw[List.nodup_cons]
  refine⟨fun hm=>?_,abm h.2⟩
  have:l.contains n=true:=by simpa using hm
  rw[this] at h
  cases h.1
def Vu (T:List au) (m:Mode) (d:Option Nat) (f:FuncId) (as:List SV) (σ:af) (k:af->Option ρ):Option ρ:=
 match au.find T f with
 |some fn=>match fn.mu.fD with
  |1=>match Ch as with
   |some dq=>eP (JP (Cj fn.mu dq)) (Fg σ.h (Kj σ.h (Cj fn.mu dq)) fn.mu dq fun ds its=>match n7 fn.args ds with
    |some x=>(fn.F x).U fun y=>Co σ its (((kC fn.aA y).drop (fn.aA.length - fn.mu.bA)).flatMap (·.2)) fun σ1=>match Ce m σ1 (y8 d) ((kC fn.aA y).take (fn.aA.length - fn.mu.bA)) with
     |some (ls,σ2)=>k (σ2.put d (Cq ls))
     |none=>none
    |none=>none)
   |none=>none
  |_=>none
 |none=>none
theorem Fj (k:Nat) (l:List bM):xn k (l.map bM.er)=((l.take k).map bM.er,cA ((l.drop k).flatMap (·.2))):=by
 simp only[xn,<-List.map_take,<-List.map_drop]
 congr 1
 induction l.drop k with
 |nil=>rfl
 |cons d l ih=>
  simp only[List.map_cons,List.flatMap_cons,ih,cA,List.map_append,bM.er]
theorem apw {T:List au} {m:Mode} {d:Option Nat} {f:FuncId} {as:List SV} {σ:af} {k:af->Option ρ} {r:ρ} (h:Vu T m d f as σ k=some r):
  ∃σ1:af,tV (cH T) m d f (as.map SV.er) σ.er=some σ1.er/\k σ1=some r:=by
 unfold Vu at h
 split at h
 ·rename_i fn hf
  split at h
  ·rename_i wh
   split at h
   ·rename_i dq hc
    have gb:=abm (bZ h).1;replace h:=(bZ h).2
    obtain⟨ds,its,h1,h2⟩:=VO h
    split at h2
    ·rename_i x hx
     rw[eH] at h2
     obtain⟨y,hF,h2⟩:=h2
     obtain⟨σ1,h3,h4⟩:=adf h2
     split at h4
     ·rename_i ls σ2 hs
      refine⟨_,?_,h4⟩
      have e:=VB m hs
      have hM:fn.MM (c6 fn.args x)=some (((kC fn.aA y).take (fn.aA.length - fn.mu.bA)).map bM.er,cA (((kC fn.aA y).drop (fn.aA.length - fn.mu.bA)).flatMap (·.2))):=by
       unfold au.MM
       rw[au.xQ,hF]
       simp only[Option.map_some]
       rw[<-vN,Fj]
      have hh:σ.er.h=cR σ.h:=rfl
      rw[acK] at h1
      simp only[tV,au.YV hf wh,VG hc,VM,if_pos gb,hh,h1,tj hx,hM,h3,e,af.dn,Fl]
     ·cases h4
    ·cases h2
   ·cases h
  ·cases h
 ·cases h
def xk:List SC->Option (List TD)
 |[]=>some []
 |.v t x::cs=>match xk cs with
  |some l=>some (⟨t,x⟩::l)
  |none=>none
 |.nil (t::us)::cs=>match xk cs with
  |some l=>some (⟨.list (t::us),([]:List (Ty.DL (t::us)))⟩::l)
  |none=>none
 |_::_=>none
theorem E8:∀{cs:List SC} {l:List TD},xk cs=some l->jr (cs.map SC.er)=some (cA l)
 |[],l,h=>by simp only[xk] at h;injection h with h;subst h;rfl
 |c::cs,l,h=>by
  unfold xk at h
  split at h
  ·rename_i e;cases e
  ·rename_i t x cs' e
   injection e with e1 e2
   subst e1 e2
   split at h
   ·rename_i l' e
    injection h with h
    subst h
    simp only[List.map_cons,jr,SC.er,nW,E8 e,cA]
   ·cases h
  ·rename_i t us cs' e
   injection e with e1 e2
   subst e1 e2
   split at h
   ·rename_i l' e
    injection h with h
    subst h
    simp[jr,SC.er,nW,E8 e,cA,Ty.er]
   ·cases h
  ·cases h
def J9 (h:Nat->Option SB) (n kk off:Nat):Option (List TD):=
 match kk,off with
 |0,0=>match h n with
  |some (.box cs)=>xk cs
  |_=>none
 |_,_=>none
theorem acs {h:Nat->Option SB} {n kk sz off:Nat} {l:List TD} (e:J9 h n kk off=some l):lr (cR h) (SV.er (.one (.ptr n kk sz off)))=some (n,cA l):=by
 unfold J9 at e
 split at e
 ·split at e
  ·rename_i cs hn
   simp[SV.er,SC.er,lr,cR,hn,SB.er,E8 e]
  ·cases e
 ·cases e
def SV.pu:SV->Option (Nat×Nat×Nat)
 |.one (.ptr n kk _ off)=>some (n,kk,off)
 |_=>none
theorem abO {v:SV} (h:v.pu=none) (hh:Nat->Option aq):lr hh v.er=none:=by
 cases v with
 |one c=>cases c<;>first|rfl|(simp[SV.pu] at h)
 |agg cs=>rfl
 |bo xs=>rfl
theorem abP {v:SV} {n kk off:Nat} (h:v.pu=some (n,kk,off)):∃sz,v=.one (.ptr n kk sz off):=by
 cases v with
 |one c=>cases c<;>simp[SV.pu] at h;obtain⟨rfl,rfl,rfl⟩:=h;exact⟨_,rfl⟩
 |agg cs=>simp[SV.pu] at h
 |bo xs=>simp[SV.pu] at h
def E5 (σ:af):List SV->(List bM->List Nat->af->Option ρ)->Option ρ
 |[],k=>k [] [] σ
 |v::vs,k=>match v.pu with
  |some (n,kk,off)=>match J9 σ.h n kk off with
   |some l=>E5 σ vs fun ds ns σ1=>k ((.ptr,l)::ds) (n::ns) σ1
   |none=>none
  |none=>match v.cells? with
   |some (ag,cs)=>zt σ cs fun l _ σ1=>E5 σ1 vs fun ds ns σ2=>k ((Jm ag,l)::ds) ns σ2
   |none=>none
theorem T7:∀{vs:List SV} {σ:af} {k:List bM->List Nat->af->Option ρ} {r:ρ},E5 σ vs k=some r->
  ∃ds ns σ1,σ.er.gF (vs.map SV.er)=some (ds.map bM.er,ns,σ1.er)/\k ds ns σ1=some r
 |[],σ,k,r,h=>⟨[],[],σ,rfl,h⟩
 |v::vs,σ,k,r,h=>by
  simp only[E5] at h
  split at h
  ·rename_i n kk off hv
   obtain⟨sz,rfl⟩:=abP hv
   split at h
   ·rename_i l hl
    obtain⟨ds,ns,σ1,h1,h2⟩:=T7 h
    refine⟨_,_,σ1,?_,h2⟩
    have:=acs (sz:=sz) hl
    have hh:σ.er.h=cR σ.h:=rfl
    simp only[List.map_cons,St.gF,hh,this,h1,bM.er]
   ·cases h
  ·rename_i hv
   split at h
   ·rename_i ag cs hc
    obtain⟨l,o,σ1,h1,h2⟩:=Fs h
    obtain⟨ds,ns,σ2,h3,h4⟩:=T7 h2
    refine⟨_,_,σ2,?_,h4⟩
    simp only[List.map_cons,St.gF,abO hv,SV.lx hc,h1,h3,bM.er]
    cases ag<;>rfl
   ·cases h
def VS (σ:af) (ns:List Nat) (out:List TD) (k:af->Option ρ):Option ρ:=
 match ns,out with
 |[],[]=>k σ
 |[n],out=>match σ.h n with
  |some (.box cs)=>cG cs.length out.length (k (σ.du n (.box (out.map fun x=>.v x.1 x.2))))
  |_=>none
 |_,_=>none
theorem KL (out:List TD):(out.map fun x=>SC.v x.1 x.2).map SC.er=(cA out).map .c:=by simp[cA,SC.er]
theorem apW {σ:af} {ns:List Nat} {out:List TD} {k:af->Option ρ} {r:ρ} (h:VS σ ns out k=some r):∃σ1,σ.er.qF ns (cA out)=some σ1.er/\k σ1=some r:=by
 unfold VS at h
 split at h
 ·exact⟨σ,rfl,h⟩
 ·rename_i n
  split at h
  ·rename_i cs hn
   have he:=(bc h).1;replace h:=(bc h).2
   refine⟨_,?_,h⟩
   have bk:σ.er.h n=some (.box (cs.map SC.er)):=by simp[af.er,cR,hn,SB.er]
   simp only[St.qF,bk,List.length_map]
   rw[if_pos (by rw[he,cA,List.length_map]),af.oJ,SB.er,KL]
  ·cases h
 ·cases h
def bM.pu:List bM->Option (List TD)
 |[(.ptr,cs)]=>some cs
 |_=>none
theorem apz {rs:List bM} {cs:List TD} (h:bM.pu rs=some cs):rs=[(.ptr,cs)]:=by
 unfold bM.pu at h
 split at h
 ·injection h with h;rw[h]
 ·cases h
def T8 (σ:af) (d:Option Nat) (rs:List bM) (k:af->Option ρ):Option ρ:=
 match bM.pu rs with
 |some cs=>match d with
  |some q=>match σ.ins q (.box (cs.map fun x=>.v x.1 x.2)) with
   |some σ1=>k (σ1.put d (.one (.ptr q 0 0 0)))
   |none=>none
  |none=>none
 |none=>match zo rs with
  |some ls=>k (σ.put d (Cq ls))
  |none=>none
theorem apq {σ:af} {d:Option Nat} {rs:List bM} {k:af->Option ρ} {r:ρ} (h:T8 σ d rs k=some r):∃σ1,pK σ.er d (rs.map bM.er)=some σ1.er/\k σ1=some r:=by
 unfold T8 at h
 split at h
 ·rename_i cs hp
  have:=apz hp
  subst this
  split at h
  ·rename_i q
   split at h
   ·rename_i σ1 hi
    refine⟨_,?_,h⟩
    have e:=af.sH hi
    rw[SB.er,KL] at e
    simp only[List.map_cons,List.map_nil,bM.er,pK,e,af.dn]
    rfl
   ·cases h
  ·cases h
 ·split at h
  ·rename_i ls hs
   refine⟨_,?_,h⟩
   have e:=Ke hs
   have hb:pK σ.er d (rs.map bM.er)=match gj (rs.map bM.er) with
     |some ls=>some (σ.er.put d (kQ ls))
     |none=>none:=by
    unfold pK
    split
    ·rename_i cs he
     rw[he] at e
     simp[gj] at e
    ·rfl
   rw[hb,e,af.dn,Fl]
  ·cases h
def Vs (T:List au) (d:Option Nat) (f:FuncId) (as:List SV) (σ:af) (k:af->Option ρ):Option ρ:=
 match au.find T f with
 |some fn=>match fn.mu.fD with
  |2=>E5 σ as fun ds ns σ1=>match n7 fn.args ds with
   |some x=>(fn.F x).U fun y=>VS σ1 ns (((kC fn.aA y).drop (fn.aA.length - pi fn.args)).flatMap (·.2)) fun σ2=>T8 σ2 d ((kC fn.aA y).take (fn.aA.length - pi fn.args)) k
   |none=>none
  |_=>none
 |none=>none
theorem apu {T:List au} {d:Option Nat} {f:FuncId} {as:List SV} {σ:af} {k:af->Option ρ} {r:ρ} (h:Vs T d f as σ k=some r):
  ∃σ1:af,pQ (cH T) d f (as.map SV.er) σ.er=some σ1.er/\k σ1=some r:=by
 unfold Vs at h
 split at h
 ·rename_i fn hf
  split at h
  ·rename_i wh
   obtain⟨ds,ns,σ1,h1,h2⟩:=T7 h
   split at h2
   ·rename_i x hx
    rw[eH] at h2
    obtain⟨y,hF,h2⟩:=h2
    obtain⟨σ2,h3,h4⟩:=apW h2
    obtain⟨gD,h5,h6⟩:=apq h4
    refine⟨gD,?_,h6⟩
    have hM:fn.MV (c6 fn.args x)=some (((kC fn.aA y).take (fn.aA.length - pi fn.args)).map bM.er,cA (((kC fn.aA y).drop (fn.aA.length - pi fn.args)).flatMap (·.2))):=by
     unfold au.MV
     rw[au.xQ,hF]
     simp only[Option.map_some]
     rw[<-vN,Fj]
    simp only[pQ,h1,au.YW hf wh,tj hx,hM,h3,h5]
   ·cases h2
  ·cases h
 ·cases h
def au.t8 (k:Nat):List au->FuncId->Option au
 |[],_=>none
 |fn::l,f=>match Nat.beq f fn.id&&Nat.beq fn.mu.fD k with
  |true=>some fn
  |false=>au.t8 k l f
theorem au.YT:∀{T:List au} {f:FuncId} {fn:au},au.t8 2 T f=some fn->aS.j9 (cH T).vs f=some fn.MV
 |[],f,fn,h=>by simp[au.t8] at h
 |g::l,f,fn,h=>by
  simp only[au.t8] at h
  split at h
  ·rename_i e
   injection h with h
   subst h
   rw[Bool.and_eq_true] at e
   have hm:=Nat.eq_of_beq_eq_true e.2
   simp only[cH,List.filterMap_cons,hm,aS.j9]
   rw[if_pos (Nat.eq_of_beq_eq_true e.1)]
  ·rename_i e
   have ih:aS.j9 (cH l).vs f=some fn.MV:=au.YT h
   simp only[cH,List.filterMap_cons] at ih⊢
   by_cases hg:g.mu.fD=2
   ·simp only[hg,aS.j9]
    rw[if_neg (fun he=>by rw[he,hg,Nat.beq_refl] at e;cases e)]
    exact ih
   ·split
    ·exact ih
    ·rename_i z hz
     split at hz
     ·rename_i h0;exact absurd h0 hg
     ·cases hz
theorem au.YU:∀{T:List au} {f:FuncId} {fn:au},au.t8 3 T f=some fn->aS.rl (cH T).ws f=some (fn.mu.tl,fn.MW)
 |[],f,fn,h=>by simp[au.t8] at h
 |g::l,f,fn,h=>by
  simp only[au.t8] at h
  split at h
  ·rename_i e
   injection h with h
   subst h
   rw[Bool.and_eq_true] at e
   have hm:=Nat.eq_of_beq_eq_true e.2
   simp only[cH,List.filterMap_cons,hm,aS.rl]
   rw[if_pos (Nat.eq_of_beq_eq_true e.1)]
  ·rename_i e
   have ih:aS.rl (cH l).ws f=some (fn.mu.tl,fn.MW):=au.YU h
   simp only[cH,List.filterMap_cons] at ih⊢
   by_cases hg:g.mu.fD=3
   ·simp only[hg,aS.rl]
    rw[if_neg (fun he=>by rw[he,hg,Nat.beq_refl] at e;cases e)]
    exact ih
   ·split
    ·exact ih
    ·rename_i z hz
     split at hz
     ·rename_i h0;exact absurd h0 hg
     ·cases hz
def Fk:List SV->Option (List bM)
 |[]=>some []
 |v::vs=>match v.cells? with
  |some (ag,cs)=>match xk cs with
   |some l=>match Fk vs with
    |some ds=>some ((Jm ag,l)::ds)
    |none=>none
   |none=>none
  |none=>none
theorem adg:∀{vs:List SV} {ds:List bM},Fk vs=some ds->zg (vs.map SV.er)=some (ds.map bM.er)
 |[],ds,h=>by simp only[Fk] at h;injection h with h;subst h;rfl
 |v::vs,ds,h=>by
  simp only[Fk] at h
  split at h
  ·rename_i ag cs hc
   split at h
   ·rename_i l hl
    split at h
    ·rename_i tW hd
     injection h with h
     subst h
     simp only[List.map_cons,zg,SV.lx hc,E8 hl,adg hd,bM.er]
     cases ag<;>rfl
    ·cases h
   ·cases h
  ·cases h
def Vv (T:List au) (d:Option Nat) (f:FuncId) (as:List SV) (σ:af) (k:af->Option ρ):Option ρ:=
 match au.t8 2 T f with
 |some fn=>match Fk as with
  |some ds=>match n7 fn.args ds with
   |some x=>(fn.F x).U fun y=>match((kC fn.aA y).drop (fn.aA.length - pi fn.args)).flatMap (·.2) with
    |[]=>match zo ((kC fn.aA y).take (fn.aA.length - pi fn.args)) with
     |some ls=>k (σ.put d (Cq ls))
     |none=>none
    |_=>none
   |none=>none
  |none=>none
 |none=>none
theorem apx {T:List au} {d:Option Nat} {f:FuncId} {as:List SV} {σ:af} {k:af->Option ρ} {r:ρ} (h:Vv T d f as σ k=some r):
  ∃v:SV,x9 (cH T) f (as.map SV.er)=some v.er/\k (σ.put d v)=some r:=by
 unfold Vv at h
 split at h
 ·rename_i fn hf
  split at h
  ·rename_i ds hd
   split at h
   ·rename_i x hx
    rw[eH] at h
    obtain⟨y,hF,h⟩:=h
    split at h
    ·rename_i ho
     split at h
     ·rename_i ls hs
      refine⟨_,?_,h⟩
      have hM:fn.MV (c6 fn.args x)=some (((kC fn.aA y).take (fn.aA.length - pi fn.args)).map bM.er,[]):=by
       unfold au.MV
       rw[au.xQ,hF]
       simp only[Option.map_some]
       rw[<-vN,Fj,ho]
       rfl
      simp only[x9,adg hd,au.YT hf,tj hx,hM,Ke hs,Fl]
     ·cases h
    ·cases h
   ·cases h
  ·cases h
 ·cases h
def Vw (T:List au) (d:Option Nat) (f:FuncId) (as:List SV) (σ:af) (k:af->Option ρ):Option ρ:=
 match au.t8 3 T f with
 |some fn=>match fn.mu.fD with
  |3=>match Ch as with
   |some dq=>match Cj fn.mu.tl dq with
    |[n]=>Fg σ.h (Kj σ.h [n]) fn.mu.tl dq fun ds its=>match its with
     |[(.row n',_)]=>cG n' n (match σ.h n with
      |some (.row _ _ ts xs)=>match n7 fn.args ds with
       |some x=>(fn.F x).U fun y=>match kC fn.aA y with
        |[(.one,[⟨.int _,a⟩]),(.one,[⟨.int _,b⟩])]=>(f7 a b (J xs)).U fun p=>k (σ.put d (.one (.sl n ts.length p.1 p.2)))
        |_=>none
       |none=>none
      |_=>none)
     |_=>none
    |_=>none
   |none=>none
  |_=>none
 |none=>none
theorem apy {T:List au} {d:Option Nat} {f:FuncId} {as:List SV} {σ:af} {k:af->Option ρ} {r:ρ} (h:Vw T d f as σ k=some r):
  ∃v:SV,oI (cH T) f (as.map SV.er) σ.er.h=some v.er/\k (σ.put d v)=some r:=by
 unfold Vw at h
 split at h
 ·rename_i fn hf
  split at h
  ·rename_i wh
   split at h
   ·rename_i dq hc
    split at h
    ·rename_i n hn
     obtain⟨ds,its,h1,h2⟩:=VO h
     split at h2
     ·rename_i n' md
      have he:=(bc h2).1;replace h2:=(bc h2).2
      subst he
      split at h2
      ·rename_i gr mo ts xs eS
       split at h2
       ·rename_i x hx
        rw[eH] at h2
        obtain⟨y,hF,h2⟩:=h2
        split at h2
        ·rename_i ka a kb b hy
         rw[eH] at h2
         obtain⟨p,hs,h2⟩:=h2
         refine⟨_,?_,h2⟩
         unfold f7 at hs
         split at hs
         ·rename_i cF
          injection hs with hs
          subst hs
          have hM:fn.MW (c6 fn.args x)=some (Int.toNat a,Int.toNat (@HSub.hSub Int Int Int instHSub b a)):=by
           unfold au.MW
           rw[au.xQ,hF]
           simp only[Option.map_some,Option.bind_some]
           rw[<-vN,hy]
           rfl
          have hh:σ.er.h=cR σ.h:=rfl
          have bk:σ.er.h n'=some (.row gr mo ts.length (List.map (Ty.aJ ts) xs)):=by simp[af.er,cR,eS,SB.er]
          rw[acK] at h1
          simp only[oI,au.YU hf,VG hc,VM,hn,hh,h1,tj hx,hM]
          rw[hh] at bk
          simp only[bk,if_true]
          rfl
         ·cases hs
        ·cases h2
       ·cases h2
      ·cases h2
     ·cases h2
    ·cases h
   ·cases h
  ·cases h
 ·cases h
def VA (σ:af) (p:SC) (k:af->Option ρ):Option ρ:=
 match p with
 |.ptr n _ _ _=>match σ.h n with
  |some (.box cs)=>zt σ cs fun l _ σ1=>k (σ1.du n (.box (l.map fun x=>.v x.1 x.2)))
  |_=>none
 |_=>none
theorem apC {σ:af} {p:SC} {k:af->Option ρ} {r:ρ} (h:VA σ p k=some r):∃σ1,σ.er.pW p.er=some σ1.er/\k σ1=some r:=by
 unfold VA at h
 split at h
 ·rename_i n kk sz off
  split at h
  ·rename_i cs hn
   obtain⟨l,o,σ1,h1,h2⟩:=Fs h
   refine⟨_,?_,h2⟩
   have bk:σ.er.h n=some (.box (cs.map SC.er)):=by simp[af.er,cR,hn,SB.er]
   simp only[SC.er,St.pW,bk,h1]
   rw[af.oJ,SB.er,KL]
  ·cases h
 ·cases h
inductive cE where
 |mv (x:cz)
 |pick (c x y:cz)
 |alloc (zs:List SC)
 |box (sz:Nat) (x:cz)
 |build (zs:List SC) (parts:List (Nat×Nat×cz))
 |e7 (ts:List Ty) (parts:List cz)
 |load (ag:Bool) (sz:Nat) (x:cz)
 |store (sz:Nat) (x v:cz)
 |od (x:cz)
 |bin (op:BinOp) (x y:cz)
 |me (op:BinOp) (x y:cz)
 |un (op:UnOp) (x:cz)
 |conv (k:IntKind) (x:cz)
 |jC (m:Mode) (ts:List Ty) (by_:Nat) (z:Ty.DL ts) (l c:cz)
 |slice (sz:Nat) (x:cz) (lo hi:Option cz)
 |tail (sz:Nat) (x lo:cz)
 |mO (ag:Bool) (sz:Nat) (x:cz)
 |ao (off:Nat) (x:cz)
 |bm (sz:Nat) (x i:cz)
 |ext (i:Nat) (x:cz)
 |oM (ag:Bool) (off sz:Nat) (x:cz)
 |ou (f:FuncId) (bN:Bool) (x:cz)
 |len (x:cz)
 |append (fl:Bool) (ts:List Ty) (by_:Nat) (x y:cz)
 |mm (mx:Bool) (x y:cz)
 |call (m:Mode) (f:FuncId) (xs:List cz)
 |mf (f:FuncId) (xs:List cz)
 |copy (x y:cz)
 |kB (t:Ty) (z:t.D) (x:cz)
 |pf (f:FuncId) (xs:List cz)
 |mg (m:Mode) (x:cz) (xs:List cz)
 |eN (m:Mode) (f:FuncId) (xs:List cz)
 |jh (f:FuncId) (xs:List cz)
 |mh (f:FuncId) (xs:List cz)
 |lv (f:FuncId) (xs:List cz)
def cE.er:cE->aF
 |.mv x=>.mv x.er
 |.pick c x y=>.pick c.er x.er y.er
 |.alloc zs=>.alloc (zs.map SC.er)
 |.box sz x=>.box sz x.er
 |.build zs ps=>.build (zs.map SC.er) (ps.map fun p=>(p.1,p.2.1,p.2.2.er))
 |.e7 ts ps=>.e7 ts.length (ps.map cz.er)
 |.load ag sz x=>.load ag sz x.er
 |.mO ag sz x=>.mO ag sz x.er
 |.store sz x v=>.store sz x.er v.er
 |.od x=>.od x.er
 |.bin op x y=>.bin op x.er y.er
 |.me op x y=>.me op x.er y.er
 |.un op x=>.un op x.er
 |.conv k x=>.conv k x.er
 |.jC m ts by_ z l c=>.jC m ts.length by_ (Ty.aJ ts z) l.er c.er
 |.slice sz x lo hi=>.slice sz x.er (lo.map cz.er) (hi.map cz.er)
 |.tail sz x lo=>.tail sz x.er lo.er
 |.ao off x=>.ao off x.er
 |.bm sz x i=>.bm sz x.er i.er
 |.ext i x=>.ext i x.er
 |.oM ag off sz x=>.oM ag off sz x.er
 |.ou f bN x=>.ou f bN x.er
 |.len x=>.len x.er
 |.append fl ts by_ x y=>.append fl ts.length by_ x.er y.er
 |.mm b x y=>.mm b x.er y.er
 |.call m f xs=>.call m f (xs.map cz.er)
 |.mf f xs=>.mf f (xs.map cz.er)
 |.copy x y=>.copy 1 x.er y.er
 |.kB t z x=>.kB (t.er z) x.er
 |.pf f xs=>.pf f (xs.map cz.er)
 |.mg m x xs=>.mg m x.er (xs.map cz.er)
 |.eN m f xs=>.eN m f (xs.map cz.er)
 |.jh f xs=>.jh f (xs.map cz.er)
 |.mh f xs=>.mh f (xs.map cz.er)
 |.lv f xs=>.lv f (xs.map cz.er)
theorem tZ (σ:af) (xs:List cz):(xs.map cz.er).map σ.er.ev=(xs.map σ.ev).map SV.er:=by
 simp[af.dm]
def Fq (ev:cz->SV):List SC->List (Nat×Nat×cz)->Option (List SC)
 |zs,[]=>some zs
 |zs,(off,sz,x)::ps=>match(ev x).cells? with
  |some (_,cs)=>cG cs.length sz (eP (Nat.ble (off+sz) zs.length) (Fq ev (bX zs off cs) ps))
  |none=>none
theorem adq {σ:af}:∀{ps:List (Nat×Nat×cz)} {zs cs:List SC},Fq σ.ev zs ps=some cs->
  pC σ.er.ev (zs.map SC.er) (ps.map fun p=>(p.1,p.2.1,p.2.2.er))=some (cs.map SC.er)
 |[],zs,cs,h=>by simp only[Fq] at h;injection h with h;subst h;rfl
 |(off,sz,x)::ps,zs,cs,h=>by
  simp only[Fq] at h
  split at h
  ·rename_i b XZ hc
   have br:=(bc h).1;replace h:=(bc h).2;subst br
   have hb:=(bZ h).1;replace h:=(bZ h).2
   have ih:=adq h
   rw[Cm] at ih
   have gI:=Nat.le_of_ble_eq_true hb
   simp only[List.map_cons,pC,af.dm,SV.lx hc,List.length_map,gI,and_self,if_true,ih]
  ·cases h
def Ka (l:List TD):Bool:=l.all fun x=>x.1.eF
theorem apr (l:List TD):fq (cA l)=Ka l:=by
 simp[fq,cA,Ka,List.all_map,Function.comp_def,Ty.xg]
def V5 (σ:af) (n:Nat) (gr:Bool) (m:Mode) (ts:List Ty) (xs:List (Ty.DL ts)) (kk off:Nat) (e:Ty.DL ts) (vs:List SC) (k:af->Option ρ):Option ρ:=
 match sub (Ty.gW ts e) off vs.length with
 |none=>none
 |some f0=>zt σ vs fun cs o σ1=>match qA ts (bX (Ty.gW ts e) off cs) with
  |none=>none
  |some e'=>match m with
   |.live=>eP (Ka cs&&Ka f0&&(σ1.h n).isSome) (k (σ1.du n (.row gr .live ts (bg xs kk e'))))
   |.ab=>eP (σ1.h n).isSome (k (σ1.du n (.row gr (match o with|true=>.ab|false=>.aO) ts (bg xs kk e'))))
   |.aO=>eP (σ1.h n).isSome (k (σ1.du n (.row gr .aO ts (bg xs kk e'))))
theorem Yr (h:Nat->Option SB) (n:Nat):(cR h n).isSome=(h n).isSome:=by
 unfold cR;cases h n<;>rfl
theorem ap2 {σ:af} {n:Nat} {gr:Bool} {m:Mode} {ts:List Ty} {xs:List (Ty.DL ts)} {kk off:Nat} {e:Ty.DL ts} {vs:List SC} {k:af->Option ρ} {r:ρ}
  (h:V5 σ n gr m ts xs kk off e vs k=some r):
  ∃σ1:af,mU σ.er n gr m ts.length (List.map (Ty.aJ ts) xs) kk off (Ty.aJ ts e) (vs.map SC.er)=some σ1.er/\k σ1=some r:=by
 unfold V5 at h
 split at h
 ·cases h
 ·rename_i f0 ho
  obtain⟨cs,o,σ1,h1,h2⟩:=Fs h
  have hold:sub (Ty.aJ ts e) off (vs.map SC.er).length=some (cA f0):=by
   rw[<-Ty.pN]
   simp only[cA]
   rw[tw,List.length_map,ho]
   rfl
  split at h2
  ·cases h2
  ·rename_i e' he
   have yD:bX (Ty.aJ ts e) off (cA cs)=Ty.aJ ts e':=by
    rw[wS he,<-Ty.pN]
    simp only[cA]
    rw[<-Cm]
   have Ba:(List.map (Ty.aJ ts) xs).set kk (Ty.aJ ts e')=List.map (Ty.aJ ts) (bg xs kk e'):=by
    show _=List.map (Ty.aJ ts) (xs.set kk e')
    rw[List.map_set]
   have Bb:σ1.er.h n=(σ1.h n).map SB.er:=rfl
   split at h2
   ·have hb:=(bZ h2).1;replace h2:=(bZ h2).2
    simp only[Bool.and_eq_true] at hb
    refine⟨_,?_,h2⟩
    simp only[mU,hold,h1,if_true,apr,hb.1.1,hb.1.2,Bb,Option.isSome_map,hb.2,and_self,yD,Ba,af.oJ,SB.er]
   ·have hb:=(bZ h2).1;replace h2:=(bZ h2).2
    refine⟨_,?_,h2⟩
    cases o<;>simp only[mU,hold,h1,Bb,Option.isSome_map,hb,yD,Ba,af.oJ,SB.er,reduceCtorEq,if_false,if_true,Bool.false_eq_true,cond_true,cond_false,ite_self]
   ·have hb:=(bZ h2).1;replace h2:=(bZ h2).2
    refine⟨_,?_,h2⟩
    cases o<;>simp only[mU,hold,h1,Bb,Option.isSome_map,hb,yD,Ba,af.oJ,SB.er,reduceCtorEq,if_false,if_true,Bool.false_eq_true,cond_true,cond_false,ite_self]
def vK (us ts:List Ty) (xs:List (Ty.DL us)):Option (List (Ty.DL ts)):=if h:Ty.q9 us ts=true then some (Ty.sx h▸xs) else none
theorem Mt {us ts:List Ty} {xs:List (Ty.DL us)} {ys:List (Ty.DL ts)} (h:vK us ts xs=some ys):us.length=ts.length/\List.map (Ty.aJ us) xs=List.map (Ty.aJ ts) ys/\xs.length=ys.length:=by
 unfold vK at h
 split at h
 ·rename_i he
  have:=Ty.sx he
  subst this
  injection h with h
  rw[<-h]
  exact⟨rfl,rfl,rfl⟩
 ·cases h
def T5 (σ:af) (ts:List Ty) (v:SV) (k:List (Ty.DL ts)->Mode->af->Option ρ):Option ρ:=
 match v with
 |.one (.nil _)=>k [] .ab σ
 |.one (.sl a s lo len)=>match σ.h a with
  |some (.row true m us xs)=>cG s ts.length (cG lo 0 (match vK us ts xs with
   |some ys=>(ae lo len (J ys)).U fun _=>k ys m (σ.del a)
   |none=>none))
  |_=>none
 |_=>none
theorem Ov {lo len l:Nat} {u:Unit} (h:ae lo len l=some u):lo=0/\len=l:=by
 unfold ae at h
 split at h
 ·rename_i hc;exact hc
 ·cases h
theorem apo {σ:af} {ts:List Ty} {v:SV} {k:List (Ty.DL ts)->Mode->af->Option ρ} {r:ρ} (h:T5 σ ts v k=some r):
  ∃(xs:List (Ty.DL ts)) (m:Mode) (σ1:af),pI σ.er ts.length v.er=some (List.map (Ty.aJ ts) xs,m,σ1.er)/\k xs m σ1=some r:=by
 unfold T5 at h
 split at h
 ·exact⟨[],.ab,σ,rfl,h⟩
 ·rename_i a s lo len
  split at h
  ·rename_i m us xs hn
   have br:=(bc h).1;replace h:=(bc h).2;subst br
   have br:=(bc h).1;replace h:=(bc h).2;subst br
   split at h
   ·rename_i ys hc
    obtain⟨c1,c2,c3⟩:=Mt hc
    rw[eH] at h
    obtain⟨_,hf,h⟩:=h
    obtain⟨_,hlen⟩:=Ov hf
    replace hlen:len=ys.length:=hlen
    refine⟨ys,m,σ.del a,?_,h⟩
    have bk:σ.er.h a=some (.row true m ts.length (List.map (Ty.aJ ts) ys)):=by simp[af.er,cR,hn,SB.er,c1,c2]
    subst hlen
    simp only[SV.er,SC.er,pI,bk,List.length_map,and_self,if_true,af.Io]
   ·cases h
  ·cases h
 ·cases h
theorem acu (ts:List Ty) (xs:List (Ty.DL ts)) (h:Ty.fq ts=true):fQ (List.map (Ty.aJ ts) xs)=true:=by
 simp only[fQ,List.all_eq_true,List.mem_map]
 rintro _ ⟨e,_,rfl⟩
 rw[Ty.Kc]
 exact h
def T6 (fl:Bool) (σ:af) (ts:List Ty) (m:Mode) (v:SV) (k:List (Ty.DL ts)->Mode->af->Option ρ):Option ρ:=
 match v with
 |.one (.nil _)=>k [] m σ
 |.one (.v (.list us) ys)=>match vK us ts ys with
  |some zs=>match fl with
   |true=>eP (Ty.fq ts) (k zs m σ)
   |false=>match m with
    |.live=>none
    |_=>k zs .aO σ
  |none=>none
 |.one (.sl b s lo len)=>match σ.h b with
  |some (.row _ m' us ys)=>cG s ts.length (match vK us ts ys with
   |some zs=>match fl with
    |true=>eP (Ty.fq ts) ((cd zs lo len).U fun ws=>k ws m σ)
    |false=>(ae lo len (J zs)).U fun _=>match m,m' with
     |.ab,.ab=>k zs .ab (σ.del b)
     |.live,.live=>k zs .live (σ.del b)
     |.aO,.aO=>k zs .aO (σ.del b)
     |.ab,.aO=>k zs .aO (σ.del b)
     |.aO,.ab=>k zs .aO (σ.del b)
     |_,_=>none
   |none=>none)
  |_=>none
 |_=>none
theorem app {fl:Bool} {σ:af} {ts:List Ty} {m:Mode} {v:SV} {k:List (Ty.DL ts)->Mode->af->Option ρ} {r:ρ} (h:T6 fl σ ts m v k=some r):
  ∃(ys:List (Ty.DL ts)) (m2:Mode) (σ1:af),lm fl σ.er ts.length m v.er=some (List.map (Ty.aJ ts) ys,m2,σ1.er)/\k ys m2 σ1=some r:=by
 unfold T6 at h
 split at h
 ·exact⟨[],m,σ,rfl,h⟩
 ·rename_i us ys
  split at h
  ·rename_i zs hc
   obtain⟨e1,e2,e3⟩:=Mt hc
   have sG:Ty.er (.list us) ys=.list ts.length (List.map (Ty.aJ ts) zs):=by rw[<-e1,<-e2];rfl
   split at h
   ·have hs:=(bZ h).1;replace h:=(bZ h).2
    refine⟨zs,m,σ,?_,h⟩
    simp only[SV.er,SC.er,sG,lm,if_true,Bool.true_and,acu ts zs hs]
   ·split at h
    ·cases h
    ·rename_i hm
     refine⟨zs,.aO,σ,?_,h⟩
     have bI:m≠ .live:=fun e=>hm e
     simp only[SV.er,SC.er,sG,lm,if_true,Bool.false_and,Bool.false_eq_true,if_false,if_neg bI]
  ·cases h
 ·rename_i b s lo len
  split at h
  ·rename_i gr m' us ys hn
   have br:=(bc h).1;replace h:=(bc h).2;subst br
   split at h
   ·rename_i zs hc
    obtain⟨e1,e2,e3⟩:=Mt hc
    have bk:σ.er.h b=some (.row gr m' ts.length (List.map (Ty.aJ ts) zs)):=by simp[af.er,cR,hn,SB.er,e1,e2]
    split at h
    ·have hs:=(bZ h).1;replace h:=(bZ h).2
     rw[eH] at h
     obtain⟨ws,hw,h⟩:=h
     obtain⟨w1,w2⟩:=ad5 hw
     refine⟨ws,m,σ,?_,h⟩
     simp only[SV.er,SC.er,lm,bk,List.length_map,w1,w2,and_self,if_true,Bool.true_and,acu ts ws hs]
    ·rw[eH] at h
     obtain⟨_,hf,h⟩:=h
     obtain⟨rfl,hlen⟩:=Ov hf
     replace hlen:len=zs.length:=hlen
     subst hlen
     have wu:List.take zs.length (List.map (Ty.aJ ts) zs)=List.map (Ty.aJ ts) zs:=by
      rw[List.take_of_length_le];simp
     cases m<;>cases m'<;>first
      |(cases h;done)
      |exact⟨zs,_,σ.del b,by simp[SV.er,SC.er,lm,bk,af.Io],h⟩
   ·cases h
  ·cases h
 ·cases h
def SC.Y7:SC->Bool
 |.fn _ _=>false
 |.bn=>false
 |_=>true
def zq:List SV->Option (List SC)
 |[]=>some []
 |.one c::vs=>match c.Y7,zq vs with
  |true,some cs=>some (c::cs)
  |_,_=>none
 |_::_=>none
theorem acZ:∀{vs:List SV} {cs:List SC},zq vs=some cs->
  (vs.map SV.er).mapM (fun v=>match v with|.one c=>if c.kJ=true then none else some c|_=>none)=some (cs.map SC.er)/\(cs.map SC.er).all ah.EH=true
 |[],cs,h=>by simp only[zq] at h;injection h with h;subst h;exact⟨rfl,rfl⟩
 |.one c::vs,cs,h=>by
  simp only[zq] at h
  split at h
  ·rename_i cs' e1 e2
   injection h with h
   subst h
   obtain⟨i1,i2⟩:=acZ e2
   have hc:c.er.kJ=false/\c.er.EH=true:=by cases c<;>first|exact⟨rfl,rfl⟩|(simp[SC.Y7] at e1)
   refine⟨?_,by simp[hc.2];simpa using i2⟩
   simp only[List.map_cons,List.mapM_cons,SV.er,hc.1]
   rw[i1]
   rfl
  ·cases h
 |.agg _::_,cs,h=>by simp[zq] at h
 |.bo _::_,cs,h=>by simp[zq] at h
end
end Go.Am
