/- S3: typed functions, and one operation of the typed evaluator. No condition. -/
import Derived.Test.YtfkfmbhknekkdaaS2
set_option linter.unusedVariables false
set_option linter.unusedSimpArgs false
namespace Go.Am
def bA:List (List Ty)->Type
 |[]=>Unit
 |ts::l=>match l with
  |[]=>Ty.DL ts
  |us::l'=>Ty.DL ts×bA (us::l')
abbrev ax:=List (K×List Ty)
abbrev ax.bz (s:ax):List (List Ty):=s.map (·.2)
def dj:(as:ax)->bA as.bz->List Dv
 |[],_=>[]
 |[a],x=>[(a.1,Ty.az a.2 x)]
 |a::b::as,x=>(a.1,Ty.az a.2 x.1)::dj (b::as) x.2
def fG:(as:ax)->bA as.bz->List bG
 |[],_=>[]
 |[a],x=>[(a.1,Ty.f0 a.2 x)]
 |a::b::as,x=>(a.1,Ty.f0 a.2 x.1)::fG (b::as) x.2
theorem qC:∀(as:ax) (x:bA as.bz),(fG as x).map bG.er=dj as x
 |[],_=>rfl
 |[a],x=>congrArg (fun l=>[((a.1,l):Dv)]) (Ty.pg a.2 x)
 |a::b::as,x=>by
  have:=qC (b::as) x.2
  simp only[fG,dj,List.map_cons,bG.er,Ty.pg,this]
def K.beq:K->K->Bool
 |.one,.one=>true
 |.agg,.agg=>true
 |.ptr,.ptr=>true
 |_,_=>false
theorem K.beq_eq {a b:K} (h:K.beq a b=true):a=b:=by cases a<;>cases b<;>first|rfl|cases h
def ED (ts:List Ty):(l:List (List Ty))->Ty.DL ts->bA l->bA (ts::l)
 |[],x,_=>x
 |_::_,x,y=>(x,y)
theorem Sz (a:K×List Ty):∀(as:ax) (x:Ty.DL a.2) (y:bA (ax.bz as)),dj (a::as) (ED a.2 (ax.bz as) x y)=(a.1,Ty.az a.2 x)::dj as y
 |[],_,_=>rfl
 |_::_,_,_=>rfl
def lI:(as:ax)->List bG->Option (bA as.bz)
 |[],[]=>some ()
 |a::as,d::ds=>dQ (K.beq a.1 d.1) (match oy a.2 d.2,lI as ds with
  |some x,some y=>some (ED a.2 (ax.bz as) x y)
  |_,_=>none)
 |_,_=>none
theorem pU:∀{as:ax} {ds:List bG} {x:bA as.bz},lI as ds=some x->ds.map bG.er=dj as x
 |[],[],x,h=>rfl
 |a::as,d::ds,x,h=>by
  simp only[lI] at h
  have h1:=(bQ h).1;replace h2:=(bQ h).2
  split at h2
  ·rename_i y z e1 e2
   injection h2 with h2
   subst h2
   rw[Sz,List.map_cons,pU e2,bG.er,<-K.beq_eq h1,<-uA e1]
  ·cases h2
 |[],_::_,x,h=>by simp[lI] at h
 |a::as,[],x,h=>by simp[lI] at h
mutual
theorem Ty.SF:∀(t:Ty) (x y:t.D),t.er x=t.er y->x=y
 |.int k,x,y,h=>by simp only[Ty.er] at h;injection h
 |.bool,x,y,h=>by simp only[Ty.er] at h;injection h
 |.list ts,x,y,h=>by simp only[Ty.er] at h;injection h with _ h;exact Ty.SE ts x y h
theorem Ty.SE:∀(ts:List Ty) (xs ys:List (Ty.DL ts)),List.map (Ty.az ts) xs=List.map (Ty.az ts) ys->xs=ys
 |ts,[],[],h=>rfl
 |ts,x::xs,y::ys,h=>by
  simp only[List.map_cons,List.cons.injEq] at h
  rw[Ty.ES ts x y h.1,Ty.SE ts xs ys h.2]
 |ts,[],_::_,h=>by simp at h
 |ts,_::_,[],h=>by simp at h
theorem Ty.ES:∀(ts:List Ty) (x y:Ty.DL ts),Ty.az ts x=Ty.az ts y->x=y
 |[],x,y,h=>rfl
 |[t],x,y,h=>by simp only[Ty.az,List.cons.injEq,and_true] at h;exact Ty.SF t x y h
 |t::u::ts,x,y,h=>by
  simp only[Ty.az,List.cons.injEq] at h
  exact Prod.ext (Ty.SF t x.1 y.1 h.1) (Ty.ES (u::ts) x.2 y.2 h.2)
end
theorem SA:∀(as:ax) (x y:bA as.bz),dj as x=dj as y->x=y
 |[],x,y,h=>rfl
 |[a],x,y,h=>by simp[dj] at h;exact Ty.ES a.2 x y h
 |a::b::as,x,y,h=>by
  simp only[dj,List.cons.injEq,Prod.mk.injEq,true_and] at h
  exact Prod.ext (Ty.ES a.2 x.1 y.1 h.1) (SA (b::as) x.2 y.2 h.2)
structure ar where
 id:FuncId
 args:ax
 mu:aJ
 aG:ax
 F:bA args.bz->Option (bA aG.bz)
open Classical in
noncomputable def ar.M (fn:ar) (ds:List Dv):Option (List Dv):=
 if h:∃x,dj fn.args x=ds then(fn.F h.choose).map (dj fn.aG) else none
theorem ar.rO (fn:ar) (x:bA fn.args.bz):fn.M (dj fn.args x)=(fn.F x).map (dj fn.aG):=by
 have h:∃y,dj fn.args y=dj fn.args x:=⟨x,rfl⟩
 unfold ar.M
 rw[dif_pos h,SA _ _ _ h.choose_spec]
theorem ar.QL {fn:ar} {ds rs:List Dv} (h:fn.M ds=some rs):∃x y,ds=dj fn.args x/\fn.F x=some y/\rs=dj fn.aG y:=by
 unfold ar.M at h
 split at h
 ·rename_i e
  rw[Option.map_eq_some_iff] at h
  obtain⟨y,h1,h2⟩:=h
  exact⟨_,y,e.choose_spec.symm,h1,h2.symm⟩
 ·cases h
def aJ.bm:aJ->Nat
 |[]=>0
 |s::l=>(s.filter Option.isSome).length+aJ.bm l
def xl (k:Nat) (rs:List Dv):List Dv×List C:=(rs.take k,(rs.drop k).flatMap (·.2))
noncomputable def ar.MM (fn:ar) (ds:List Dv):Option (List Dv×List C):=(fn.M ds).map (xl (fn.aG.length - fn.mu.bm))
def aJ.ed:aJ->Nat
 |[]=>0
 |[[some .aF]]=>2
 |[some .aF,some .aF]::_=>3
 |[some .aF,some .aF,some .aF]::_=>4
 |_=>1
def TQ:ax->Bool
 |[]=>false
 |(.ptr,_)::_=>true
 |_::as=>TQ as
def uE (as:ax):Nat:=match TQ as with
 |true=>1
 |false=>0
noncomputable def ar.MV (fn:ar) (ds:List Dv):Option (List Dv×List C):=(fn.M ds).map (xl (fn.aG.length - uE fn.args))
def alq:List Dv->Option (Nat×Nat)
 |[(.one,[.int _ a]),(.one,[.int _ b])]=>some (a.toNat,(b - a).toNat)
 |_=>none
noncomputable def ar.MW (fn:ar) (ds:List Dv):Option (Nat×Nat):=(fn.M ds).bind alq
def aJ.lS (s:aJ):Nat:=s.length - 2
noncomputable def ar.MX (fn:ar) (ds:List Dv):Option (List Dv×List C):=(fn.M ds).map (xl (fn.aG.length - 1))
noncomputable def cb (T:List ar):aA:=
 ⟨T.filterMap fun fn=>match fn.mu.ed with|0=>some (fn.id,fn.M)|_=>none,T.filterMap fun fn=>match fn.mu.ed with|1=>some (fn.id,fn.mu,fn.MM)|_=>none,
  T.filterMap fun fn=>match fn.mu.ed with|2=>some (fn.id,fn.MV)|_=>none,T.filterMap fun fn=>match fn.mu.ed with|3=>some (fn.id,fn.mu.tl,fn.MW)|_=>none,
  T.filterMap fun fn=>match fn.mu.ed with|4=>some (fn.id,fn.mu.lS,fn.MX)|_=>none⟩
def ar.find:List ar->FuncId->Option ar
 |[],_=>none
 |fn::l,f=>match Nat.beq f fn.id with
  |true=>some fn
  |false=>ar.find l f
theorem ar.Jz:∀{T:List ar} {f:FuncId} {fn:ar},ar.find T f=some fn->fn.mu.ed=0->aA.find (cb T).pure f=some fn.M
 |[],f,fn,h,_=>by simp[ar.find] at h
 |g::l,f,fn,h,hm=>by
  simp only[ar.find] at h
  split at h
  ·rename_i e
   injection h with h
   subst h
   simp only[cb,List.filterMap_cons,hm,aA.find]
   rw[if_pos (Nat.eq_of_beq_eq_true e)]
  ·rename_i e
   have ih:aA.find (cb l).pure f=some fn.M:=ar.Jz h hm
   simp only[cb,List.filterMap_cons] at ih⊢
   by_cases hg:g.mu.ed=0
   ·simp only[hg,aA.find]
    rw[if_neg (fun he=>by rw[he,Nat.beq_refl] at e;cases e)]
    exact ih
   ·split
    ·exact ih
    ·rename_i z hz
     split at hz
     ·rename_i h0;exact absurd h0 hg
     ·cases hz
theorem ar.Jy:∀{T:List ar} {f:FuncId} {fn:ar},ar.find T f=some fn->fn.mu.ed=1->aA.kF (cb T).rn f=some (fn.mu,fn.MM)
 |[],f,fn,h,_=>by simp[ar.find] at h
 |g::l,f,fn,h,hm=>by
  simp only[ar.find] at h
  split at h
  ·rename_i e
   injection h with h
   subst h
   simp only[cb,List.filterMap_cons,hm,aA.kF]
   rw[if_pos (Nat.eq_of_beq_eq_true e)]
  ·rename_i e
   have ih:aA.kF (cb l).rn f=some (fn.mu,fn.MM):=ar.Jy h hm
   simp only[cb,List.filterMap_cons] at ih⊢
   by_cases hg:g.mu.ed=1
   ·simp only[hg,aA.kF]
    rw[if_neg (fun he=>by rw[he,Nat.beq_refl] at e;cases e)]
    exact ih
   ·split
    ·exact ih
    ·rename_i z hz
     split at hz
     ·rename_i h0;exact absurd h0 hg
     ·cases hz
theorem ar.Ta:∀{T:List ar} {f:FuncId} {fn:ar},ar.find T f=some fn->fn.mu.ed=2->aA.jb (cb T).vs f=some fn.MV
 |[],f,fn,h,_=>by simp[ar.find] at h
 |g::l,f,fn,h,hm=>by
  simp only[ar.find] at h
  split at h
  ·rename_i e
   injection h with h
   subst h
   simp only[cb,List.filterMap_cons,hm,aA.jb]
   rw[if_pos (Nat.eq_of_beq_eq_true e)]
  ·rename_i e
   have ih:aA.jb (cb l).vs f=some fn.MV:=ar.Ta h hm
   simp only[cb,List.filterMap_cons] at ih⊢
   by_cases hg:g.mu.ed=2
   ·simp only[hg,aA.jb]
    rw[if_neg (fun he=>by rw[he,Nat.beq_refl] at e;cases e)]
    exact ih
   ·split
    ·exact ih
    ·rename_i z hz
     split at hz
     ·rename_i h0;exact absurd h0 hg
     ·cases hz
def ta (m:Mode) (σ:ab):Nat->List TD->Option (List SC×Nat×ab)
 |nm,[]=>some ([],nm,σ)
 |nm,⟨t,x⟩::cs=>match t,x with
  |.list ts,xs=>match σ.ins nm (.row true m ts xs) with
   |some σ1=>match ta m σ1 (nm+1) cs with
    |some (l,eP,σ2)=>some (.sl nm ts.length 0 (aa (α:=Ty.DL ts) xs)::l,eP,σ2)
    |none=>none
   |none=>none
  |.int k,x=>match ta m σ nm cs with
   |some (l,eP,σ2)=>some (.v (.int k) x::l,eP,σ2)
   |none=>none
  |.bool,x=>match ta m σ nm cs with
   |some (l,eP,σ2)=>some (.v .bool x::l,eP,σ2)
   |none=>none
theorem G5 (m:Mode):∀{cs:List TD} {σ σ1:ab} {nm eP:Nat} {l:List SC},ta m σ nm cs=some (l,eP,σ1)->
  σ.er.imp m nm (cA cs)=some (l.map SC.er,eP,σ1.er)
 |[],σ,σ1,nm,eP,l,h=>by
  simp only[ta] at h
  injection h with h
  injection h with h1 h2
  injection h2 with h2 h3
  subst h1 h2 h3
  rfl
 |⟨.list ts,xs⟩::cs,σ,σ2,nm,eP,l,h=>by
  simp only[ta] at h
  split at h
  ·rename_i σ1 e1
   split at h
   ·rename_i l' Cv fm e2
    injection h with h
    injection h with h1 h2
    injection h2 with h2 h3
    subst h1 h2 h3
    have i1:σ.er.ins nm (.row true m ts.length (List.map (Ty.az ts) xs))=some σ1.er:=ab.qF e1
    have i2:=G5 m e2
    simp only[cA] at i2
    simp only[cA,List.map_cons,Ty.er,St.imp,i1,i2,SC.er]
    exact congrArg (fun q=>some (ae.sl nm ts.length 0 q::List.map SC.er l',Cv,fm.er)) (List.length_map (Ty.az ts))
   ·cases h
  ·cases h
 |⟨.int k,x⟩::cs,σ,σ2,nm,eP,l,h=>by
  simp only[ta] at h
  split at h
  ·rename_i l' Cv fm e2
   injection h with h
   injection h with h1 h2
   injection h2 with h2 h3
   subst h1 h2 h3
   have i2:=G5 m e2
   simp only[cA] at i2
   simp only[cA,List.map_cons,Ty.er,St.imp,i2,SC.er]
  ·cases h
 |⟨.bool,x⟩::cs,σ,σ2,nm,eP,l,h=>by
  simp only[ta] at h
  split at h
  ·rename_i l' Cv fm e2
   injection h with h
   injection h with h1 h2
   injection h2 with h2 h3
   subst h1 h2 h3
   have i2:=G5 m e2
   simp only[cA] at i2
   simp only[cA,List.map_cons,Ty.er,St.imp,i2,SC.er]
  ·cases h
def K.isAgg:K->Bool
 |.agg=>true
 |_=>false
def K.Wb:K->Bool
 |.ptr=>true
 |_=>false
def uY (m:Mode) (σ:ab):Nat->List bG->Option (List (Bool×List SC)×ab)
 |_,[]=>some ([],σ)
 |nm,(k,cs)::ds=>match k.Wb with
  |true=>none
  |false=>match ta m σ nm cs with
   |some (l,eP,σ1)=>match uY m σ1 eP ds with
    |some (ls,σ2)=>some ((k.isAgg,l)::ls,σ2)
    |none=>none
   |none=>none
theorem CR (m:Mode):∀{ds:List bG} {σ σ1:ab} {nm:Nat} {ls:List (Bool×List SC)},uY m σ nm ds=some (ls,σ1)->
  σ.er.gH m nm (ds.map bG.er)=some (ls.map (fun x=>(x.1,x.2.map SC.er)),σ1.er)
 |[],σ,σ1,nm,ls,h=>by
  simp only[uY] at h
  injection h with h
  injection h with h1 h2
  subst h1 h2
  rfl
 |(k,cs)::ds,σ,σ2,nm,ls,h=>by
  simp only[uY] at h
  split at h
  ·cases h
  ·rename_i hk
   split at h
   ·rename_i l eP σ1 e1
    split at h
    ·rename_i wT fm e2
     injection h with h
     injection h with h1 h2
     subst h1 h2
     have i1:=G5 m e1
     have i2:=CR m e2
     have Vi:σ1.er.gH m eP (List.map bG.er ds)=some (wT.map (fun x=>(x.1,x.2.map SC.er)),fm.er):=i2
     cases k with
     |ptr=>cases hk
     |one=>simp only[List.map_cons,bG.er,St.gH,i1,Vi];rfl
     |agg=>simp only[List.map_cons,bG.er,St.gH,i1,Vi];rfl
    ·cases h
   ·cases h
def u9:List (Bool×List SC)->SV
 |[(ag,cs)]=>xr ag cs
 |l=>.aY l
theorem xm (l:List (Bool×List SC)):(u9 l).er=iR (l.map fun x=>(x.1,x.2.map SC.er)):=by
 match l with
 |[]=>rfl
 |[(ag,cs)]=>exact Ai ag cs
 |_::_::_=>rfl
section
variable {ρ:Type}
def GW (T:List ar) (m:Mode) (d:Option Nat) (f:FuncId) (as:List SV) (σ:ab) (k:ab->Option ρ):Option ρ:=
 match ar.find T f with
 |some fn=>match fn.mu.ed with
  |0=>C5 σ.h as fun ds=>match lI fn.args ds with
   |some x=>(fn.F x).ah fun rs=>match uY m σ (oz d) (fG fn.aG rs) with
    |some (ls,σ1)=>k (σ1.put d (u9 ls))
    |none=>none
   |none=>none
  |_=>none
 |none=>none
theorem Ym {T:List ar} {m:Mode} {d:Option Nat} {f:FuncId} {as:List SV} {σ:ab} {k:ab->Option ρ} {r:ρ} (h:GW T m d f as σ k=some r):
  ∃σ1:ab,ph (cb T) m d f (as.map SV.er) σ.er=some σ1.er/\k σ1=some r:=by
 unfold GW at h
 split at h
 ·rename_i fn hf
  split at h
  ·rename_i qS
   obtain⟨ds,h1,h2⟩:=Qb h
   split at h2
   ·rename_i x hx
    rw[dF] at h2
    obtain⟨rs,hF,h2⟩:=h2
    split at h2
    ·rename_i ls σ1 hs
     refine⟨_,?_,h2⟩
     have e:=CR m hs
     rw[qC] at e
     have hv:jr σ.er.h (as.map SV.er)=some (ds.map bG.er):=h1
     simp only[ph,hv,ar.Jz hf qS,pU hx,ar.rO,hF,Option.map_some,e,ab.cW,xm]
    ·cases h2
   ·cases h2
  ·cases h
 ·cases h
def xb:List bG->Option (List (Bool×List SC))
 |[]=>some []
 |(k,cs)::ds=>match k.Wb with
  |true=>none
  |false=>match xb ds with
   |some ls=>some ((k.isAgg,cs.map fun x=>SC.v x.1 x.2)::ls)
   |none=>none
theorem GV:∀{ds:List bG} {ls:List (Bool×List SC)},xb ds=some ls->fO (ds.map bG.er)=some (ls.map fun x=>(x.1,x.2.map SC.er))
 |[],ls,h=>by simp only[xb] at h;injection h with h;subst h;rfl
 |(k,cs)::ds,ls,h=>by
  simp only[xb] at h
  split at h
  ·cases h
  ·rename_i hk
   split at h
   ·rename_i wT e
    injection h with h
    subst h
    have i2:=GV e
    have ec:(cA cs).map ae.c=(cs.map fun x=>SC.v x.1 x.2).map SC.er:=by simp[cA,SC.er]
    cases k with
    |ptr=>cases hk
    |one=>simp only[List.map_cons,bG.er,fO];rw[show fO (List.map bG.er ds)=_ from i2];simp only;rw[ec];rfl
    |agg=>simp only[List.map_cons,bG.er,fO];rw[show fO (List.map bG.er ds)=_ from i2];simp only;rw[ec];rfl
   ·cases h
def Pw (T:List ar) (d:Option Nat) (f:FuncId) (as:List SV) (σ:ab) (k:ab->Option ρ):Option ρ:=
 match ar.find T f with
 |some fn=>match fn.mu.ed with
  |0=>C5 σ.h as fun ds=>match lI fn.args ds with
   |some x=>(fn.F x).ah fun rs=>match xb (fG fn.aG rs) with
    |some ls=>k (σ.put d (u9 ls))
    |none=>none
   |none=>none
  |_=>none
 |none=>none
theorem akk {T:List ar} {d:Option Nat} {f:FuncId} {as:List SV} {σ:ab} {k:ab->Option ρ} {r:ρ} (h:Pw T d f as σ k=some r):
  ∃v:SV,rY (cb T) f (as.map SV.er) σ.er.h=some v.er/\k (σ.put d v)=some r:=by
 unfold Pw at h
 split at h
 ·rename_i fn hf
  split at h
  ·rename_i qS
   obtain⟨ds,h1,h2⟩:=Qb h
   split at h2
   ·rename_i x hx
    rw[dF] at h2
    obtain⟨rs,hF,h2⟩:=h2
    split at h2
    ·rename_i ls hs
     refine⟨_,?_,h2⟩
     have e:=GV hs
     rw[qC] at e
     have hv:jr σ.er.h (as.map SV.er)=some (ds.map bG.er):=h1
     simp only[rY,hv,ar.Jz hf qS,pU hx,ar.rO,hF,Option.map_some,e,xm]
    ·cases h2
   ·cases h2
  ·cases h
 ·cases h
def Ty.qD:Ty->Bool
 |.list ts=>Ty.eW ts
 |_=>true
def Qq:Mode->List Ty->Bool
 |.aj,ts=>Ty.eW ts
 |.live,ts=>ts.all Ty.qD
 |.aF,_=>false
theorem w9 (ts:List Ty) (xs:List (Ty.DL ts)) (h:Ty.eW ts=true):fB (List.map (Ty.az ts) xs)=true:=by
 simp only[fB,List.all_eq_true,List.mem_map]
 rintro e ⟨x,_,rfl⟩
 rw[Ty.GS];exact h
theorem Sg (t:Ty) (x:t.D) (h:Ty.qD t=true):C.qD (t.er x)=true:=by
 cases t with
 |int k=>rfl
 |bool=>rfl
 |list ts=>exact w9 ts x h
theorem Sf:∀(ts:List Ty) (x:Ty.DL ts),ts.all Ty.qD=true->(Ty.az ts x).all C.qD=true
 |[],_,_=>rfl
 |[t],x,h=>by
  simp only[List.all_cons,List.all_nil,Bool.and_true] at h
  simp only[Ty.az,List.all_cons,List.all_nil,Bool.and_true]
  exact Sg t x h
 |t::u::ts,x,h=>by
  simp only[List.all_cons (a:=t),Bool.and_eq_true] at h
  simp only[Ty.az,List.all_cons (a:=Ty.er t x.1),Bool.and_eq_true]
  exact⟨Sg t x.1 h.1,Sf (u::ts) x.2 h.2⟩
theorem Tg (m:Mode) (ts:List Ty) (xs:List (Ty.DL ts)) (h:Qq m ts=true):qG m (List.map (Ty.az ts) xs)=true:=by
 cases m with
 |aF=>cases h
 |aj=>exact w9 ts xs h
 |live=>
  simp only[qG,List.all_eq_true,List.mem_map]
  rintro e ⟨x,_,rfl⟩
  have:=Sf ts x h
  simpa[List.all_eq_true] using this
def Mode.LS:Mode->Bool
 |.live=>true
 |_=>false
def Mode.V6:Mode->Bool
 |.aj=>true
 |_=>false
def PP (h:Nat->Option SB) (md:Mode) (c:SC) (k:ct->(t:Ty)->t.D->Option ρ):Option ρ:=
 match c with
 |.nil ts=>match ts with
  |[]=>none
  |t::us=>dQ md.own (k (.nil (us.length+1)) (.list (t::us)) ([]:List (Ty.DL (t::us))))
 |.sl n sz lo len=>match h n with
  |some (.row _ m ts xs)=>dQ (m.own&&((!md.LS||m.LS)&&Qq md ts)) (ci ts.length sz ((aI lo len (aa xs)).ah fun _=>k (.row n) (.list ts) xs))
  |_=>none
 |.bj n kk au off sz len=>match h n with
  |some (.row _ .live ts xs)=>dQ md.V6 (ci ts.length au ((eZ xs kk).ah fun e=>match(Ty.f0 ts e)[off]? with
   |some ⟨.list us,ys⟩=>dQ (Ty.eW us) (k (.nest n kk off) (.list us) ys)
   |_=>none))
  |_=>none
 |_=>none
theorem akD {h:Nat->Option SB} {md:Mode} {c:SC} {k:ct->(t:Ty)->t.D->Option ρ} {r:ρ} (hx:PP h md c k=some r):
  ∃(it:ct) (t:Ty) (x:t.D),pT (cB h) md c.er=some (it,t.er x)/\k it t x=some r:=by
 unfold PP at hx
 split at hx
 ·split at hx
  ·cases hx
  ·rename_i t us
   have hm:=(bQ hx).1;replace hx:=(bQ hx).2
   refine⟨_,.list (t::us),[],?_,hx⟩
   have bx:md≠ .aF:=by rintro rfl;cases hm
   simp[SC.er,pT,Ty.er,bx]
 ·rename_i n sz lo len
  split at hx
  ·rename_i gr m ts xs hn
   have hm:=(bQ hx).1;replace hx:=(bQ hx).2
   have aS:=(aK hx).1;replace hx:=(aK hx).2;subst aS
   rw[dF] at hx
   obtain⟨_,hf,hx⟩:=hx
   have KD:lo=0/\len=aa xs:=by
    unfold aI at hf
    split at hf
    ·assumption
    ·cases hf
   obtain⟨rfl,rfl⟩:=KD
   simp only[Bool.and_eq_true] at hm
   have bx:m≠ .aF:=by rintro rfl;cases hm.1
   have qR:md=.live->m=.live:=by
    rintro rfl
    have:=hm.2.1
    cases m<;>first|rfl|(simp[Mode.LS] at this)
   refine⟨_,.list ts,xs,?_,hx⟩
   simp only[SC.er,pT,cB,hn,Option.map_some,SB.er,Ty.er]
   rw[if_pos ⟨bx,qR,trivial,trivial,(List.length_map (Ty.az ts)).symm,Tg md ts xs hm.2.2⟩]
  ·cases hx
 ·rename_i n kk au off sz len
  split at hx
  ·rename_i gr ts xs hn
   have hm:=(bQ hx).1;replace hx:=(bQ hx).2
   have aS:=(aK hx).1;replace hx:=(aK hx).2;subst aS
   rw[dF] at hx
   obtain⟨e,he,hx⟩:=hx
   replace he:xs[kk]? =some e:=he
   split at hx
   ·rename_i us ys hd
    have hs:=(bQ hx).1;replace hx:=(bQ hx).2
    refine⟨_,.list us,ys,?_,hx⟩
    have Fu:md=.aj:=by cases md<;>first|rfl|(simp[Mode.V6] at hm)
    have lz:=Ji hd
    simp only[SC.er,pT,cB,hn,Option.map_some,SB.er,List.getElem?_map,he,Option.bind_some,lz,Ty.er,Fu,and_self,if_true]
    rw[if_pos (w9 us ys hs)]
   ·cases hx
  ·cases hx
 ·cases hx
def SC.nm:SC->List Nat
 |.sl n _ _ _=>[n]
 |.bj n _ _ _ _ _=>[n]
 |_=>[]
theorem SC.ah9 (c:SC):c.er.de.toList=c.nm:=by cases c<;>rfl
def xk:List (Option Mode)->List SC->List Nat
 |some _::fs,c::cs=>c.nm++xk fs cs
 |none::fs,_::cs=>xk fs cs
 |_,_=>[]
theorem Hh:∀(fs:List (Option Mode)) (cs:List SC),ki fs (cs.map SC.er)=xk fs cs
 |some m::fs,c::cs=>by simp only[List.map_cons,ki,xk,SC.ah9,Hh fs cs]
 |none::fs,c::cs=>by simp only[List.map_cons,ki,xk,Hh fs cs]
 |[],cs=>by cases cs<;>rfl
 |some m::fs,[]=>rfl
 |none::fs,[]=>rfl
def u5:aJ->List (Bool×List SC)->List Nat
 |s::sig,a::as=>xk s a.2++u5 sig as
 |_,_=>[]
theorem Hf:∀(sig:aJ) (as:List (Bool×List SC)),lK sig (as.map fun x=>(x.1,x.2.map SC.er))=u5 sig as
 |s::sig,a::as=>by simp only[List.map_cons,lK,u5,Hh,Hf sig as]
 |[],as=>by cases as<;>rfl
 |s::sig,[]=>rfl
def zW (h:Nat->Option SB) (ns:List Nat):Nat->Option SB:=fun n=>match ns.contains n with|true=>none|false=>h n
theorem G0 (h:Nat->Option SB) (ns:List Nat):cB (zW h ns)=dk (cB h) ns:=by
 funext n
 simp only[cB,zW,dk]
 cases hc:ns.contains n<;>simp[hc]
def rC (h h0:Nat->Option SB):List (Option Mode)->List SC->(List TD->List (ct×Mode)->Option ρ)->Option ρ
 |[],cs,k=>Af h0 cs fun l=>k l []
 |none::fs,c::cs,k=>ve h0 c fun t x=>rC h h0 fs cs fun l its=>k (⟨t,x⟩::l) its
 |some md::fs,c::cs,k=>PP h md c fun it t x=>rC h h0 fs cs fun l its=>k (⟨t,x⟩::l) ((it,md)::its)
 |_::_,[],_=>none
theorem He {h h0:Nat->Option SB}:∀{fs:List (Option Mode)} {cs:List SC} {k:List TD->List (ct×Mode)->Option ρ} {r:ρ},rC h h0 fs cs k=some r->
  ∃l its,gS (cB h) (cB h0) fs (cs.map SC.er)=some (cA l,its)/\k l its=some r
 |[],cs,k,r,hx=>by
  simp only[rC] at hx
  obtain⟨l,h1,h2⟩:=Hw hx
  exact⟨l,[],by simp only[gS,h1],h2⟩
 |none::fs,c::cs,k,r,hx=>by
  simp only[rC] at hx
  obtain⟨t,x,h1,h2⟩:=Ae hx
  obtain⟨l,its,h3,h4⟩:=He h2
  exact⟨⟨t,x⟩::l,its,by simp only[List.map_cons,gS,h1,h3,cA],h4⟩
 |some md::fs,c::cs,k,r,hx=>by
  simp only[rC] at hx
  obtain⟨it,t,x,h1,h2⟩:=akD hx
  obtain⟨l,its,h3,h4⟩:=He h2
  exact⟨⟨t,x⟩::l,(it,md)::its,by simp only[List.map_cons,gS,h1,h3,cA],h4⟩
 |none::fs,[],k,r,hx=>by simp[rC] at hx
 |some md::fs,[],k,r,hx=>by simp[rC] at hx
def Ck:Bool->K
 |true=>.agg
 |false=>.one
def z3 (h h0:Nat->Option SB):aJ->List (Bool×List SC)->(List bG->List (ct×Mode)->Option ρ)->Option ρ
 |_,[],k=>k [] []
 |sig,(ag,cs)::as,k=>rC h h0 sig.hd cs fun l its=>z3 h h0 sig.tl as fun ds mA=>k ((Ck ag,l)::ds) (its++mA)
theorem Hi {h h0:Nat->Option SB}:∀{as:List (Bool×List SC)} {sig:aJ} {k:List bG->List (ct×Mode)->Option ρ} {r:ρ},z3 h h0 sig as k=some r->
  ∃ds its,jH (cB h) (cB h0) sig (as.map fun x=>(x.1,x.2.map SC.er))=some (ds.map bG.er,its)/\k ds its=some r
 |[],sig,k,r,hx=>⟨[],[],by simp only[List.map_nil,jH],hx⟩
 |(ag,cs)::as,sig,k,r,hx=>by
  simp only[z3] at hx
  obtain⟨l,its,h1,h2⟩:=He hx
  obtain⟨ds,mA,h3,h4⟩:=Hi h2
  refine⟨_,_,?_,h4⟩
  simp only[List.map_cons,jH,h1,h3,bG.er]
  cases ag<;>rfl
def xg:List SV->Option (List (Bool×List SC))
 |[]=>some []
 |v::vs=>match v.cells?,xg vs with
  |some x,some xs=>some (x::xs)
  |_,_=>none
theorem G9:∀{as:List SV} {bT:List (Bool×List SC)},xg as=some bT->nz (as.map SV.er)=some (bT.map fun x=>(x.1,x.2.map SC.er))
 |[],bT,h=>by simp only[xg] at h;injection h with h;subst h;rfl
 |v::vs,bT,h=>by
  simp only[xg] at h
  split at h
  ·rename_i x xs e1 e2
   injection h with h
   subst h
   obtain⟨b,cs⟩:=x
   simp only[List.map_cons,nz,SV.jT e1,G9 e2]
  ·cases h
def GX (ts:List Ty) (e:Ty.DL ts) (off:Nat) (x:TD):Option (Ty.DL ts):=oy ts ((Ty.f0 ts e).set off x)
theorem Yo {ts:List Ty} {e e':Ty.DL ts} {off:Nat} {x:TD} (h:GX ts e off x=some e'):Ty.az ts e'=(Ty.az ts e).set off (x.1.er x.2):=by
 have:=uA h
 rw[this,cA,List.map_set,<-Ty.pg ts e]
 rfl
def PT (σ:ab) (it:ct) (x:TD) (k:ab->Option ρ):Option ρ:=
 match it with
 |.nil _=>k σ
 |.row n=>match x with
  |⟨.list ts,xs⟩=>match σ.h n with
   |some (.row gr m us _)=>ci us.length ts.length (k (σ.df n (.row gr m ts xs)))
   |_=>none
  |_=>none
 |.nest n kk off=>match σ.h n with
  |some (.row gr m us xs)=>(eZ xs kk).ah fun e=>match GX us e off x with
   |some e'=>k (σ.df n (.row gr m us (cM xs kk e')))
   |none=>none
  |_=>none
theorem akM {σ:ab} {it:ct} {x:TD} {k:ab->Option ρ} {r:ρ} (hx:PT σ it x k=some r):∃σ1,σ.er.lL it (x.1.er x.2)=some σ1.er/\k σ1=some r:=by
 unfold PT at hx
 split at hx
 ·exact⟨σ,rfl,hx⟩
 ·rename_i n
  split at hx
  ·rename_i ts xs
   split at hx
   ·rename_i gr m us ys hn
    have aS:=(aK hx).1;replace hx:=(aK hx).2
    refine⟨_,?_,hx⟩
    have bC:σ.er.h n=some (.row gr m us.length (List.map (Ty.az us) ys)):=by simp[ab.er,cB,hn,SB.er]
    simp only[St.lL,Ty.er,bC,aS,if_true,ab.mY,SB.er]
   ·cases hx
  ·cases hx
 ·rename_i n kk off
  split at hx
  ·rename_i gr m us xs hn
   rw[dF] at hx
   obtain⟨e,he,hx⟩:=hx
   replace he:xs[kk]? =some e:=he
   split at hx
   ·rename_i e' hs
    refine⟨_,?_,hx⟩
    have bC:σ.er.h n=some (.row gr m us.length (List.map (Ty.az us) xs)):=by simp[ab.er,cB,hn,SB.er]
    simp only[St.lL,bC,List.getElem?_map,he,Option.map_some,ab.mY,SB.er,cM,List.map_set,Yo hs]
   ·cases hx
  ·cases hx
def u7 (σ:ab):List (ct×Mode)->List TD->(ab->Option ρ)->Option ρ
 |[],[],k=>k σ
 |it::its,x::xs,k=>PT σ it.1 x fun σ1=>u7 σ1 its xs k
 |_,_,_=>none
theorem Hl:∀{its:List (ct×Mode)} {xs:List TD} {σ:ab} {k:ab->Option ρ} {r:ρ},u7 σ its xs k=some r->∃σ1,σ.er.kT its (cA xs)=some σ1.er/\k σ1=some r
 |[],[],σ,k,r,hx=>⟨σ,rfl,hx⟩
 |it::its,x::xs,σ,k,r,hx=>by
  simp only[u7] at hx
  obtain⟨σ1,h1,h2⟩:=akM hx
  obtain⟨σ2,h3,h4⟩:=Hl h2
  refine⟨σ2,?_,h4⟩
  simp only[cA] at h3
  simp only[cA,List.map_cons,St.kT,h1,h3]
 |[],_::_,σ,k,r,hx=>by simp[u7] at hx
 |_::_,[],σ,k,r,hx=>by simp[u7] at hx
def zG:List Nat->Bool
 |[]=>true
 |n::l=> !(l.contains n)&&zG l
theorem Gr:∀{l:List Nat},zG l=true->l.Nodup
 |[],_=>List.nodup_nil
 |n::l,h=>by
  simp only[zG,Bool.and_eq_true,Bool.not_eq_true'] at h
  rw[List.nodup_cons]
  refine⟨fun hm=>?_,Gr h.2⟩
  have:l.contains n=true:=by simpa using hm
  rw[this] at h
  cases h.1
def Px (T:List ar) (m:Mode) (d:Option Nat) (f:FuncId) (as:List SV) (σ:ab) (k:ab->Option ρ):Option ρ:=
 match ar.find T f with
 |some fn=>match fn.mu.ed with
  |1=>match xg as with
   |some bT=>dQ (zG (u5 fn.mu bT)) (z3 σ.h (zW σ.h (u5 fn.mu bT)) fn.mu bT fun ds its=>match lI fn.args ds with
    |some x=>(fn.F x).ah fun y=>u7 σ its (((fG fn.aG y).drop (fn.aG.length - fn.mu.bm)).flatMap (·.2)) fun σ1=>match uY m σ1 (oz d) ((fG fn.aG y).take (fn.aG.length - fn.mu.bm)) with
     |some (ls,σ2)=>k (σ2.put d (u9 ls))
     |none=>none
    |none=>none)
   |none=>none
  |_=>none
 |none=>none
def PR (h:Nat->Option SB) (s:List (Option Mode)) (v:SV):Option (K×List SC):=
 match v with
 |.one (.ptr n k _ off)=>match h n with
  |some (.box cs)=>match Nat.beq k 0&&(Nat.beq off 0&&NH s cs.length) with
   |true=>some (.ptr,cs)
   |false=>none
  |_=>none
 |v=>match v.cells? with
  |some (ag,cs)=>some (Ck ag,cs)
  |none=>none
theorem aib {v:SV} (h:∀n k z off,v≠ .one (.ptr n k z off)):∀n k z off,v.er≠ .one (.ptr n k z off):=by
 intro n k z off e
 cases v with
 |one c=>
  cases c with
  |ptr n' k' z' pZ=>exact h n' k' z' pZ rfl
  |_=>simp[SV.er,SC.er] at e
 |agg cs=>simp[SV.er] at e
 |aY xs=>simp[SV.er] at e
theorem akJ {h:Nat->Option SB} {s:List (Option Mode)} {v:SV} {x:K×List SC} (hx:PR h s v=some x):uI (cB h) s v.er=some (x.1,x.2.map SC.er):=by
 unfold PR at hx
 split at hx
 ·rename_i n k z off
  split at hx
  ·rename_i cs hn
   split at hx
   ·rename_i hc
    injection hx with hx
    subst hx
    simp only[Bool.and_eq_true] at hc
    have h1:=Nat.eq_of_beq_eq_true hc.1
    have h2:=Nat.eq_of_beq_eq_true hc.2.1
    subst h1 h2
    simp only[SV.er,SC.er,uI,cB,hn,Option.map_some,SB.er,List.length_map]
    rw[if_pos ⟨trivial,trivial,hc.2.2⟩]
   ·cases hx
  ·cases hx
 ·rename_i v av
  split at hx
  ·rename_i ag cs hv
   injection hx with hx
   subst hx
   have eO:=SV.jT hv
   have bU:∀u:ai,(∀n k z off,u≠ .one (.ptr n k z off))->u.cells?=some (ag,cs.map SC.er)->uI (cB h) s u=some (Ck ag,cs.map SC.er):=by
    intro u hu hc
    unfold uI
    split
    ·rename_i n k z off
     exact absurd rfl (hu n k z off)
    ·rw[hc]
     cases ag<;>rfl
   exact bU _ (aib fun n k z off e=>av n k z off e) eO
  ·cases hx
def CW (h:Nat->Option SB):aJ->List SV->Option (List (K×List SC))
 |_,[]=>some []
 |sig,v::vs=>match PR h sig.hd v,CW h sig.tl vs with
  |some x,some xs=>some (x::xs)
  |_,_=>none
theorem YJ {h:Nat->Option SB}:∀{as:List SV} {sig:aJ} {bT:List (K×List SC)},CW h sig as=some bT->uJ (cB h) sig (as.map SV.er)=some (bT.map fun x=>(x.1,x.2.map SC.er))
 |[],sig,bT,hx=>by simp only[CW] at hx;injection hx with hx;subst hx;rfl
 |v::vs,sig,bT,hx=>by
  simp only[CW] at hx
  split at hx
  ·rename_i x xs e1 e2
   injection hx with hx
   subst hx
   simp only[List.map_cons,uJ,akJ e1,YJ e2]
  ·cases hx
def CZ:aJ->List (K×List SC)->List Nat
 |s::sig,a::as=>xk s a.2++CZ sig as
 |_,_=>[]
theorem YP:∀(sig:aJ) (as:List (K×List SC)),uM sig (as.map fun x=>(x.1,x.2.map SC.er))=CZ sig as
 |s::sig,a::as=>by simp only[List.map_cons,uM,CZ,Hh,YP sig as]
 |[],as=>by cases as<;>rfl
 |s::sig,[]=>rfl
def Hm (h h0:Nat->Option SB):aJ->List (K×List SC)->(List bG->List (ct×Mode)->Option ρ)->Option ρ
 |_,[],k=>k [] []
 |sig,(kk,cs)::as,k=>rC h h0 sig.hd cs fun l its=>Hm h h0 sig.tl as fun ds mA=>k ((kk,l)::ds) (its++mA)
theorem YQ {h h0:Nat->Option SB}:∀{as:List (K×List SC)} {sig:aJ} {k:List bG->List (ct×Mode)->Option ρ} {r:ρ},Hm h h0 sig as k=some r->
  ∃ds its,oF (cB h) (cB h0) sig (as.map fun x=>(x.1,x.2.map SC.er))=some (ds.map bG.er,its)/\k ds its=some r
 |[],sig,k,r,hx=>⟨[],[],by simp only[List.map_nil,oF],hx⟩
 |(kk,cs)::as,sig,k,r,hx=>by
  simp only[Hm] at hx
  obtain⟨l,its,h1,h2⟩:=He hx
  obtain⟨ds,mA,h3,h4⟩:=YQ h2
  exact⟨_,_,by simp only[List.map_cons,oF,h1,h3,bG.er],h4⟩
def Py (T:List ar) (m:Mode) (d:Option Nat) (f:FuncId) (as:List SV) (σ:ab) (k:ab->Option ρ):Option ρ:=
 match ar.find T f with
 |some fn=>match fn.mu.ed with
  |1=>match CW σ.h fn.mu as with
   |some bT=>dQ (zG (CZ fn.mu bT)) (Hm σ.h (zW σ.h (CZ fn.mu bT)) fn.mu bT fun ds its=>match lI fn.args ds with
    |some x=>(fn.F x).ah fun y=>u7 σ its (((fG fn.aG y).drop (fn.aG.length - fn.mu.bm)).flatMap (·.2)) fun σ1=>match uY m σ1 (oz d) ((fG fn.aG y).take (fn.aG.length - fn.mu.bm)) with
     |some (ls,σ2)=>k (σ2.put d (u9 ls))
     |none=>none
    |none=>none)
   |none=>none
  |_=>none
 |none=>none
theorem z7 (k:Nat) (l:List bG):xl k (l.map bG.er)=((l.take k).map bG.er,cA ((l.drop k).flatMap (·.2))):=by
 simp only[xl,<-List.map_take,<-List.map_drop]
 congr 1
 induction l.drop k with
 |nil=>rfl
 |cons d l ih=>
  simp only[List.map_cons,List.flatMap_cons,ih,cA,List.map_append,bG.er]
theorem akl {T:List ar} {m:Mode} {d:Option Nat} {f:FuncId} {as:List SV} {σ:ab} {k:ab->Option ρ} {r:ρ} (h:Px T m d f as σ k=some r):
  ∃σ1:ab,nU (cb T) m d f (as.map SV.er) σ.er=some σ1.er/\k σ1=some r:=by
 unfold Px at h
 split at h
 ·rename_i fn hf
  split at h
  ·rename_i qS
   split at h
   ·rename_i bT hc
    have dN:=Gr (bQ h).1;replace h:=(bQ h).2
    obtain⟨ds,its,h1,h2⟩:=Hi h
    split at h2
    ·rename_i x hx
     rw[dF] at h2
     obtain⟨y,hF,h2⟩:=h2
     obtain⟨σ1,h3,h4⟩:=Hl h2
     split at h4
     ·rename_i ls σ2 hs
      refine⟨_,?_,h4⟩
      have e:=CR m hs
      have hM:fn.MM (dj fn.args x)=some (((fG fn.aG y).take (fn.aG.length - fn.mu.bm)).map bG.er,cA (((fG fn.aG y).drop (fn.aG.length - fn.mu.bm)).flatMap (·.2))):=by
       unfold ar.MM
       rw[ar.rO,hF]
       simp only[Option.map_some]
       rw[<-qC,z7]
      have hh:σ.er.h=cB σ.h:=rfl
      rw[G0] at h1
      simp only[nU,ar.Jy hf qS,G9 hc,Hf,if_pos dN,hh,h1,pU hx,hM,h3,e,ab.cW,xm]
     ·cases h4
    ·cases h2
   ·cases h
  ·cases h
 ·cases h
theorem akm {T:List ar} {m:Mode} {d:Option Nat} {f:FuncId} {as:List SV} {σ:ab} {k:ab->Option ρ} {r:ρ} (h:Py T m d f as σ k=some r):
  ∃σ1:ab,r7 (cb T) m d f (as.map SV.er) σ.er=some σ1.er/\k σ1=some r:=by
 unfold Py at h
 split at h
 ·rename_i fn hf
  split at h
  ·rename_i qS
   split at h
   ·rename_i bT hc
    have dN:=Gr (bQ h).1;replace h:=(bQ h).2
    obtain⟨ds,its,h1,h2⟩:=YQ h
    split at h2
    ·rename_i x hx
     rw[dF] at h2
     obtain⟨y,hF,h2⟩:=h2
     obtain⟨σ1,h3,h4⟩:=Hl h2
     split at h4
     ·rename_i ls σ2 hs
      refine⟨_,?_,h4⟩
      have e:=CR m hs
      have hM:fn.MM (dj fn.args x)=some (((fG fn.aG y).take (fn.aG.length - fn.mu.bm)).map bG.er,cA (((fG fn.aG y).drop (fn.aG.length - fn.mu.bm)).flatMap (·.2))):=by
       unfold ar.MM
       rw[ar.rO,hF]
       simp only[Option.map_some]
       rw[<-qC,z7]
      have hh:σ.er.h=cB σ.h:=rfl
      rw[G0] at h1
      simp only[r7,ar.Jy hf qS,hh,YJ hc,YP,if_pos dN,h1,pU hx,hM,h3,e,ab.cW,xm]
     ·cases h4
    ·cases h2
   ·cases h
  ·cases h
 ·cases h
def xc:List SC->Option (List TD)
 |[]=>some []
 |.v t x::cs=>match xc cs with
  |some l=>some (⟨t,x⟩::l)
  |none=>none
 |.nil (t::us)::cs=>match xc cs with
  |some l=>some (⟨.list (t::us),([]:List (Ty.DL (t::us)))⟩::l)
  |none=>none
 |_::_=>none
theorem G4:∀{cs:List SC} {l:List TD},xc cs=some l->j5 (cs.map SC.er)=some (cA l)
 |[],l,h=>by simp only[xc] at h;injection h with h;subst h;rfl
 |c::cs,l,h=>by
  unfold xc at h
  split at h
  ·rename_i e;cases e
  ·rename_i t x cs' e
   injection e with e1 e2
   subst e1 e2
   split at h
   ·rename_i l' e
    injection h with h
    subst h
    simp only[List.map_cons,j5,SC.er,mz,G4 e,cA]
   ·cases h
  ·rename_i t us cs' e
   injection e with e1 e2
   subst e1 e2
   split at h
   ·rename_i l' e
    injection h with h
    subst h
    simp[j5,SC.er,mz,G4 e,cA,Ty.er]
   ·cases h
  ·cases h
def OO (h:Nat->Option SB) (n kk off:Nat):Option (List TD):=
 match kk,off with
 |0,0=>match h n with
  |some (.box cs)=>xc cs
  |_=>none
 |_,_=>none
theorem ake {h:Nat->Option SB} {n kk sz off:Nat} {l:List TD} (e:OO h n kk off=some l):ku (cB h) (SV.er (.one (.ptr n kk sz off)))=some (n,cA l):=by
 unfold OO at e
 split at e
 ·split at e
  ·rename_i cs hn
   simp[SV.er,SC.er,ku,cB,hn,SB.er,G4 e]
  ·cases e
 ·cases e
def SV.p9:SV->Option (Nat×Nat×Nat)
 |.one (.ptr n kk _ off)=>some (n,kk,off)
 |_=>none
theorem ajc {v:SV} (h:v.p9=none) (hh:Nat->Option ak):ku hh v.er=none:=by
 cases v with
 |one c=>cases c<;>first|rfl|(simp[SV.p9] at h)
 |agg cs=>rfl
 |aY xs=>rfl
theorem ajd {v:SV} {n kk off:Nat} (h:v.p9=some (n,kk,off)):∃sz,v=.one (.ptr n kk sz off):=by
 cases v with
 |one c=>cases c<;>simp[SV.p9] at h;obtain⟨rfl,rfl,rfl⟩:=h;exact⟨_,rfl⟩
 |agg cs=>simp[SV.p9] at h
 |aY xs=>simp[SV.p9] at h
def CP (σ:ab):List SV->(List bG->List Nat->ab->Option ρ)->Option ρ
 |[],k=>k [] [] σ
 |v::vs,k=>match v.p9 with
  |some (n,kk,off)=>match OO σ.h n kk off with
   |some l=>CP σ vs fun ds ns σ1=>k ((.ptr,l)::ds) (n::ns) σ1
   |none=>none
  |none=>match v.cells? with
   |some (ag,cs)=>xp σ cs fun l _ σ1=>CP σ1 vs fun ds ns σ2=>k ((Ck ag,l)::ds) ns σ2
   |none=>none
theorem ON:∀{vs:List SV} {σ:ab} {k:List bG->List Nat->ab->Option ρ} {r:ρ},CP σ vs k=some r->
  ∃ds ns σ1,σ.er.fY (vs.map SV.er)=some (ds.map bG.er,ns,σ1.er)/\k ds ns σ1=some r
 |[],σ,k,r,h=>⟨[],[],σ,rfl,h⟩
 |v::vs,σ,k,r,h=>by
  simp only[CP] at h
  split at h
  ·rename_i n kk off hv
   obtain⟨sz,rfl⟩:=ajd hv
   split at h
   ·rename_i l hl
    obtain⟨ds,ns,σ1,h1,h2⟩:=ON h
    refine⟨_,_,σ1,?_,h2⟩
    have:=ake (sz:=sz) hl
    have hh:σ.er.h=cB σ.h:=rfl
    simp only[List.map_cons,St.fY,hh,this,h1,bG.er]
   ·cases h
  ·rename_i hv
   split at h
   ·rename_i ag cs hc
    obtain⟨l,o,σ1,h1,h2⟩:=C3 h
    obtain⟨ds,ns,σ2,h3,h4⟩:=ON h2
    refine⟨_,_,σ2,?_,h4⟩
    simp only[List.map_cons,St.fY,ajc hv,SV.jT hc,h1,h3,bG.er]
    cases ag<;>rfl
   ·cases h
def PS (σ:ab) (ns:List Nat) (out:List TD) (k:ab->Option ρ):Option ρ:=
 match ns,out with
 |[],[]=>k σ
 |[n],out=>match σ.h n with
  |some (.box cs)=>ci cs.length out.length (k (σ.df n (.box (out.map fun x=>.v x.1 x.2))))
  |_=>none
 |_,_=>none
theorem Qy (out:List TD):(out.map fun x=>SC.v x.1 x.2).map SC.er=(cA out).map .c:=by simp[cA,SC.er]
theorem akL {σ:ab} {ns:List Nat} {out:List TD} {k:ab->Option ρ} {r:ρ} (h:PS σ ns out k=some r):∃σ1,σ.er.oD ns (cA out)=some σ1.er/\k σ1=some r:=by
 unfold PS at h
 split at h
 ·exact⟨σ,rfl,h⟩
 ·rename_i n
  split at h
  ·rename_i cs hn
   have he:=(aK h).1;replace h:=(aK h).2
   refine⟨_,?_,h⟩
   have bC:σ.er.h n=some (.box (cs.map SC.er)):=by simp[ab.er,cB,hn,SB.er]
   simp only[St.oD,bC,List.length_map]
   rw[if_pos (by rw[he,cA,List.length_map]),ab.mY,SB.er,Qy]
  ·cases h
 ·cases h
def bG.p9:List bG->Option (List TD)
 |[(.ptr,cs)]=>some cs
 |_=>none
theorem akq {rs:List bG} {cs:List TD} (h:bG.p9 rs=some cs):rs=[(.ptr,cs)]:=by
 unfold bG.p9 at h
 split at h
 ·injection h with h;rw[h]
 ·cases h
def OP (σ:ab) (d:Option Nat) (rs:List bG) (k:ab->Option ρ):Option ρ:=
 match bG.p9 rs with
 |some cs=>match d with
  |some q=>match σ.ins q (.box (cs.map fun x=>.v x.1 x.2)) with
   |some σ1=>k (σ1.put d (.one (.ptr q 0 0 0)))
   |none=>none
  |none=>none
 |none=>match xb rs with
  |some ls=>k (σ.put d (u9 ls))
  |none=>none
theorem akf {σ:ab} {d:Option Nat} {rs:List bG} {k:ab->Option ρ} {r:ρ} (h:OP σ d rs k=some r):∃σ1,nN σ.er d (rs.map bG.er)=some σ1.er/\k σ1=some r:=by
 unfold OP at h
 split at h
 ·rename_i cs hp
  have:=akq hp
  subst this
  split at h
  ·rename_i q
   split at h
   ·rename_i σ1 hi
    refine⟨_,?_,h⟩
    have e:=ab.qF hi
    rw[SB.er,Qy] at e
    simp only[List.map_cons,List.map_nil,bG.er,nN,e,ab.cW]
    rfl
   ·cases h
  ·cases h
 ·split at h
  ·rename_i ls hs
   refine⟨_,?_,h⟩
   have e:=GV hs
   have hb:nN σ.er d (rs.map bG.er)=match fO (rs.map bG.er) with
     |some ls=>some (σ.er.put d (iR ls))
     |none=>none:=by
    unfold nN
    split
    ·rename_i cs he
     rw[he] at e
     simp[fO] at e
    ·rfl
   rw[hb,e,ab.cW,xm]
  ·cases h
def Pv (T:List ar) (d:Option Nat) (f:FuncId) (as:List SV) (σ:ab) (k:ab->Option ρ):Option ρ:=
 match ar.find T f with
 |some fn=>match fn.mu.ed with
  |2=>CP σ as fun ds ns σ1=>match lI fn.args ds with
   |some x=>(fn.F x).ah fun y=>PS σ1 ns (((fG fn.aG y).drop (fn.aG.length - uE fn.args)).flatMap (·.2)) fun σ2=>OP σ2 d ((fG fn.aG y).take (fn.aG.length - uE fn.args)) k
   |none=>none
  |_=>none
 |none=>none
theorem akj {T:List ar} {d:Option Nat} {f:FuncId} {as:List SV} {σ:ab} {k:ab->Option ρ} {r:ρ} (h:Pv T d f as σ k=some r):
  ∃σ1:ab,nT (cb T) d f (as.map SV.er) σ.er=some σ1.er/\k σ1=some r:=by
 unfold Pv at h
 split at h
 ·rename_i fn hf
  split at h
  ·rename_i qS
   obtain⟨ds,ns,σ1,h1,h2⟩:=ON h
   split at h2
   ·rename_i x hx
    rw[dF] at h2
    obtain⟨y,hF,h2⟩:=h2
    obtain⟨σ2,h3,h4⟩:=akL h2
    obtain⟨fm,h5,h6⟩:=akf h4
    refine⟨fm,?_,h6⟩
    have hM:fn.MV (dj fn.args x)=some (((fG fn.aG y).take (fn.aG.length - uE fn.args)).map bG.er,cA (((fG fn.aG y).drop (fn.aG.length - uE fn.args)).flatMap (·.2))):=by
     unfold ar.MV
     rw[ar.rO,hF]
     simp only[Option.map_some]
     rw[<-qC,z7]
    simp only[nT,h1,ar.Ta hf qS,pU hx,hM,h3,h5]
   ·cases h2
  ·cases h
 ·cases h
def ar.m5 (k:Nat):List ar->FuncId->Option ar
 |[],_=>none
 |fn::l,f=>match Nat.beq f fn.id&&Nat.beq fn.mu.ed k with
  |true=>some fn
  |false=>ar.m5 k l f
theorem ar.S7:∀{T:List ar} {f:FuncId} {fn:ar},ar.m5 2 T f=some fn->aA.jb (cb T).vs f=some fn.MV
 |[],f,fn,h=>by simp[ar.m5] at h
 |g::l,f,fn,h=>by
  simp only[ar.m5] at h
  split at h
  ·rename_i e
   injection h with h
   subst h
   rw[Bool.and_eq_true] at e
   have hm:=Nat.eq_of_beq_eq_true e.2
   simp only[cb,List.filterMap_cons,hm,aA.jb]
   rw[if_pos (Nat.eq_of_beq_eq_true e.1)]
  ·rename_i e
   have ih:aA.jb (cb l).vs f=some fn.MV:=ar.S7 h
   simp only[cb,List.filterMap_cons] at ih⊢
   by_cases hg:g.mu.ed=2
   ·simp only[hg,aA.jb]
    rw[if_neg (fun he=>by rw[he,hg,Nat.beq_refl] at e;cases e)]
    exact ih
   ·split
    ·exact ih
    ·rename_i z hz
     split at hz
     ·rename_i h0;exact absurd h0 hg
     ·cases hz
theorem ar.S8:∀{T:List ar} {f:FuncId} {fn:ar},ar.m5 3 T f=some fn->aA.pt (cb T).ws f=some (fn.mu.tl,fn.MW)
 |[],f,fn,h=>by simp[ar.m5] at h
 |g::l,f,fn,h=>by
  simp only[ar.m5] at h
  split at h
  ·rename_i e
   injection h with h
   subst h
   rw[Bool.and_eq_true] at e
   have hm:=Nat.eq_of_beq_eq_true e.2
   simp only[cb,List.filterMap_cons,hm,aA.pt]
   rw[if_pos (Nat.eq_of_beq_eq_true e.1)]
  ·rename_i e
   have ih:aA.pt (cb l).ws f=some (fn.mu.tl,fn.MW):=ar.S8 h
   simp only[cb,List.filterMap_cons] at ih⊢
   by_cases hg:g.mu.ed=3
   ·simp only[hg,aA.pt]
    rw[if_neg (fun he=>by rw[he,hg,Nat.beq_refl] at e;cases e)]
    exact ih
   ·split
    ·exact ih
    ·rename_i z hz
     split at hz
     ·rename_i h0;exact absurd h0 hg
     ·cases hz
theorem ar.S9:∀{T:List ar} {f:FuncId} {fn:ar},ar.m5 4 T f=some fn->aA.pu (cb T).xs f=some (fn.mu.lS,fn.MX)
 |[],f,fn,h=>by simp[ar.m5] at h
 |g::l,f,fn,h=>by
  simp only[ar.m5] at h
  split at h
  ·rename_i e
   injection h with h
   subst h
   rw[Bool.and_eq_true] at e
   have hm:=Nat.eq_of_beq_eq_true e.2
   simp only[cb,List.filterMap_cons,hm,aA.pu]
   rw[if_pos (Nat.eq_of_beq_eq_true e.1)]
  ·rename_i e
   have ih:aA.pu (cb l).xs f=some (fn.mu.lS,fn.MX):=ar.S9 h
   simp only[cb,List.filterMap_cons] at ih⊢
   by_cases hg:g.mu.ed=4
   ·simp only[hg,aA.pu]
    rw[if_neg (fun he=>by rw[he,hg,Nat.beq_refl] at e;cases e)]
    exact ih
   ·split
    ·exact ih
    ·rename_i z hz
     split at hz
     ·rename_i h0;exact absurd h0 hg
     ·cases hz
def Qd (T:List bG) (i:Nat):Bool:=match T[i]? with
 |some (.one,[⟨.list [.int .i64],_⟩])=>true
 |_=>false
theorem akZ {ds:List bG} {i:Nat} (h:Qd ds i=true):∃ys,(ds.map bG.er)[i]? =some (.one,[.list 1 ys]):=by
 unfold Qd at h
 split at h
 ·rename_i x e
  exact⟨_,by rw[List.getElem?_map,e];rfl⟩
 ·cases h
def Yk (a:Int):bG:=(.one,[⟨.int .i64,a⟩])
def PE (T:List ar) (m:Mode) (d:Option Nat) (f:FuncId) (as:List SV) (σ:ab) (k:ab->Option ρ):Option ρ:=
 match ar.m5 4 T f with
 |some fn=>match as[fn.mu.lS]? with
  |some (.one (.sl n s lo len))=>match σ.h n with
   |some (.row _ _ ts xs)=>ci s 1 (ci ts.length 1 ((eZ xs lo).ah fun _=>(d7 xs lo len).ah fun _=>match xg (as.set fn.mu.lS (.one (.sl n 1 0 (aa xs)))) with
    |some bT=>dQ (zG (u5 (vi fn.mu.lS) bT)) (z3 σ.h (zW σ.h (u5 (vi fn.mu.lS) bT)) (vi fn.mu.lS) bT fun ds its=>dQ (Qd ds fn.mu.lS) (match lI fn.args (Yk (be lo)::Yk (be (bW lo len))::ds) with
     |some x=>(fn.F x).ah fun y=>u7 σ its (((fG fn.aG y).drop (fn.aG.length - 1)).flatMap (·.2)) fun σ1=>match uY m σ1 (oz d) ((fG fn.aG y).take (fn.aG.length - 1)) with
      |some (ls,σ2)=>k (σ2.put d (u9 ls))
      |none=>none
     |none=>none))
    |none=>none))
   |_=>none
  |_=>none
 |none=>none
theorem akp {T:List ar} {m:Mode} {d:Option Nat} {f:FuncId} {as:List SV} {σ:ab} {k:ab->Option ρ} {r:ρ} (h:PE T m d f as σ k=some r):
  ∃σ1:ab,r8 (cb T) m d f (as.map SV.er) σ.er=some σ1.er/\k σ1=some r:=by
 unfold PE at h
 split at h
 ·rename_i fn hf
  split at h
  ·rename_i n s lo len ha
   split at h
   ·rename_i gr mo ts xs d9
    have hs1:=(aK h).1
    replace h:=(aK h).2
    have ht1:=(aK h).1
    replace h:=(aK h).2
    rw[dF] at h
    obtain⟨el,he,h⟩:=h
    rw[dF] at h
    obtain⟨wl,hw,h⟩:=h
    subst hs1
    have pG:lo<xs.length:=(List.getElem?_eq_some_iff.1 (show xs[lo]? =some el from he)).1
    have eU:lo+len<=xs.length:=by
     unfold d7 at hw
     split at hw
     ·rename_i hc;exact hc
     ·cases hw
    split at h
    ·rename_i bT hc
     have dN:=Gr (bQ h).1;replace h:=(bQ h).2
     obtain⟨ds,its,h1,h2⟩:=Hi h
     have jZ:=akZ (bQ h2).1;replace h2:=(bQ h2).2
     obtain⟨ys,nf⟩:=jZ
     split at h2
     ·rename_i x hx
      rw[dF] at h2
      obtain⟨y,hF,h2⟩:=h2
      obtain⟨σ1,h3,h4⟩:=Hl h2
      split at h4
      ·rename_i ls σ2 hs
       refine⟨_,?_,h4⟩
       have e:=CR m hs
       have hM:fn.MX (dj fn.args x)=some (((fG fn.aG y).take (fn.aG.length - 1)).map bG.er,cA (((fG fn.aG y).drop (fn.aG.length - 1)).flatMap (·.2))):=by
        unfold ar.MX
        rw[ar.rO,hF]
        simp only[Option.map_some]
        rw[<-qC,z7]
       have hh:σ.er.h=cB σ.h:=rfl
       have bC:σ.er.h n=some (.row gr mo ts.length (List.map (Ty.az ts) xs)):=by simp[ab.er,cB,d9,SB.er]
       have dD:dI lo::dI (lo+len)::ds.map bG.er=dj fn.args x:=pU hx
       have sK:xM fn.mu.lS lo (lo+len) fn.MX (ds.map bG.er)=some (((fG fn.aG y).take (fn.aG.length - 1)).map bG.er,cA (((fG fn.aG y).drop (fn.aG.length - 1)).flatMap (·.2))):=by
        unfold xM
        rw[nf]
        simp only
        rw[dD,hM]
       have hxr:Au σ.er.h (.one (.sl n 1 lo len))=some (n,lo,len,xs.length):=by
        unfold Au
        simp only[bC]
        rw[if_pos ⟨trivial,ht1,by rw[List.length_map];exact pG,by rw[List.length_map];exact eU⟩,List.length_map]
       have pA:(as.map SV.er)[fn.mu.lS]? =some (.one (.sl n 1 lo len)):=by
        rw[List.getElem?_map,ha]
        rfl
       have ua:(as.map SV.er).set fn.mu.lS (.one (.sl n 1 0 xs.length))=(as.set fn.mu.lS (.one (.sl n 1 0 (aa xs)))).map SV.er:=by
        rw[List.map_set]
        rfl
       rw[G0] at h1
       unfold r8
       rw[ar.S9 hf]
       simp only[pA,hxr,ua]
       unfold nU
       simp only[aA.kF,if_true,G9 hc,Hf,if_pos dN,hh,h1,sK,h3,e,ab.cW,xm]
      ·cases h4
     ·cases h2
    ·cases h
   ·cases h
  ·cases h
 ·cases h
def C0:List SV->Option (List bG)
 |[]=>some []
 |v::vs=>match v.cells? with
  |some (ag,cs)=>match xc cs with
   |some l=>match C0 vs with
    |some ds=>some ((Ck ag,l)::ds)
    |none=>none
   |none=>none
  |none=>none
theorem YR:∀{vs:List SV} {ds:List bG},C0 vs=some ds->wZ (vs.map SV.er)=some (ds.map bG.er)
 |[],ds,h=>by simp only[C0] at h;injection h with h;subst h;rfl
 |v::vs,ds,h=>by
  simp only[C0] at h
  split at h
  ·rename_i ag cs hc
   split at h
   ·rename_i l hl
    split at h
    ·rename_i r9 hd
     injection h with h
     subst h
     simp only[List.map_cons,wZ,SV.jT hc,G4 hl,YR hd,bG.er]
     cases ag<;>rfl
    ·cases h
   ·cases h
  ·cases h
def Pz (T:List ar) (d:Option Nat) (f:FuncId) (as:List SV) (σ:ab) (k:ab->Option ρ):Option ρ:=
 match ar.m5 2 T f with
 |some fn=>match C0 as with
  |some ds=>match lI fn.args ds with
   |some x=>(fn.F x).ah fun y=>match((fG fn.aG y).drop (fn.aG.length - uE fn.args)).flatMap (·.2) with
    |[]=>match xb ((fG fn.aG y).take (fn.aG.length - uE fn.args)) with
     |some ls=>k (σ.put d (u9 ls))
     |none=>none
    |_=>none
   |none=>none
  |none=>none
 |none=>none
theorem akn {T:List ar} {d:Option Nat} {f:FuncId} {as:List SV} {σ:ab} {k:ab->Option ρ} {r:ρ} (h:Pz T d f as σ k=some r):
  ∃v:SV,vR (cb T) f (as.map SV.er)=some v.er/\k (σ.put d v)=some r:=by
 unfold Pz at h
 split at h
 ·rename_i fn hf
  split at h
  ·rename_i ds hd
   split at h
   ·rename_i x hx
    rw[dF] at h
    obtain⟨y,hF,h⟩:=h
    split at h
    ·rename_i ho
     split at h
     ·rename_i ls hs
      refine⟨_,?_,h⟩
      have hM:fn.MV (dj fn.args x)=some (((fG fn.aG y).take (fn.aG.length - uE fn.args)).map bG.er,[]):=by
       unfold ar.MV
       rw[ar.rO,hF]
       simp only[Option.map_some]
       rw[<-qC,z7,ho]
       rfl
      simp only[vR,YR hd,ar.S7 hf,pU hx,hM,GV hs,xm]
     ·cases h
    ·cases h
   ·cases h
  ·cases h
 ·cases h
def PD (T:List ar) (d:Option Nat) (f:FuncId) (as:List SV) (σ:ab) (k:ab->Option ρ):Option ρ:=
 match ar.m5 3 T f with
 |some fn=>match fn.mu.ed with
  |3=>match xg as with
   |some bT=>match u5 fn.mu.tl bT with
    |[n]=>z3 σ.h (zW σ.h [n]) fn.mu.tl bT fun ds its=>match its with
     |[(.row n',_)]=>ci n' n (match σ.h n with
      |some (.row _ _ ts xs)=>match lI fn.args ds with
       |some x=>(fn.F x).ah fun y=>match fG fn.aG y with
        |[(.one,[⟨.int _,a⟩]),(.one,[⟨.int _,b⟩])]=>(u4 a b (aa xs)).ah fun p=>k (σ.put d (.one (.sl n ts.length p.1 p.2)))
        |_=>none
       |none=>none
      |_=>none)
     |_=>none
    |_=>none
   |none=>none
  |_=>none
 |none=>none
theorem ako {T:List ar} {d:Option Nat} {f:FuncId} {as:List SV} {σ:ab} {k:ab->Option ρ} {r:ρ} (h:PD T d f as σ k=some r):
  ∃v:SV,mX (cb T) f (as.map SV.er) σ.er.h=some v.er/\k (σ.put d v)=some r:=by
 unfold PD at h
 split at h
 ·rename_i fn hf
  split at h
  ·rename_i qS
   split at h
   ·rename_i bT hc
    split at h
    ·rename_i n hn
     obtain⟨ds,its,h1,h2⟩:=Hi h
     split at h2
     ·rename_i n' md
      have he:=(aK h2).1;replace h2:=(aK h2).2
      subst he
      split at h2
      ·rename_i gr mo ts xs d9
       split at h2
       ·rename_i x hx
        rw[dF] at h2
        obtain⟨y,hF,h2⟩:=h2
        split at h2
        ·rename_i ka a kb b hy
         rw[dF] at h2
         obtain⟨p,hs,h2⟩:=h2
         refine⟨_,?_,h2⟩
         unfold u4 at hs
         split at hs
         ·rename_i cm
          injection hs with hs
          subst hs
          have hM:fn.MW (dj fn.args x)=some (Int.toNat a,Int.toNat (@HSub.hSub Int Int Int instHSub b a)):=by
           unfold ar.MW
           rw[ar.rO,hF]
           simp only[Option.map_some,Option.bind_some]
           rw[<-qC,hy]
           rfl
          have hh:σ.er.h=cB σ.h:=rfl
          have bC:σ.er.h n'=some (.row gr mo ts.length (List.map (Ty.az ts) xs)):=by simp[ab.er,cB,d9,SB.er]
          rw[G0] at h1
          simp only[mX,ar.S8 hf,G9 hc,Hf,hn,hh,h1,pU hx,hM]
          rw[hh] at bC
          simp only[bC,if_true]
          rfl
         ·cases hs
        ·cases h2
       ·cases h2
      ·cases h2
     ·cases h2
    ·cases h
   ·cases h
  ·cases h
 ·cases h
def PI (σ:ab) (p:SC) (k:ab->Option ρ):Option ρ:=
 match p with
 |.ptr n _ _ _=>match σ.h n with
  |some (.box cs)=>xp σ cs fun l _ σ1=>k (σ1.df n (.box (l.map fun x=>.v x.1 x.2)))
  |_=>none
 |_=>none
theorem aku {σ:ab} {p:SC} {k:ab->Option ρ} {r:ρ} (h:PI σ p k=some r):∃σ1,σ.er.nZ p.er=some σ1.er/\k σ1=some r:=by
 unfold PI at h
 split at h
 ·rename_i n kk sz off
  split at h
  ·rename_i cs hn
   obtain⟨l,o,σ1,h1,h2⟩:=C3 h
   refine⟨_,?_,h2⟩
   have bC:σ.er.h n=some (.box (cs.map SC.er)):=by simp[ab.er,cB,hn,SB.er]
   simp only[SC.er,St.nZ,bC,h1]
   rw[ab.mY,SB.er,Qy]
  ·cases h
 ·cases h
inductive cj where
 |mv (x:bZ)
 |pick (c x y:bZ)
 |alloc (zs:List SC)
 |box (sz:Nat) (x:bZ)
 |build (zs:List SC) (parts:List (Nat×Nat×bZ))
 |gA (ts:List Ty) (parts:List bZ)
 |load (ag:Bool) (sz:Nat) (x:bZ)
 |store (sz:Nat) (x v:bZ)
 |mG (x:bZ)
 |bin (op:BinOp) (x y:bZ)
 |kv (op:BinOp) (x y:bZ)
 |un (op:UnOp) (x:bZ)
 |conv (k:IntKind) (x:bZ)
 |kg (m:Mode) (ts:List Ty) (by_:Nat) (z:Ty.DL ts) (l c:bZ)
 |slice (sz:Nat) (x:bZ) (lo hi:Option bZ)
 |tail (sz:Nat) (x lo:bZ)
 |mC (ag:Bool) (sz:Nat) (x:bZ)
 |aB (off:Nat) (x:bZ)
 |cR (sz:Nat) (x i:bZ)
 |ext (i:Nat) (x:bZ)
 |m7 (ag:Bool) (off sz:Nat) (x:bZ)
 |mK (f:FuncId) (bw:Bool) (x:bZ)
 |len (x:bZ)
 |append (fl:Bool) (ts:List Ty) (by_:Nat) (x y:bZ)
 |mm (mx:Bool) (x y:bZ)
 |call (m:Mode) (f:FuncId) (xs:List bZ)
 |kw (f:FuncId) (xs:List bZ)
 |copy (x y:bZ)
 |jz (t:Ty) (z:t.D) (x:bZ)
 |mF (f:FuncId) (xs:List bZ)
 |ky (m:Mode) (x:bZ) (xs:List bZ)
 |iZ (m:Mode) (f:FuncId) (xs:List bZ)
 |iu (f:FuncId) (xs:List bZ)
 |kA (f:FuncId) (xs:List bZ)
 |kx (f:FuncId) (xs:List bZ)
 |kB (m:Mode) (f:FuncId) (xs:List bZ)
 |kz (m:Mode) (f:FuncId) (x:bZ) (xs:List bZ)
def cj.er:cj->aw
 |.mv x=>.mv x.er
 |.pick c x y=>.pick c.er x.er y.er
 |.alloc zs=>.alloc (zs.map SC.er)
 |.box sz x=>.box sz x.er
 |.build zs ps=>.build (zs.map SC.er) (ps.map fun p=>(p.1,p.2.1,p.2.2.er))
 |.gA ts ps=>.gA ts.length (ps.map bZ.er)
 |.load ag sz x=>.load ag sz x.er
 |.mC ag sz x=>.mC ag sz x.er
 |.store sz x v=>.store sz x.er v.er
 |.mG x=>.mG x.er
 |.bin op x y=>.bin op x.er y.er
 |.kv op x y=>.kv op x.er y.er
 |.un op x=>.un op x.er
 |.conv k x=>.conv k x.er
 |.kg m ts by_ z l c=>.kg m ts.length by_ (Ty.az ts z) l.er c.er
 |.slice sz x lo hi=>.slice sz x.er (lo.map bZ.er) (hi.map bZ.er)
 |.tail sz x lo=>.tail sz x.er lo.er
 |.aB off x=>.aB off x.er
 |.cR sz x i=>.cR sz x.er i.er
 |.ext i x=>.ext i x.er
 |.m7 ag off sz x=>.m7 ag off sz x.er
 |.mK f bw x=>.mK f bw x.er
 |.len x=>.len x.er
 |.append fl ts by_ x y=>.append fl ts.length by_ x.er y.er
 |.mm b x y=>.mm b x.er y.er
 |.call m f xs=>.call m f (xs.map bZ.er)
 |.kw f xs=>.kw f (xs.map bZ.er)
 |.copy x y=>.copy 1 x.er y.er
 |.jz t z x=>.jz (t.er z) x.er
 |.mF f xs=>.mF f (xs.map bZ.er)
 |.ky m x xs=>.ky m x.er (xs.map bZ.er)
 |.iZ m f xs=>.iZ m f (xs.map bZ.er)
 |.iu f xs=>.iu f (xs.map bZ.er)
 |.kA f xs=>.kA f (xs.map bZ.er)
 |.kx f xs=>.kx f (xs.map bZ.er)
 |.kB m f xs=>.kB m f (xs.map bZ.er)
 |.kz m f x xs=>.kz m f x.er (xs.map bZ.er)
theorem pq (σ:ab) (xs:List bZ):(xs.map bZ.er).map σ.er.ev=(xs.map σ.ev).map SV.er:=by
 simp[ab.cY]
def C2 (ev:bZ->SV):List SC->List (Nat×Nat×bZ)->Option (List SC)
 |zs,[]=>some zs
 |zs,(off,sz,x)::ps=>match(ev x).cells? with
  |some (_,cs)=>ci cs.length sz (dQ (Nat.ble (off+sz) zs.length) (C2 ev (bY zs off cs) ps))
  |none=>none
theorem YZ {σ:ab}:∀{ps:List (Nat×Nat×bZ)} {zs cs:List SC},C2 σ.ev zs ps=some cs->
  nF σ.er.ev (zs.map SC.er) (ps.map fun p=>(p.1,p.2.1,p.2.2.er))=some (cs.map SC.er)
 |[],zs,cs,h=>by simp only[C2] at h;injection h with h;subst h;rfl
 |(off,sz,x)::ps,zs,cs,h=>by
  simp only[C2] at h
  split at h
  ·rename_i b R9 hc
   have aS:=(aK h).1;replace h:=(aK h).2;subst aS
   have hb:=(bQ h).1;replace h:=(bQ h).2
   have ih:=YZ h
   rw[z6] at ih
   have eU:=Nat.le_of_ble_eq_true hb
   simp only[List.map_cons,nF,ab.cY,SV.jT hc,List.length_map,eU,and_self,if_true,ih]
  ·cases h
def GR (l:List TD):Bool:=l.all fun x=>x.1.dX
theorem akg (l:List TD):eW (cA l)=GR l:=by
 simp[eW,cA,GR,List.all_map,Function.comp_def,Ty.uV]
def P3 (σ:ab) (n:Nat) (gr:Bool) (m:Mode) (ts:List Ty) (xs:List (Ty.DL ts)) (kk off:Nat) (e:Ty.DL ts) (vs:List SC) (k:ab->Option ρ):Option ρ:=
 match sub (Ty.f0 ts e) off vs.length with
 |none=>none
 |some eQ=>xp σ vs fun cs o σ1=>match oy ts (bY (Ty.f0 ts e) off cs) with
  |none=>none
  |some e'=>match m with
   |.live=>dQ (GR cs&&GR eQ&&(σ1.h n).isSome) (k (σ1.df n (.row gr .live ts (cM xs kk e'))))
   |.aj=>dQ (σ1.h n).isSome (k (σ1.df n (.row gr (match o with|true=>.aj|false=>.aF) ts (cM xs kk e'))))
   |.aF=>dQ (σ1.h n).isSome (k (σ1.df n (.row gr .aF ts (cM xs kk e'))))
theorem SD (h:Nat->Option SB) (n:Nat):(cB h n).isSome=(h n).isSome:=by
 unfold cB;cases h n<;>rfl
theorem akQ {σ:ab} {n:Nat} {gr:Bool} {m:Mode} {ts:List Ty} {xs:List (Ty.DL ts)} {kk off:Nat} {e:Ty.DL ts} {vs:List SC} {k:ab->Option ρ} {r:ρ}
  (h:P3 σ n gr m ts xs kk off e vs k=some r):
  ∃σ1:ab,k7 σ.er n gr m ts.length (List.map (Ty.az ts) xs) kk off (Ty.az ts e) (vs.map SC.er)=some σ1.er/\k σ1=some r:=by
 unfold P3 at h
 split at h
 ·cases h
 ·rename_i eQ ho
  obtain⟨cs,o,σ1,h1,h2⟩:=C3 h
  have hold:sub (Ty.az ts e) off (vs.map SC.er).length=some (cA eQ):=by
   rw[<-Ty.pg]
   simp only[cA]
   rw[oP,List.length_map,ho]
   rfl
  split at h2
  ·cases h2
  ·rename_i e' he
   have wC:bY (Ty.az ts e) off (cA cs)=Ty.az ts e':=by
    rw[uA he,<-Ty.pg]
    simp only[cA]
    rw[<-z6]
   have ua:(List.map (Ty.az ts) xs).set kk (Ty.az ts e')=List.map (Ty.az ts) (cM xs kk e'):=by
    show _=List.map (Ty.az ts) (xs.set kk e')
    rw[List.map_set]
   have yV:σ1.er.h n=(σ1.h n).map SB.er:=rfl
   split at h2
   ·have hb:=(bQ h2).1;replace h2:=(bQ h2).2
    simp only[Bool.and_eq_true] at hb
    refine⟨_,?_,h2⟩
    simp only[k7,hold,h1,if_true,akg,hb.1.1,hb.1.2,yV,Option.isSome_map,hb.2,and_self,wC,ua,ab.mY,SB.er]
   ·have hb:=(bQ h2).1;replace h2:=(bQ h2).2
    refine⟨_,?_,h2⟩
    cases o<;>simp only[k7,hold,h1,yV,Option.isSome_map,hb,wC,ua,ab.mY,SB.er,reduceCtorEq,if_false,if_true,Bool.false_eq_true,cond_true,cond_false,ite_self]
   ·have hb:=(bQ h2).1;replace h2:=(bQ h2).2
    refine⟨_,?_,h2⟩
    cases o<;>simp only[k7,hold,h1,yV,Option.isSome_map,hb,wC,ua,ab.mY,SB.er,reduceCtorEq,if_false,if_true,Bool.false_eq_true,cond_true,cond_false,ite_self]
def tG (us ts:List Ty) (xs:List (Ty.DL us)):Option (List (Ty.DL ts)):=if h:Ty.pd us ts=true then some (Ty.pf h▸xs) else none
theorem IX {us ts:List Ty} {xs:List (Ty.DL us)} {ys:List (Ty.DL ts)} (h:tG us ts xs=some ys):us.length=ts.length/\List.map (Ty.az us) xs=List.map (Ty.az ts) ys/\xs.length=ys.length:=by
 unfold tG at h
 split at h
 ·rename_i he
  have:=Ty.pf he
  subst this
  injection h with h
  rw[<-h]
  exact⟨rfl,rfl,rfl⟩
 ·cases h
def OK (σ:ab) (ts:List Ty) (v:SV) (k:List (Ty.DL ts)->Mode->ab->Option ρ):Option ρ:=
 match v with
 |.one (.nil _)=>k [] .aj σ
 |.one (.sl a s lo len)=>match σ.h a with
  |some (.row true m us xs)=>ci s ts.length (ci lo 0 (match tG us ts xs with
   |some ys=>(aI lo len (aa ys)).ah fun _=>k ys m (σ.del a)
   |none=>none))
  |_=>none
 |_=>none
theorem Kk {lo len l:Nat} {u:Unit} (h:aI lo len l=some u):lo=0/\len=l:=by
 unfold aI at h
 split at h
 ·rename_i hc;exact hc
 ·cases h
theorem akb {σ:ab} {ts:List Ty} {v:SV} {k:List (Ty.DL ts)->Mode->ab->Option ρ} {r:ρ} (h:OK σ ts v k=some r):
  ∃(xs:List (Ty.DL ts)) (m:Mode) (σ1:ab),nM σ.er ts.length v.er=some (List.map (Ty.az ts) xs,m,σ1.er)/\k xs m σ1=some r:=by
 unfold OK at h
 split at h
 ·exact⟨[],.aj,σ,rfl,h⟩
 ·rename_i a s lo len
  split at h
  ·rename_i m us xs hn
   have aS:=(aK h).1;replace h:=(aK h).2;subst aS
   have aS:=(aK h).1;replace h:=(aK h).2;subst aS
   split at h
   ·rename_i ys hc
    obtain⟨c1,c2,c3⟩:=IX hc
    rw[dF] at h
    obtain⟨_,hf,h⟩:=h
    obtain⟨_,hlen⟩:=Kk hf
    replace hlen:len=ys.length:=hlen
    refine⟨ys,m,σ.del a,?_,h⟩
    have bC:σ.er.h a=some (.row true m ts.length (List.map (Ty.az ts) ys)):=by simp[ab.er,cB,hn,SB.er,c1,c2]
    subst hlen
    simp only[SV.er,SC.er,nM,bC,List.length_map,and_self,if_true,ab.ET]
   ·cases h
  ·cases h
 ·cases h
theorem Yg (ts:List Ty) (xs:List (Ty.DL ts)) (h:Ty.eW ts=true):fB (List.map (Ty.az ts) xs)=true:=by
 simp only[fB,List.all_eq_true,List.mem_map]
 rintro _ ⟨e,_,rfl⟩
 rw[Ty.GS]
 exact h
def OL (fl:Bool) (σ:ab) (ts:List Ty) (m:Mode) (v:SV) (k:List (Ty.DL ts)->Mode->ab->Option ρ):Option ρ:=
 match v with
 |.one (.nil _)=>k [] m σ
 |.one (.v (.list us) ys)=>match tG us ts ys with
  |some zs=>match fl with
   |true=>dQ (Ty.eW ts) (k zs m σ)
   |false=>match m with
    |.live=>none
    |_=>k zs .aF σ
  |none=>none
 |.one (.sl b s lo len)=>match σ.h b with
  |some (.row _ m' us ys)=>ci s ts.length (match tG us ts ys with
   |some zs=>match fl with
    |true=>dQ (Ty.eW ts) ((d7 zs lo len).ah fun ws=>k ws m σ)
    |false=>(aI lo len (aa zs)).ah fun _=>match m,m' with
     |.aj,.aj=>k zs .aj (σ.del b)
     |.live,.live=>k zs .live (σ.del b)
     |.aF,.aF=>k zs .aF (σ.del b)
     |.aj,.aF=>k zs .aF (σ.del b)
     |.aF,.aj=>k zs .aF (σ.del b)
     |_,_=>none
   |none=>none)
  |_=>none
 |_=>none
theorem akc {fl:Bool} {σ:ab} {ts:List Ty} {m:Mode} {v:SV} {k:List (Ty.DL ts)->Mode->ab->Option ρ} {r:ρ} (h:OL fl σ ts m v k=some r):
  ∃(ys:List (Ty.DL ts)) (m2:Mode) (σ1:ab),jR fl σ.er ts.length m v.er=some (List.map (Ty.az ts) ys,m2,σ1.er)/\k ys m2 σ1=some r:=by
 unfold OL at h
 split at h
 ·exact⟨[],m,σ,rfl,h⟩
 ·rename_i us ys
  split at h
  ·rename_i zs hc
   obtain⟨e1,e2,e3⟩:=IX hc
   have kC:Ty.er (.list us) ys=.list ts.length (List.map (Ty.az ts) zs):=by rw[<-e1,<-e2];rfl
   split at h
   ·have hs:=(bQ h).1;replace h:=(bQ h).2
    refine⟨zs,m,σ,?_,h⟩
    simp only[SV.er,SC.er,kC,jR,if_true,Bool.true_and,Yg ts zs hs]
   ·split at h
    ·cases h
    ·rename_i hm
     refine⟨zs,.aF,σ,?_,h⟩
     have bx:m≠ .live:=fun e=>hm e
     simp only[SV.er,SC.er,kC,jR,if_true,Bool.false_and,Bool.false_eq_true,if_false,if_neg bx]
  ·cases h
 ·rename_i b s lo len
  split at h
  ·rename_i gr m' us ys hn
   have aS:=(aK h).1;replace h:=(aK h).2;subst aS
   split at h
   ·rename_i zs hc
    obtain⟨e1,e2,e3⟩:=IX hc
    have bC:σ.er.h b=some (.row gr m' ts.length (List.map (Ty.az ts) zs)):=by simp[ab.er,cB,hn,SB.er,e1,e2]
    split at h
    ·have hs:=(bQ h).1;replace h:=(bQ h).2
     rw[dF] at h
     obtain⟨ws,hw,h⟩:=h
     obtain⟨w1,w2⟩:=ZB hw
     refine⟨ws,m,σ,?_,h⟩
     simp only[SV.er,SC.er,jR,bC,List.length_map,w1,w2,and_self,if_true,Bool.true_and,Yg ts ws hs]
    ·rw[dF] at h
     obtain⟨_,hf,h⟩:=h
     obtain⟨rfl,hlen⟩:=Kk hf
     replace hlen:len=zs.length:=hlen
     subst hlen
     have yX:List.take zs.length (List.map (Ty.az ts) zs)=List.map (Ty.az ts) zs:=by
      rw[List.take_of_length_le];simp
     cases m<;>cases m'<;>first
      |(cases h;done)
      |exact⟨zs,_,σ.del b,by simp[SV.er,SC.er,jR,bC,ab.ET],h⟩
   ·cases h
  ·cases h
 ·cases h
def SC.Tn:SC->Bool
 |.fn _ _=>false
 |.bg=>false
 |_=>true
def xj:List SV->Option (List SC)
 |[]=>some []
 |.one c::vs=>match c.Tn,xj vs with
  |true,some cs=>some (c::cs)
  |_,_=>none
 |_::_=>none
theorem YD:∀{vs:List SV} {cs:List SC},xj vs=some cs->
  (vs.map SV.er).mapM (fun v=>match v with|.one c=>if c.iO=true then none else some c|_=>none)=some (cs.map SC.er)/\(cs.map SC.er).all ae.CB=true
 |[],cs,h=>by simp only[xj] at h;injection h with h;subst h;exact⟨rfl,rfl⟩
 |.one c::vs,cs,h=>by
  simp only[xj] at h
  split at h
  ·rename_i cs' e1 e2
   injection h with h
   subst h
   obtain⟨i1,i2⟩:=YD e2
   have hc:c.er.iO=false/\c.er.CB=true:=by cases c<;>first|exact⟨rfl,rfl⟩|(simp[SC.Tn] at e1)
   refine⟨?_,by simp[hc.2];simpa using i2⟩
   simp only[List.map_cons,List.mapM_cons,SV.er,hc.1]
   rw[i1]
   rfl
  ·cases h
 |.agg _::_,cs,h=>by simp[xj] at h
 |.aY _::_,cs,h=>by simp[xj] at h
end
end Go.Am
