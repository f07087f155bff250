/- S3: typed functions, and one operation of the typed evaluator. No condition. -/
import Derived.Test.YtifmggmhdcdgbaaS2
set_option linter.unusedVariables false
set_option linter.unusedSimpArgs false
namespace Go.Am
def aV:List (List Ty)->Type
 |[]=>Unit
 |ts::l=>match l with
  |[]=>Ty.DL ts
  |us::l'=>Ty.DL ts×aV (us::l')
abbrev au:=List (K×List Ty)
abbrev au.aU (s:au):List (List Ty):=s.map (·.2)
def cU:(as:au)->aV as.aU->List Dv
 |[],_=>[]
 |[a],x=>[(a.1,Ty.aF a.2 x)]
 |a::b::as,x=>(a.1,Ty.aF a.2 x.1)::cU (b::as) x.2
def nE:(as:au)->aV as.aU->List bP
 |[],_=>[]
 |[a],x=>[(a.1,Ty.gK a.2 x)]
 |a::b::as,x=>(a.1,Ty.gK a.2 x.1)::nE (b::as) x.2
theorem Ai:∀(as:au) (x:aV as.aU),(nE as x).map bP.er=cU as x
 |[],_=>rfl
 |[a],x=>congrArg (fun l=>[((a.1,l):Dv)]) (Ty.pw a.2 x)
 |a::b::as,x=>by
  have:=Ai (b::as) x.2
  simp only[nE,cU,List.map_cons,bP.er,Ty.pw,this]
def K.beq:K->K->Bool
 |.one,.one=>true
 |.agg,.agg=>true
 |.ptr,.ptr=>true
 |_,_=>false
theorem K.beq_eq {a b:K} (h:K.beq a b=true):a=b:=by cases a<;>cases b<;>first|rfl|cases h
def HP (ts:List Ty):(l:List (List Ty))->Ty.DL ts->aV l->aV (ts::l)
 |[],x,_=>x
 |_::_,x,y=>(x,y)
theorem WJ (a:K×List Ty):∀(as:au) (x:Ty.DL a.2) (y:aV (au.aU as)),cU (a::as) (HP a.2 (au.aU as) x y)=(a.1,Ty.aF a.2 x)::cU as y
 |[],_,_=>rfl
 |_::_,_,_=>rfl
def qp:(as:au)->List bP->Option (aV as.aU)
 |[],[]=>some ()
 |a::as,d::ds=>eH (K.beq a.1 d.1) (match qn a.2 d.2,qp as ds with
  |some x,some y=>some (HP a.2 (au.aU as) x y)
  |_,_=>none)
 |_,_=>none
theorem wZ:∀{as:au} {ds:List bP} {x:aV as.aU},qp as ds=some x->ds.map bP.er=cU as x
 |[],[],x,h=>rfl
 |a::as,d::ds,x,h=>by
  simp only[qp] at h
  have h1:=(bT h).1;replace h2:=(bT h).2
  split at h2
  ·rename_i y z e1 e2
   injection h2 with h2
   subst h2
   rw[WJ,List.map_cons,wZ e2,bP.er,<-K.beq_eq h1,<-w4 e1]
  ·cases h2
 |[],_::_,x,h=>by simp[qp] at h
 |a::as,[],x,h=>by simp[qp] at h
mutual
theorem Ty.WN:∀(t:Ty) (x y:t.D),t.er x=t.er y->x=y
 |.int k,x,y,h=>by simp only[Ty.er] at h;injection h
 |.bool,x,y,h=>by simp only[Ty.er] at h;injection h
 |.list ts,x,y,h=>by simp only[Ty.er] at h;injection h with _ h;exact Ty.WM ts x y h
theorem Ty.WM:∀(ts:List Ty) (xs ys:List (Ty.DL ts)),List.map (Ty.aF ts) xs=List.map (Ty.aF ts) ys->xs=ys
 |ts,[],[],h=>rfl
 |ts,x::xs,y::ys,h=>by
  simp only[List.map_cons,List.cons.injEq] at h
  rw[Ty.H7 ts x y h.1,Ty.WM ts xs ys h.2]
 |ts,[],_::_,h=>by simp at h
 |ts,_::_,[],h=>by simp at h
theorem Ty.H7:∀(ts:List Ty) (x y:Ty.DL ts),Ty.aF ts x=Ty.aF ts y->x=y
 |[],x,y,h=>rfl
 |[t],x,y,h=>by simp only[Ty.aF,List.cons.injEq,and_true] at h;exact Ty.WN t x y h
 |t::u::ts,x,y,h=>by
  simp only[Ty.aF,List.cons.injEq] at h
  exact Prod.ext (Ty.WN t x.1 y.1 h.1) (Ty.H7 (u::ts) x.2 y.2 h.2)
end
theorem WK:∀(as:au) (x y:aV as.aU),cU as x=cU as y->x=y
 |[],x,y,h=>rfl
 |[a],x,y,h=>by simp[cU] at h;exact Ty.H7 a.2 x y h
 |a::b::as,x,y,h=>by
  simp only[cU,List.cons.injEq,Prod.mk.injEq,true_and] at h
  exact Prod.ext (Ty.H7 a.2 x.1 y.1 h.1) (WK (b::as) x.2 y.2 h.2)
structure aI where
 id:FuncId
 args:au
 mu:be
 aE:au
 F:aV args.aU->Option (aV aE.aU)
open Classical in
noncomputable def aI.M (fn:aI) (ds:List Dv):Option (List Dv):=
 if h:∃x,cU fn.args x=ds then(fn.F h.choose).map (cU fn.aE) else none
theorem aI.CR (fn:aI) (x:aV fn.args.aU):fn.M (cU fn.args x)=(fn.F x).map (cU fn.aE):=by
 have h:∃y,cU fn.args y=cU fn.args x:=⟨x,rfl⟩
 unfold aI.M
 rw[dif_pos h,WK _ _ _ h.choose_spec]
theorem aI.LX {fn:aI} {ds rs:List Dv} (h:fn.M ds=some rs):∃x y,ds=cU fn.args x/\fn.F x=some y/\rs=cU fn.aE y:=by
 unfold aI.M at h
 split at h
 ·rename_i e
  rw[Option.map_eq_some_iff] at h
  obtain⟨y,h1,h2⟩:=h
  exact⟨_,y,e.choose_spec.symm,h1,h2.symm⟩
 ·cases h
def be.nD:be->Nat
 |[]=>0
 |s::l=>(s.filter Option.isSome).length+be.nD l
def xp (k:Nat) (rs:List Dv):List Dv×List C:=(rs.take k,(rs.drop k).flatMap (·.2))
noncomputable def aI.MM (fn:aI) (ds:List Dv):Option (List Dv×List C):=(fn.M ds).map (xp (fn.aE.length - fn.mu.nD))
def be.iE:be->Nat
 |[]=>0
 |[[some .aA]]=>2
 |_=>1
def Az:au->Bool
 |[]=>false
 |(.ptr,_)::_=>true
 |_::as=>Az as
def tz (as:au):Nat:=match Az as with
 |true=>1
 |false=>0
noncomputable def aI.MV (fn:aI) (ds:List Dv):Option (List Dv×List C):=(fn.M ds).map (xp (fn.aE.length - tz fn.args))
noncomputable def de (T:List aI):bj:=
 ⟨T.filterMap fun fn=>match fn.mu.iE with|0=>some (fn.id,fn.M)|_=>none,T.filterMap fun fn=>match fn.mu.iE with|1=>some (fn.id,fn.mu,fn.MM)|_=>none,
  T.filterMap fun fn=>match fn.mu.iE with|2=>some (fn.id,fn.MV)|_=>none⟩
def aI.find:List aI->FuncId->Option aI
 |[],_=>none
 |fn::l,f=>match Nat.beq f fn.id with
  |true=>some fn
  |false=>aI.find l f
theorem aI.M1:∀{T:List aI} {f:FuncId} {fn:aI},aI.find T f=some fn->fn.mu.iE=0->bj.find (de T).pure f=some fn.M
 |[],f,fn,h,_=>by simp[aI.find] at h
 |g::l,f,fn,h,hm=>by
  simp only[aI.find] at h
  split at h
  ·rename_i e
   injection h with h
   subst h
   simp only[de,List.filterMap_cons,hm,bj.find]
   rw[if_pos (Nat.eq_of_beq_eq_true e)]
  ·rename_i e
   have ih:bj.find (de l).pure f=some fn.M:=aI.M1 h hm
   simp only[de,List.filterMap_cons] at ih⊢
   by_cases hg:g.mu.iE=0
   ·simp only[hg,bj.find]
    rw[if_neg (fun he=>by rw[he,Nat.beq_refl] at e;cases e)]
    exact ih
   ·split
    ·exact ih
    ·rename_i z hz
     split at hz
     ·rename_i h0;exact absurd h0 hg
     ·cases hz
theorem aI.Xb:∀{T:List aI} {f:FuncId} {fn:aI},aI.find T f=some fn->fn.mu.iE=1->bj.qV (de T).BW f=some (fn.mu,fn.MM)
 |[],f,fn,h,_=>by simp[aI.find] at h
 |g::l,f,fn,h,hm=>by
  simp only[aI.find] at h
  split at h
  ·rename_i e
   injection h with h
   subst h
   simp only[de,List.filterMap_cons,hm,bj.qV]
   rw[if_pos (Nat.eq_of_beq_eq_true e)]
  ·rename_i e
   have ih:bj.qV (de l).BW f=some (fn.mu,fn.MM):=aI.Xb h hm
   simp only[de,List.filterMap_cons] at ih⊢
   by_cases hg:g.mu.iE=1
   ·simp only[hg,bj.qV]
    rw[if_neg (fun he=>by rw[he,Nat.beq_refl] at e;cases e)]
    exact ih
   ·split
    ·exact ih
    ·rename_i z hz
     split at hz
     ·rename_i h0;exact absurd h0 hg
     ·cases hz
theorem aI.Xc:∀{T:List aI} {f:FuncId} {fn:aI},aI.find T f=some fn->fn.mu.iE=2->bj.nI (de T).vs f=some fn.MV
 |[],f,fn,h,_=>by simp[aI.find] at h
 |g::l,f,fn,h,hm=>by
  simp only[aI.find] at h
  split at h
  ·rename_i e
   injection h with h
   subst h
   simp only[de,List.filterMap_cons,hm,bj.nI]
   rw[if_pos (Nat.eq_of_beq_eq_true e)]
  ·rename_i e
   have ih:bj.nI (de l).vs f=some fn.MV:=aI.Xc h hm
   simp only[de,List.filterMap_cons] at ih⊢
   by_cases hg:g.mu.iE=2
   ·simp only[hg,bj.nI]
    rw[if_neg (fun he=>by rw[he,Nat.beq_refl] at e;cases e)]
    exact ih
   ·split
    ·exact ih
    ·rename_i z hz
     split at hz
     ·rename_i h0;exact absurd h0 hg
     ·cases hz
def vh (m:Mode) (σ:ah):Nat->List TD->Option (List SC×Nat×ah)
 |nm,[]=>some ([],nm,σ)
 |nm,⟨t,x⟩::cs=>match t,x with
  |.list ts,xs=>match σ.ins nm (.row true m ts xs) with
   |some σ1=>match vh m σ1 (nm+1) cs with
    |some (l,eY,σ2)=>some (.sl nm ts.length 0 (U (α:=Ty.DL ts) xs)::l,eY,σ2)
    |none=>none
   |none=>none
  |.int k,x=>match vh m σ nm cs with
   |some (l,eY,σ2)=>some (.v (.int k) x::l,eY,σ2)
   |none=>none
  |.bool,x=>match vh m σ nm cs with
   |some (l,eY,σ2)=>some (.v .bool x::l,eY,σ2)
   |none=>none
theorem KS (m:Mode):∀{cs:List TD} {σ σ1:ah} {nm eY:Nat} {l:List SC},vh m σ nm cs=some (l,eY,σ1)->
  σ.er.imp m nm (cf cs)=some (l.map SC.er,eY,σ1.er)
 |[],σ,σ1,nm,eY,l,h=>by
  simp only[vh] at h
  injection h with h
  injection h with h1 h2
  injection h2 with h2 h3
  subst h1 h2 h3
  rfl
 |⟨.list ts,xs⟩::cs,σ,σ2,nm,eY,l,h=>by
  simp only[vh] at h
  split at h
  ·rename_i σ1 e1
   split at h
   ·rename_i l' EP gz e2
    injection h with h
    injection h with h1 h2
    injection h2 with h2 h3
    subst h1 h2 h3
    have i1:σ.er.ins nm (.row true m ts.length (List.map (Ty.aF ts) xs))=some σ1.er:=ah.sn e1
    have i2:=KS m e2
    simp only[cf] at i2
    simp only[cf,List.map_cons,Ty.er,St.imp,i1,i2,SC.er]
    exact congrArg (fun q=>some (ai.sl nm ts.length 0 q::List.map SC.er l',EP,gz.er)) (List.length_map (Ty.aF ts))
   ·cases h
  ·cases h
 |⟨.int k,x⟩::cs,σ,σ2,nm,eY,l,h=>by
  simp only[vh] at h
  split at h
  ·rename_i l' EP gz e2
   injection h with h
   injection h with h1 h2
   injection h2 with h2 h3
   subst h1 h2 h3
   have i2:=KS m e2
   simp only[cf] at i2
   simp only[cf,List.map_cons,Ty.er,St.imp,i2,SC.er]
  ·cases h
 |⟨.bool,x⟩::cs,σ,σ2,nm,eY,l,h=>by
  simp only[vh] at h
  split at h
  ·rename_i l' EP gz e2
   injection h with h
   injection h with h1 h2
   injection h2 with h2 h3
   subst h1 h2 h3
   have i2:=KS m e2
   simp only[cf] at i2
   simp only[cf,List.map_cons,Ty.er,St.imp,i2,SC.er]
  ·cases h
def K.isAgg:K->Bool
 |.agg=>true
 |_=>false
def K.sU:K->Bool
 |.ptr=>true
 |_=>false
def Co (m:Mode) (σ:ah):Nat->List bP->Option (List (Bool×List SC)×ah)
 |_,[]=>some ([],σ)
 |nm,(k,cs)::ds=>match k.sU with
  |true=>none
  |false=>match vh m σ nm cs with
   |some (l,eY,σ1)=>match Co m σ1 eY ds with
    |some (ls,σ2)=>some ((k.isAgg,l)::ls,σ2)
    |none=>none
   |none=>none
theorem Ue (m:Mode):∀{ds:List bP} {σ σ1:ah} {nm:Nat} {ls:List (Bool×List SC)},Co m σ nm ds=some (ls,σ1)->
  σ.er.jt m nm (ds.map bP.er)=some (ls.map (fun x=>(x.1,x.2.map SC.er)),σ1.er)
 |[],σ,σ1,nm,ls,h=>by
  simp only[Co] at h
  injection h with h
  injection h with h1 h2
  subst h1 h2
  rfl
 |(k,cs)::ds,σ,σ2,nm,ls,h=>by
  simp only[Co] at h
  split at h
  ·cases h
  ·rename_i hk
   split at h
   ·rename_i l eY σ1 e1
    split at h
    ·rename_i y5 gz e2
     injection h with h
     injection h with h1 h2
     subst h1 h2
     have i1:=KS m e1
     have i2:=Ue m e2
     have YQ:σ1.er.jt m eY (List.map bP.er ds)=some (y5.map (fun x=>(x.1,x.2.map SC.er)),gz.er):=i2
     cases k with
     |ptr=>cases hk
     |one=>simp only[List.map_cons,bP.er,St.jt,i1,YQ];rfl
     |agg=>simp only[List.map_cons,bP.er,St.jt,i1,YQ];rfl
    ·cases h
   ·cases h
def Fs:List (Bool×List SC)->SV
 |[(ag,cs)]=>zA ag cs
 |l=>.bn l
theorem KY (l:List (Bool×List SC)):(Fs l).er=lN (l.map fun x=>(x.1,x.2.map SC.er)):=by
 match l with
 |[]=>rfl
 |[(ag,cs)]=>exact CC ag cs
 |_::_::_=>rfl
section
variable {ρ:Type}
def KN (T:List aI) (m:Mode) (d:Option Nat) (f:FuncId) (as:List SV) (σ:ah) (k:ah->Option ρ):Option ρ:=
 match aI.find T f with
 |some fn=>match fn.mu.iE with
  |0=>FA σ.h as fun ds=>match qp fn.args ds with
   |some x=>(fn.F x).aa fun rs=>match Co m σ (y9 d) (nE fn.aE rs) with
    |some (ls,σ1)=>k (σ1.put d (Fs ls))
    |none=>none
   |none=>none
  |_=>none
 |none=>none
theorem abt {T:List aI} {m:Mode} {d:Option Nat} {f:FuncId} {as:List SV} {σ:ah} {k:ah->Option ρ} {r:ρ} (h:KN T m d f as σ k=some r):
  ∃σ1:ah,qR (de T) m d f (as.map SV.er) σ.er=some σ1.er/\k σ1=some r:=by
 unfold KN at h
 split at h
 ·rename_i fn hf
  split at h
  ·rename_i iw
   obtain⟨ds,h1,h2⟩:=UR h
   split at h2
   ·rename_i x hx
    rw[eR] at h2
    obtain⟨rs,hF,h2⟩:=h2
    split at h2
    ·rename_i ls σ1 hs
     refine⟨_,?_,h2⟩
     have e:=Ue m hs
     rw[Ai] at e
     have hv:kj σ.er.h (as.map SV.er)=some (ds.map bP.er):=h1
     simp only[qR,hv,aI.M1 hf iw,wZ hx,aI.CR,hF,Option.map_some,e,ah.dh,KY]
    ·cases h2
   ·cases h2
  ·cases h
 ·cases h
def Ck:List bP->Option (List (Bool×List SC))
 |[]=>some []
 |(k,cs)::ds=>match k.sU with
  |true=>none
  |false=>match Ck ds with
   |some ls=>some ((k.isAgg,cs.map fun x=>SC.v x.1 x.2)::ls)
   |none=>none
theorem T5:∀{ds:List bP} {ls:List (Bool×List SC)},Ck ds=some ls->gL (ds.map bP.er)=some (ls.map fun x=>(x.1,x.2.map SC.er))
 |[],ls,h=>by simp only[Ck] at h;injection h with h;subst h;rfl
 |(k,cs)::ds,ls,h=>by
  simp only[Ck] at h
  split at h
  ·cases h
  ·rename_i hk
   split at h
   ·rename_i y5 e
    injection h with h
    subst h
    have i2:=T5 e
    have ec:(cf cs).map ai.c=(cs.map fun x=>SC.v x.1 x.2).map SC.er:=by simp[cf,SC.er]
    cases k with
    |ptr=>cases hk
    |one=>simp only[List.map_cons,bP.er,gL];rw[show gL (List.map bP.er ds)=_ from i2];simp only;rw[ec];rfl
    |agg=>simp only[List.map_cons,bP.er,gL];rw[show gL (List.map bP.er ds)=_ from i2];simp only;rw[ec];rfl
   ·cases h
def T7 (T:List aI) (d:Option Nat) (f:FuncId) (as:List SV) (σ:ah) (k:ah->Option ρ):Option ρ:=
 match aI.find T f with
 |some fn=>match fn.mu.iE with
  |0=>FA σ.h as fun ds=>match qp fn.args ds with
   |some x=>(fn.F x).aa fun rs=>match Ck (nE fn.aE rs) with
    |some ls=>k (σ.put d (Fs ls))
    |none=>none
   |none=>none
  |_=>none
 |none=>none
theorem anJ {T:List aI} {d:Option Nat} {f:FuncId} {as:List SV} {σ:ah} {k:ah->Option ρ} {r:ρ} (h:T7 T d f as σ k=some r):
  ∃v:SV,t9 (de T) f (as.map SV.er) σ.er.h=some v.er/\k (σ.put d v)=some r:=by
 unfold T7 at h
 split at h
 ·rename_i fn hf
  split at h
  ·rename_i iw
   obtain⟨ds,h1,h2⟩:=UR h
   split at h2
   ·rename_i x hx
    rw[eR] at h2
    obtain⟨rs,hF,h2⟩:=h2
    split at h2
    ·rename_i ls hs
     refine⟨_,?_,h2⟩
     have e:=T5 hs
     rw[Ai] at e
     have hv:kj σ.er.h (as.map SV.er)=some (ds.map bP.er):=h1
     simp only[t9,hv,aI.M1 hf iw,wZ hx,aI.CR,hF,Option.map_some,e,KY]
    ·cases h2
   ·cases h2
  ·cases h
 ·cases h
def Ty.si:Ty->Bool
 |.list ts=>Ty.fe ts
 |_=>true
def U0:Mode->List Ty->Bool
 |.ab,ts=>Ty.fe ts
 |.live,ts=>ts.all Ty.si
 |.aA,_=>false
theorem zm (ts:List Ty) (xs:List (Ty.DL ts)) (h:Ty.fe ts=true):fN (List.map (Ty.aF ts) xs)=true:=by
 simp only[fN,List.all_eq_true,List.mem_map]
 rintro e ⟨x,_,rfl⟩
 rw[Ty.KL];exact h
theorem Wx (t:Ty) (x:t.D) (h:Ty.si t=true):C.si (t.er x)=true:=by
 cases t with
 |int k=>rfl
 |bool=>rfl
 |list ts=>exact zm ts x h
theorem Ww:∀(ts:List Ty) (x:Ty.DL ts),ts.all Ty.si=true->(Ty.aF ts x).all C.si=true
 |[],_,_=>rfl
 |[t],x,h=>by
  simp only[List.all_cons,List.all_nil,Bool.and_true] at h
  simp only[Ty.aF,List.all_cons,List.all_nil,Bool.and_true]
  exact Wx t x h
 |t::u::ts,x,h=>by
  simp only[List.all_cons (a:=t),Bool.and_eq_true] at h
  simp only[Ty.aF,List.all_cons (a:=Ty.er t x.1),Bool.and_eq_true]
  exact⟨Wx t x.1 h.1,Ww (u::ts) x.2 h.2⟩
theorem Xi (m:Mode) (ts:List Ty) (xs:List (Ty.DL ts)) (h:U0 m ts=true):sq m (List.map (Ty.aF ts) xs)=true:=by
 cases m with
 |aA=>cases h
 |ab=>exact zm ts xs h
 |live=>
  simp only[sq,List.all_eq_true,List.mem_map]
  rintro e ⟨x,_,rfl⟩
  have:=Ww ts x h
  simpa[List.all_eq_true] using this
def Mode.Pv:Mode->Bool
 |.live=>true
 |_=>false
def Mode.Zi:Mode->Bool
 |.ab=>true
 |_=>false
def Uo (h:Nat->Option SB) (md:Mode) (c:SC) (k:cZ->(t:Ty)->t.D->Option ρ):Option ρ:=
 match c with
 |.nil ts=>match ts with
  |[]=>none
  |t::us=>eH md.own (k (.nil (us.length+1)) (.list (t::us)) ([]:List (Ty.DL (t::us))))
 |.sl n sz lo len=>match h n with
  |some (.row _ m ts xs)=>eH (m.own&&((!md.Pv||m.Pv)&&U0 md ts)) (cF ts.length sz ((ae lo len (U xs)).aa fun _=>k (.row n) (.list ts) xs))
  |_=>none
 |.bx n kk az off sz len=>match h n with
  |some (.row _ .live ts xs)=>eH md.Zi (cF ts.length az ((dJ xs kk).aa fun e=>match(Ty.gK ts e)[off]? with
   |some ⟨.list us,ys⟩=>eH (Ty.fe us) (k (.nest n kk off) (.list us) ys)
   |_=>none))
  |_=>none
 |_=>none
theorem an3 {h:Nat->Option SB} {md:Mode} {c:SC} {k:cZ->(t:Ty)->t.D->Option ρ} {r:ρ} (hx:Uo h md c k=some r):
  ∃(it:cZ) (t:Ty) (x:t.D),y6 (cM h) md c.er=some (it,t.er x)/\k it t x=some r:=by
 unfold Uo at hx
 split at hx
 ·split at hx
  ·cases hx
  ·rename_i t us
   have hm:=(bT hx).1;replace hx:=(bT hx).2
   refine⟨_,.list (t::us),[],?_,hx⟩
   have bB:md≠ .aA:=by rintro rfl;cases hm
   simp[SC.er,y6,Ty.er,bB]
 ·rename_i n sz lo len
  split at hx
  ·rename_i gr m ts xs hn
   have hm:=(bT hx).1;replace hx:=(bT hx).2
   have bo:=(bc hx).1;replace hx:=(bc hx).2;subst bo
   rw[eR] at hx
   obtain⟨_,hf,hx⟩:=hx
   have Of:lo=0/\len=U xs:=by
    unfold ae at hf
    split at hf
    ·assumption
    ·cases hf
   obtain⟨rfl,rfl⟩:=Of
   simp only[Bool.and_eq_true] at hm
   have bB:m≠ .aA:=by rintro rfl;cases hm.1
   have sB:md=.live->m=.live:=by
    rintro rfl
    have:=hm.2.1
    cases m<;>first|rfl|(simp[Mode.Pv] at this)
   refine⟨_,.list ts,xs,?_,hx⟩
   simp only[SC.er,y6,cM,hn,Option.map_some,SB.er,Ty.er]
   rw[if_pos ⟨bB,sB,trivial,trivial,(List.length_map (Ty.aF ts)).symm,Xi md ts xs hm.2.2⟩]
  ·cases hx
 ·rename_i n kk az off sz len
  split at hx
  ·rename_i gr ts xs hn
   have hm:=(bT hx).1;replace hx:=(bT hx).2
   have bo:=(bc hx).1;replace hx:=(bc hx).2;subst bo
   rw[eR] at hx
   obtain⟨e,he,hx⟩:=hx
   replace he:xs[kk]? =some e:=he
   split at hx
   ·rename_i us ys hd
    have hs:=(bT hx).1;replace hx:=(bT hx).2
    refine⟨_,.list us,ys,?_,hx⟩
    have OD:md=.ab:=by cases md<;>first|rfl|(simp[Mode.Zi] at hm)
    have mO:=ML hd
    simp only[SC.er,y6,cM,hn,Option.map_some,SB.er,List.getElem?_map,he,Option.bind_some,mO,Ty.er,OD,and_self,if_true]
    rw[if_pos (zm us ys hs)]
   ·cases hx
  ·cases hx
 ·cases hx
def SC.nm:SC->List Nat
 |.sl n _ _ _=>[n]
 |.bx n _ _ _ _ _=>[n]
 |_=>[]
theorem SC.alV (c:SC):c.er.dE.toList=c.nm:=by cases c<;>rfl
def Cq:List (Option Mode)->List SC->List Nat
 |some _::fs,c::cs=>c.nm++Cq fs cs
 |none::fs,_::cs=>Cq fs cs
 |_,_=>[]
theorem Up:∀(fs:List (Option Mode)) (cs:List SC),tx fs (cs.map SC.er)=Cq fs cs
 |some m::fs,c::cs=>by simp only[List.map_cons,tx,Cq,SC.alV,Up fs cs]
 |none::fs,c::cs=>by simp only[List.map_cons,tx,Cq,Up fs cs]
 |[],cs=>by cases cs<;>rfl
 |some m::fs,[]=>rfl
 |none::fs,[]=>rfl
def Fo:be->List (Bool×List SC)->List Nat
 |s::sig,a::as=>Cq s a.2++Fo sig as
 |_,_=>[]
theorem abK:∀(sig:be) (as:List (Bool×List SC)),n6 sig (as.map fun x=>(x.1,x.2.map SC.er))=Fo sig as
 |s::sig,a::as=>by simp only[List.map_cons,n6,Fo,Up,abK sig as]
 |[],as=>by cases as<;>rfl
 |s::sig,[]=>rfl
def Ud (h:Nat->Option SB) (ns:List Nat):Nat->Option SB:=fun n=>match ns.contains n with|true=>none|false=>h n
theorem anT (h:Nat->Option SB) (ns:List Nat):cM (Ud h ns)=eF (cM h) ns:=by
 funext n
 simp only[cM,Ud,eF]
 cases hc:ns.contains n<;>simp[hc]
def vl (h h0:Nat->Option SB):List (Option Mode)->List SC->(List TD->List (cZ×Mode)->Option ρ)->Option ρ
 |[],cs,k=>zx h0 cs fun l=>k l []
 |none::fs,c::cs,k=>xv h0 c fun t x=>vl h h0 fs cs fun l its=>k (⟨t,x⟩::l) its
 |some md::fs,c::cs,k=>Uo h md c fun it t x=>vl h h0 fs cs fun l its=>k (⟨t,x⟩::l) ((it,md)::its)
 |_::_,[],_=>none
theorem Un {h h0:Nat->Option SB}:∀{fs:List (Option Mode)} {cs:List SC} {k:List TD->List (cZ×Mode)->Option ρ} {r:ρ},vl h h0 fs cs k=some r->
  ∃l its,mz (cM h) (cM h0) fs (cs.map SC.er)=some (cf l,its)/\k l its=some r
 |[],cs,k,r,hx=>by
  simp only[vl] at hx
  obtain⟨l,h1,h2⟩:=FB hx
  exact⟨l,[],by simp only[mz,h1],h2⟩
 |none::fs,c::cs,k,r,hx=>by
  simp only[vl] at hx
  obtain⟨t,x,h1,h2⟩:=CB hx
  obtain⟨l,its,h3,h4⟩:=Un h2
  exact⟨⟨t,x⟩::l,its,by simp only[List.map_cons,mz,h1,h3,cf],h4⟩
 |some md::fs,c::cs,k,r,hx=>by
  simp only[vl] at hx
  obtain⟨it,t,x,h1,h2⟩:=an3 hx
  obtain⟨l,its,h3,h4⟩:=Un h2
  exact⟨⟨t,x⟩::l,(it,md)::its,by simp only[List.map_cons,mz,h1,h3,cf],h4⟩
 |none::fs,[],k,r,hx=>by simp[vl] at hx
 |some md::fs,[],k,r,hx=>by simp[vl] at hx
def PK:Bool->K
 |true=>.agg
 |false=>.one
def KU (h h0:Nat->Option SB):be->List (Bool×List SC)->(List bP->List (cZ×Mode)->Option ρ)->Option ρ
 |_,[],k=>k [] []
 |sig,(ag,cs)::as,k=>vl h h0 sig.hd cs fun l its=>KU h h0 sig.tl as fun ds uS=>k ((PK ag,l)::ds) (its++uS)
theorem abL {h h0:Nat->Option SB}:∀{as:List (Bool×List SC)} {sig:be} {k:List bP->List (cZ×Mode)->Option ρ} {r:ρ},KU h h0 sig as k=some r->
  ∃ds its,oW (cM h) (cM h0) sig (as.map fun x=>(x.1,x.2.map SC.er))=some (ds.map bP.er,its)/\k ds its=some r
 |[],sig,k,r,hx=>⟨[],[],by simp only[List.map_nil,oW],hx⟩
 |(ag,cs)::as,sig,k,r,hx=>by
  simp only[KU] at hx
  obtain⟨l,its,h1,h2⟩:=Un hx
  obtain⟨ds,uS,h3,h4⟩:=abL h2
  refine⟨_,_,?_,h4⟩
  simp only[List.map_cons,oW,h1,h3,bP.er]
  cases ag<;>rfl
def Fl:List SV->Option (List (Bool×List SC))
 |[]=>some []
 |v::vs=>match v.cells?,Fl vs with
  |some x,some xs=>some (x::xs)
  |_,_=>none
theorem abH:∀{as:List SV} {fu:List (Bool×List SC)},Fl as=some fu->wX (as.map SV.er)=some (fu.map fun x=>(x.1,x.2.map SC.er))
 |[],fu,h=>by simp only[Fl] at h;injection h with h;subst h;rfl
 |v::vs,fu,h=>by
  simp only[Fl] at h
  split at h
  ·rename_i x xs e1 e2
   injection h with h
   subst h
   obtain⟨b,cs⟩:=x
   simp only[List.map_cons,wX,SV.lU e1,abH e2]
  ·cases h
def KO (ts:List Ty) (e:Ty.DL ts) (off:Nat) (x:TD):Option (Ty.DL ts):=qn ts ((Ty.gK ts e).set off x)
theorem abv {ts:List Ty} {e e':Ty.DL ts} {off:Nat} {x:TD} (h:KO ts e off x=some e'):Ty.aF ts e'=(Ty.aF ts e).set off (x.1.er x.2):=by
 have:=w4 h
 rw[this,cf,List.map_set,<-Ty.pw ts e]
 rfl
def Uv (σ:ah) (it:cZ) (x:TD) (k:ah->Option ρ):Option ρ:=
 match it with
 |.nil _=>k σ
 |.row n=>match x with
  |⟨.list ts,xs⟩=>match σ.h n with
   |some (.row gr m us _)=>cF us.length ts.length (k (σ.dc n (.row gr m ts xs)))
   |_=>none
  |_=>none
 |.nest n kk off=>match σ.h n with
  |some (.row gr m us xs)=>(dJ xs kk).aa fun e=>match KO us e off x with
   |some e'=>k (σ.dc n (.row gr m us (dd xs kk e')))
   |none=>none
  |_=>none
theorem an8 {σ:ah} {it:cZ} {x:TD} {k:ah->Option ρ} {r:ρ} (hx:Uv σ it x k=some r):∃σ1,σ.er.nd it (x.1.er x.2)=some σ1.er/\k σ1=some r:=by
 unfold Uv at hx
 split at hx
 ·exact⟨σ,rfl,hx⟩
 ·rename_i n
  split at hx
  ·rename_i ts xs
   split at hx
   ·rename_i gr m us ys hn
    have bo:=(bc hx).1;replace hx:=(bc hx).2
    refine⟨_,?_,hx⟩
    have bm:σ.er.h n=some (.row gr m us.length (List.map (Ty.aF us) ys)):=by simp[ah.er,cM,hn,SB.er]
    simp only[St.nd,Ty.er,bm,bo,if_true,ah.oJ,SB.er]
   ·cases hx
  ·cases hx
 ·rename_i n kk off
  split at hx
  ·rename_i gr m us xs hn
   rw[eR] at hx
   obtain⟨e,he,hx⟩:=hx
   replace he:xs[kk]? =some e:=he
   split at hx
   ·rename_i e' hs
    refine⟨_,?_,hx⟩
    have bm:σ.er.h n=some (.row gr m us.length (List.map (Ty.aF us) xs)):=by simp[ah.er,cM,hn,SB.er]
    simp only[St.nd,bm,List.getElem?_map,he,Option.map_some,ah.oJ,SB.er,dd,List.map_set,abv hs]
   ·cases hx
  ·cases hx
def Cv (σ:ah):List (cZ×Mode)->List TD->(ah->Option ρ)->Option ρ
 |[],[],k=>k σ
 |it::its,x::xs,k=>Uv σ it.1 x fun σ1=>Cv σ1 its xs k
 |_,_,_=>none
theorem abV:∀{its:List (cZ×Mode)} {xs:List TD} {σ:ah} {k:ah->Option ρ} {r:ρ},Cv σ its xs k=some r->∃σ1,σ.er.o9 its (cf xs)=some σ1.er/\k σ1=some r
 |[],[],σ,k,r,hx=>⟨σ,rfl,hx⟩
 |it::its,x::xs,σ,k,r,hx=>by
  simp only[Cv] at hx
  obtain⟨σ1,h1,h2⟩:=an8 hx
  obtain⟨σ2,h3,h4⟩:=abV h2
  refine⟨σ2,?_,h4⟩
  simp only[cf] at h3
  simp only[cf,List.map_cons,St.o9,h1,h3]
 |[],_::_,σ,k,r,hx=>by simp[Cv] at hx
 |_::_,[],σ,k,r,hx=>by simp[Cv] at hx
def Kn:List Nat->Bool
 |[]=>true
 |n::l=> !(l.contains n)&&Kn l
theorem aav:∀{l:List Nat},Kn l=true->l.Nodup
 |[],_=>List.nodup_nil
 |n::l,h=>by
  simp only[Kn,Bool.and_eq_true,Bool.not_eq_true'] at h
  rw[List.nodup_cons]
  refine⟨fun hm=>?_,aav h.2⟩
  have:l.contains n=true:=by simpa using hm
  rw[this] at h
  cases h.1
def T8 (T:List aI) (m:Mode) (d:Option Nat) (f:FuncId) (as:List SV) (σ:ah) (k:ah->Option ρ):Option ρ:=
 match aI.find T f with
 |some fn=>match fn.mu.iE with
  |1=>match Fl as with
   |some fu=>eH (Kn (Fo fn.mu fu)) (KU σ.h (Ud σ.h (Fo fn.mu fu)) fn.mu fu fun ds its=>match qp fn.args ds with
    |some x=>(fn.F x).aa fun y=>Cv σ its (((nE fn.aE y).drop (fn.aE.length - fn.mu.nD)).flatMap (·.2)) fun σ1=>match Co m σ1 (y9 d) ((nE fn.aE y).take (fn.aE.length - fn.mu.nD)) with
     |some (ls,σ2)=>k (σ2.put d (Fs ls))
     |none=>none
    |none=>none)
   |none=>none
  |_=>none
 |none=>none
theorem KX (k:Nat) (l:List bP):xp k (l.map bP.er)=((l.take k).map bP.er,cf ((l.drop k).flatMap (·.2))):=by
 simp only[xp,<-List.map_take,<-List.map_drop]
 congr 1
 induction l.drop k with
 |nil=>rfl
 |cons d l ih=>
  simp only[List.map_cons,List.flatMap_cons,ih,cf,List.map_append,bP.er]
theorem anK {T:List aI} {m:Mode} {d:Option Nat} {f:FuncId} {as:List SV} {σ:ah} {k:ah->Option ρ} {r:ρ} (h:T8 T m d f as σ k=some r):
  ∃σ1:ah,ue (de T) m d f (as.map SV.er) σ.er=some σ1.er/\k σ1=some r:=by
 unfold T8 at h
 split at h
 ·rename_i fn hf
  split at h
  ·rename_i iw
   split at h
   ·rename_i fu hc
    have fW:=aav (bT h).1;replace h:=(bT h).2
    obtain⟨ds,its,h1,h2⟩:=abL h
    split at h2
    ·rename_i x hx
     rw[eR] at h2
     obtain⟨y,hF,h2⟩:=h2
     obtain⟨σ1,h3,h4⟩:=abV h2
     split at h4
     ·rename_i ls σ2 hs
      refine⟨_,?_,h4⟩
      have e:=Ue m hs
      have hM:fn.MM (cU fn.args x)=some (((nE fn.aE y).take (fn.aE.length - fn.mu.nD)).map bP.er,cf (((nE fn.aE y).drop (fn.aE.length - fn.mu.nD)).flatMap (·.2))):=by
       unfold aI.MM
       rw[aI.CR,hF]
       simp only[Option.map_some]
       rw[<-Ai,KX]
      have hh:σ.er.h=cM σ.h:=rfl
      rw[anT] at h1
      simp only[ue,aI.Xb hf iw,abH hc,abK,if_pos fW,hh,h1,wZ hx,hM,h3,e,ah.dh,KY]
     ·cases h4
    ·cases h2
   ·cases h
  ·cases h
 ·cases h
def zp:List SC->Option (List TD)
 |[]=>some []
 |.v t x::cs=>match zp cs with
  |some l=>some (⟨t,x⟩::l)
  |none=>none
 |.nil (t::us)::cs=>match zp cs with
  |some l=>some (⟨.list (t::us),([]:List (Ty.DL (t::us)))⟩::l)
  |none=>none
 |_::_=>none
theorem KR:∀{cs:List SC} {l:List TD},zp cs=some l->mf (cs.map SC.er)=some (cf l)
 |[],l,h=>by simp only[zp] at h;injection h with h;subst h;rfl
 |c::cs,l,h=>by
  unfold zp at h
  split at h
  ·rename_i e;cases e
  ·rename_i t x cs' e
   injection e with e1 e2
   subst e1 e2
   split at h
   ·rename_i l' e
    injection h with h
    subst h
    simp only[List.map_cons,mf,SC.er,uR,KR e,cf]
   ·cases h
  ·rename_i t us cs' e
   injection e with e1 e2
   subst e1 e2
   split at h
   ·rename_i l' e
    injection h with h
    subst h
    simp[mf,SC.er,uR,KR e,cf,Ty.er]
   ·cases h
  ·cases h
def KJ (h:Nat->Option SB) (n kk off:Nat):Option (List TD):=
 match kk,off with
 |0,0=>match h n with
  |some (.box cs)=>zp cs
  |_=>none
 |_,_=>none
theorem abi {h:Nat->Option SB} {n kk sz off:Nat} {l:List TD} (e:KJ h n kk off=some l):mG (cM h) (SV.er (.one (.ptr n kk sz off)))=some (n,cf l):=by
 unfold KJ at e
 split at e
 ·split at e
  ·rename_i cs hn
   simp[SV.er,SC.er,mG,cM,hn,SB.er,KR e]
  ·cases e
 ·cases e
def SV.o8:SV->Option (Nat×Nat×Nat)
 |.one (.ptr n kk _ off)=>some (n,kk,off)
 |_=>none
theorem aaN {v:SV} (h:v.o8=none) (hh:Nat->Option ar):mG hh v.er=none:=by
 cases v with
 |one c=>cases c<;>first|rfl|(simp[SV.o8] at h)
 |agg cs=>rfl
 |bn xs=>rfl
theorem aaO {v:SV} {n kk off:Nat} (h:v.o8=some (n,kk,off)):∃sz,v=.one (.ptr n kk sz off):=by
 cases v with
 |one c=>cases c<;>simp[SV.o8] at h;obtain⟨rfl,rfl,rfl⟩:=h;exact⟨_,rfl⟩
 |agg cs=>simp[SV.o8] at h
 |bn xs=>simp[SV.o8] at h
def Fe (σ:ah):List SV->(List bP->List Nat->ah->Option ρ)->Option ρ
 |[],k=>k [] [] σ
 |v::vs,k=>match v.o8 with
  |some (n,kk,off)=>match KJ σ.h n kk off with
   |some l=>Fe σ vs fun ds ns σ1=>k ((.ptr,l)::ds) (n::ns) σ1
   |none=>none
  |none=>match v.cells? with
   |some (ag,cs)=>zu σ cs fun l _ σ1=>Fe σ1 vs fun ds ns σ2=>k ((PK ag,l)::ds) ns σ2
   |none=>none
theorem Tb:∀{vs:List SV} {σ:ah} {k:List bP->List Nat->ah->Option ρ} {r:ρ},Fe σ vs k=some r->
  ∃ds ns σ1,σ.er.hH (vs.map SV.er)=some (ds.map bP.er,ns,σ1.er)/\k ds ns σ1=some r
 |[],σ,k,r,h=>⟨[],[],σ,rfl,h⟩
 |v::vs,σ,k,r,h=>by
  simp only[Fe] at h
  split at h
  ·rename_i n kk off hv
   obtain⟨sz,rfl⟩:=aaO hv
   split at h
   ·rename_i l hl
    obtain⟨ds,ns,σ1,h1,h2⟩:=Tb h
    refine⟨_,_,σ1,?_,h2⟩
    have:=abi (sz:=sz) hl
    have hh:σ.er.h=cM σ.h:=rfl
    simp only[List.map_cons,St.hH,hh,this,h1,bP.er]
   ·cases h
  ·rename_i hv
   split at h
   ·rename_i ag cs hc
    obtain⟨l,o,σ1,h1,h2⟩:=Fx h
    obtain⟨ds,ns,σ2,h3,h4⟩:=Tb h2
    refine⟨_,_,σ2,?_,h4⟩
    simp only[List.map_cons,St.hH,aaN hv,SV.lU hc,h1,h3,bP.er]
    cases ag<;>rfl
   ·cases h
def Uu (σ:ah) (ns:List Nat) (out:List TD) (k:ah->Option ρ):Option ρ:=
 match ns,out with
 |[],[]=>k σ
 |[n],out=>match σ.h n with
  |some (.box cs)=>cF cs.length out.length (k (σ.dc n (.box (out.map fun x=>.v x.1 x.2))))
  |_=>none
 |_,_=>none
theorem Ll (out:List TD):(out.map fun x=>SC.v x.1 x.2).map SC.er=(cf out).map .c:=by simp[cf,SC.er]
theorem an7 {σ:ah} {ns:List Nat} {out:List TD} {k:ah->Option ρ} {r:ρ} (h:Uu σ ns out k=some r):∃σ1,σ.er.rJ ns (cf out)=some σ1.er/\k σ1=some r:=by
 unfold Uu at h
 split at h
 ·exact⟨σ,rfl,h⟩
 ·rename_i n
  split at h
  ·rename_i cs hn
   have he:=(bc h).1;replace h:=(bc h).2
   refine⟨_,?_,h⟩
   have bm:σ.er.h n=some (.box (cs.map SC.er)):=by simp[ah.er,cM,hn,SB.er]
   simp only[St.rJ,bm,List.length_map]
   rw[if_pos (by rw[he,cf,List.length_map]),ah.oJ,SB.er,Ll]
  ·cases h
 ·cases h
def bP.o8:List bP->Option (List TD)
 |[(.ptr,cs)]=>some cs
 |_=>none
theorem anL {rs:List bP} {cs:List TD} (h:bP.o8 rs=some cs):rs=[(.ptr,cs)]:=by
 unfold bP.o8 at h
 split at h
 ·injection h with h;rw[h]
 ·cases h
def Tc (σ:ah) (d:Option Nat) (rs:List bP) (k:ah->Option ρ):Option ρ:=
 match bP.o8 rs with
 |some cs=>match d with
  |some q=>match σ.ins q (.box (cs.map fun x=>.v x.1 x.2)) with
   |some σ1=>k (σ1.put d (.one (.ptr q 0 0 0)))
   |none=>none
  |none=>none
 |none=>match Ck rs with
  |some ls=>k (σ.put d (Fs ls))
  |none=>none
theorem anE {σ:ah} {d:Option Nat} {rs:List bP} {k:ah->Option ρ} {r:ρ} (h:Tc σ d rs k=some r):∃σ1,qN σ.er d (rs.map bP.er)=some σ1.er/\k σ1=some r:=by
 unfold Tc at h
 split at h
 ·rename_i cs hp
  have:=anL hp
  subst this
  split at h
  ·rename_i q
   split at h
   ·rename_i σ1 hi
    refine⟨_,?_,h⟩
    have e:=ah.sn hi
    rw[SB.er,Ll] at e
    simp only[List.map_cons,List.map_nil,bP.er,qN,e,ah.dh]
    rfl
   ·cases h
  ·cases h
 ·split at h
  ·rename_i ls hs
   refine⟨_,?_,h⟩
   have e:=T5 hs
   have hb:qN σ.er d (rs.map bP.er)=match gL (rs.map bP.er) with
     |some ls=>some (σ.er.put d (lN ls))
     |none=>none:=by
    unfold qN
    split
    ·rename_i cs he
     rw[he] at e
     simp[gL] at e
    ·rfl
   rw[hb,e,ah.dh,KY]
  ·cases h
def T6 (T:List aI) (d:Option Nat) (f:FuncId) (as:List SV) (σ:ah) (k:ah->Option ρ):Option ρ:=
 match aI.find T f with
 |some fn=>match fn.mu.iE with
  |2=>Fe σ as fun ds ns σ1=>match qp fn.args ds with
   |some x=>(fn.F x).aa fun y=>Uu σ1 ns (((nE fn.aE y).drop (fn.aE.length - tz fn.args)).flatMap (·.2)) fun σ2=>Tc σ2 d ((nE fn.aE y).take (fn.aE.length - tz fn.args)) k
   |none=>none
  |_=>none
 |none=>none
theorem anI {T:List aI} {d:Option Nat} {f:FuncId} {as:List SV} {σ:ah} {k:ah->Option ρ} {r:ρ} (h:T6 T d f as σ k=some r):
  ∃σ1:ah,sj (de T) d f (as.map SV.er) σ.er=some σ1.er/\k σ1=some r:=by
 unfold T6 at h
 split at h
 ·rename_i fn hf
  split at h
  ·rename_i iw
   obtain⟨ds,ns,σ1,h1,h2⟩:=Tb h
   split at h2
   ·rename_i x hx
    rw[eR] at h2
    obtain⟨y,hF,h2⟩:=h2
    obtain⟨σ2,h3,h4⟩:=an7 h2
    obtain⟨gz,h5,h6⟩:=anE h4
    refine⟨gz,?_,h6⟩
    have hM:fn.MV (cU fn.args x)=some (((nE fn.aE y).take (fn.aE.length - tz fn.args)).map bP.er,cf (((nE fn.aE y).drop (fn.aE.length - tz fn.args)).flatMap (·.2))):=by
     unfold aI.MV
     rw[aI.CR,hF]
     simp only[Option.map_some]
     rw[<-Ai,KX]
    simp only[sj,h1,aI.Xc hf iw,wZ hx,hM,h3,h5]
   ·cases h2
  ·cases h
 ·cases h
def Uc (σ:ah) (p:SC) (k:ah->Option ρ):Option ρ:=
 match p with
 |.ptr n _ _ _=>match σ.h n with
  |some (.box cs)=>zu σ cs fun l _ σ1=>k (σ1.dc n (.box (l.map fun x=>.v x.1 x.2)))
  |_=>none
 |_=>none
theorem anP {σ:ah} {p:SC} {k:ah->Option ρ} {r:ρ} (h:Uc σ p k=some r):∃σ1,σ.er.pH p.er=some σ1.er/\k σ1=some r:=by
 unfold Uc at h
 split at h
 ·rename_i n kk sz off
  split at h
  ·rename_i cs hn
   obtain⟨l,o,σ1,h1,h2⟩:=Fx h
   refine⟨_,?_,h2⟩
   have bm:σ.er.h n=some (.box (cs.map SC.er)):=by simp[ah.er,cM,hn,SB.er]
   simp only[SC.er,St.pH,bm,h1]
   rw[ah.oJ,SB.er,Ll]
  ·cases h
 ·cases h
inductive cC where
 |mv (x:cB)
 |pick (c x y:cB)
 |alloc (zs:List SC)
 |box (sz:Nat) (x:cB)
 |build (zs:List SC) (parts:List (Nat×Nat×cB))
 |dM (ts:List Ty) (parts:List cB)
 |load (ag:Bool) (sz:Nat) (x:cB)
 |store (sz:Nat) (x v:cB)
 |gv (x:cB)
 |bin (op:BinOp) (x y:cB)
 |nB (op:BinOp) (x y:cB)
 |un (op:UnOp) (x:cB)
 |conv (k:IntKind) (x:cB)
 |nb (m:Mode) (ts:List Ty) (by_:Nat) (z:Ty.DL ts) (l c:cB)
 |slice (sz:Nat) (x:cB) (lo hi:Option cB)
 |tail (sz:Nat) (x lo:cB)
 |mw (ag:Bool) (sz:Nat) (x:cB)
 |aq (off:Nat) (x:cB)
 |bY (sz:Nat) (x i:cB)
 |ext (i:Nat) (x:cB)
 |lp (ag:Bool) (off sz:Nat) (x:cB)
 |lO (f:FuncId) (bE:Bool) (x:cB)
 |len (x:cB)
 |append (fl:Bool) (ts:List Ty) (by_:Nat) (x y:cB)
 |mm (mx:Bool) (x y:cB)
 |call (m:Mode) (f:FuncId) (xs:List cB)
 |lS (f:FuncId) (xs:List cB)
 |copy (x y:cB)
 |kt (t:Ty) (z:t.D) (x:cB)
 |oV (f:FuncId) (xs:List cB)
 |lT (m:Mode) (x:cB) (xs:List cB)
 |gI (m:Mode) (f:FuncId) (xs:List cB)
 |dC (f:FuncId) (xs:List cB)
def cC.er:cC->aC
 |.mv x=>.mv x.er
 |.pick c x y=>.pick c.er x.er y.er
 |.alloc zs=>.alloc (zs.map SC.er)
 |.box sz x=>.box sz x.er
 |.build zs ps=>.build (zs.map SC.er) (ps.map fun p=>(p.1,p.2.1,p.2.2.er))
 |.dM ts ps=>.dM ts.length (ps.map cB.er)
 |.load ag sz x=>.load ag sz x.er
 |.mw ag sz x=>.mw ag sz x.er
 |.store sz x v=>.store sz x.er v.er
 |.gv x=>.gv x.er
 |.bin op x y=>.bin op x.er y.er
 |.nB op x y=>.nB op x.er y.er
 |.un op x=>.un op x.er
 |.conv k x=>.conv k x.er
 |.nb m ts by_ z l c=>.nb m ts.length by_ (Ty.aF ts z) l.er c.er
 |.slice sz x lo hi=>.slice sz x.er (lo.map cB.er) (hi.map cB.er)
 |.tail sz x lo=>.tail sz x.er lo.er
 |.aq off x=>.aq off x.er
 |.bY sz x i=>.bY sz x.er i.er
 |.ext i x=>.ext i x.er
 |.lp ag off sz x=>.lp ag off sz x.er
 |.lO f bE x=>.lO f bE x.er
 |.len x=>.len x.er
 |.append fl ts by_ x y=>.append fl ts.length by_ x.er y.er
 |.mm b x y=>.mm b x.er y.er
 |.call m f xs=>.call m f (xs.map cB.er)
 |.lS f xs=>.lS f (xs.map cB.er)
 |.copy x y=>.copy 1 x.er y.er
 |.kt t z x=>.kt (t.er z) x.er
 |.oV f xs=>.oV f (xs.map cB.er)
 |.lT m x xs=>.lT m x.er (xs.map cB.er)
 |.gI m f xs=>.gI m f (xs.map cB.er)
 |.dC f xs=>.dC f (xs.map cB.er)
theorem yj (σ:ah) (xs:List cB):(xs.map cB.er).map σ.er.ev=(xs.map σ.ev).map SV.er:=by
 simp[ah.c8]
def Fw (ev:cB->SV):List SC->List (Nat×Nat×cB)->Option (List SC)
 |zs,[]=>some zs
 |zs,(off,sz,x)::ps=>match(ev x).cells? with
  |some (_,cs)=>cF cs.length sz (eH (Nat.ble (off+sz) zs.length) (Fw ev (bS zs off cs) ps))
  |none=>none
theorem ab5 {σ:ah}:∀{ps:List (Nat×Nat×cB)} {zs cs:List SC},Fw σ.ev zs ps=some cs->
  pg σ.er.ev (zs.map SC.er) (ps.map fun p=>(p.1,p.2.1,p.2.2.er))=some (cs.map SC.er)
 |[],zs,cs,h=>by simp only[Fw] at h;injection h with h;subst h;rfl
 |(off,sz,x)::ps,zs,cs,h=>by
  simp only[Fw] at h
  split at h
  ·rename_i b Wp hc
   have bo:=(bc h).1;replace h:=(bc h).2;subst bo
   have hb:=(bT h).1;replace h:=(bT h).2
   have ih:=ab5 h
   rw[Ct] at ih
   have eS:=Nat.le_of_ble_eq_true hb
   simp only[List.map_cons,pg,ah.c8,SV.lU hc,List.length_map,eS,and_self,if_true,ih]
  ·cases h
def KK (l:List TD):Bool:=l.all fun x=>x.1.d7
theorem anF (l:List TD):fe (cf l)=KK l:=by
 simp[fe,cf,KK,List.all_map,Function.comp_def,Ty.xl]
def UH (σ:ah) (n:Nat) (gr:Bool) (m:Mode) (ts:List Ty) (xs:List (Ty.DL ts)) (kk off:Nat) (e:Ty.DL ts) (vs:List SC) (k:ah->Option ρ):Option ρ:=
 match sub (Ty.gK ts e) off vs.length with
 |none=>none
 |some eZ=>zu σ vs fun cs o σ1=>match qn ts (bS (Ty.gK ts e) off cs) with
  |none=>none
  |some e'=>match m with
   |.live=>eH (KK cs&&KK eZ&&(σ1.h n).isSome) (k (σ1.dc n (.row gr .live ts (dd xs kk e'))))
   |.ab=>eH (σ1.h n).isSome (k (σ1.dc n (.row gr (match o with|true=>.ab|false=>.aA) ts (dd xs kk e'))))
   |.aA=>eH (σ1.h n).isSome (k (σ1.dc n (.row gr .aA ts (dd xs kk e'))))
theorem WL (h:Nat->Option SB) (n:Nat):(cM h n).isSome=(h n).isSome:=by
 unfold cM;cases h n<;>rfl
theorem aod {σ:ah} {n:Nat} {gr:Bool} {m:Mode} {ts:List Ty} {xs:List (Ty.DL ts)} {kk off:Nat} {e:Ty.DL ts} {vs:List SC} {k:ah->Option ρ} {r:ρ}
  (h:UH σ n gr m ts xs kk off e vs k=some r):
  ∃σ1:ah,mD σ.er n gr m ts.length (List.map (Ty.aF ts) xs) kk off (Ty.aF ts e) (vs.map SC.er)=some σ1.er/\k σ1=some r:=by
 unfold UH at h
 split at h
 ·cases h
 ·rename_i eZ ho
  obtain⟨cs,o,σ1,h1,h2⟩:=Fx h
  have hold:sub (Ty.aF ts e) off (vs.map SC.er).length=some (cf eZ):=by
   rw[<-Ty.pw]
   simp only[cf]
   rw[tM,List.length_map,ho]
   rfl
  split at h2
  ·cases h2
  ·rename_i e' he
   have yL:bS (Ty.aF ts e) off (cf cs)=Ty.aF ts e':=by
    rw[w4 he,<-Ty.pw]
    simp only[cf]
    rw[<-Ct]
   have AP:(List.map (Ty.aF ts) xs).set kk (Ty.aF ts e')=List.map (Ty.aF ts) (dd xs kk e'):=by
    show _=List.map (Ty.aF ts) (xs.set kk e')
    rw[List.map_set]
   have AQ:σ1.er.h n=(σ1.h n).map SB.er:=rfl
   split at h2
   ·have hb:=(bT h2).1;replace h2:=(bT h2).2
    simp only[Bool.and_eq_true] at hb
    refine⟨_,?_,h2⟩
    simp only[mD,hold,h1,if_true,anF,hb.1.1,hb.1.2,AQ,Option.isSome_map,hb.2,and_self,yL,AP,ah.oJ,SB.er]
   ·have hb:=(bT h2).1;replace h2:=(bT h2).2
    refine⟨_,?_,h2⟩
    cases o<;>simp only[mD,hold,h1,AQ,Option.isSome_map,hb,yL,AP,ah.oJ,SB.er,reduceCtorEq,if_false,if_true,Bool.false_eq_true,cond_true,cond_false,ite_self]
   ·have hb:=(bT h2).1;replace h2:=(bT h2).2
    refine⟨_,?_,h2⟩
    cases o<;>simp only[mD,hold,h1,AQ,Option.isSome_map,hb,yL,AP,ah.oJ,SB.er,reduceCtorEq,if_false,if_true,Bool.false_eq_true,cond_true,cond_false,ite_self]
def vS (us ts:List Ty) (xs:List (Ty.DL us)):Option (List (Ty.DL ts)):=if h:Ty.qP us ts=true then some (Ty.sa h▸xs) else none
theorem Mn {us ts:List Ty} {xs:List (Ty.DL us)} {ys:List (Ty.DL ts)} (h:vS us ts xs=some ys):us.length=ts.length/\List.map (Ty.aF us) xs=List.map (Ty.aF ts) ys/\xs.length=ys.length:=by
 unfold vS at h
 split at h
 ·rename_i he
  have:=Ty.sa he
  subst this
  injection h with h
  rw[<-h]
  exact⟨rfl,rfl,rfl⟩
 ·cases h
def S9 (σ:ah) (ts:List Ty) (v:SV) (k:List (Ty.DL ts)->Mode->ah->Option ρ):Option ρ:=
 match v with
 |.one (.nil _)=>k [] .ab σ
 |.one (.sl a s lo len)=>match σ.h a with
  |some (.row true m us xs)=>cF s ts.length (cF lo 0 (match vS us ts xs with
   |some ys=>(ae lo len (U ys)).aa fun _=>k ys m (σ.del a)
   |none=>none))
  |_=>none
 |_=>none
theorem NR {lo len l:Nat} {u:Unit} (h:ae lo len l=some u):lo=0/\len=l:=by
 unfold ae at h
 split at h
 ·rename_i hc;exact hc
 ·cases h
theorem anC {σ:ah} {ts:List Ty} {v:SV} {k:List (Ty.DL ts)->Mode->ah->Option ρ} {r:ρ} (h:S9 σ ts v k=some r):
  ∃(xs:List (Ty.DL ts)) (m:Mode) (σ1:ah),pt σ.er ts.length v.er=some (List.map (Ty.aF ts) xs,m,σ1.er)/\k xs m σ1=some r:=by
 unfold S9 at h
 split at h
 ·exact⟨[],.ab,σ,rfl,h⟩
 ·rename_i a s lo len
  split at h
  ·rename_i m us xs hn
   have bo:=(bc h).1;replace h:=(bc h).2;subst bo
   have bo:=(bc h).1;replace h:=(bc h).2;subst bo
   split at h
   ·rename_i ys hc
    obtain⟨c1,c2,c3⟩:=Mn hc
    rw[eR] at h
    obtain⟨_,hf,h⟩:=h
    obtain⟨_,hlen⟩:=NR hf
    replace hlen:len=ys.length:=hlen
    refine⟨ys,m,σ.del a,?_,h⟩
    have bm:σ.er.h a=some (.row true m ts.length (List.map (Ty.aF ts) ys)):=by simp[ah.er,cM,hn,SB.er,c1,c2]
    subst hlen
    simp only[SV.er,SC.er,pt,bm,List.length_map,and_self,if_true,ah.H8]
   ·cases h
  ·cases h
 ·cases h
theorem abj (ts:List Ty) (xs:List (Ty.DL ts)) (h:Ty.fe ts=true):fN (List.map (Ty.aF ts) xs)=true:=by
 simp only[fN,List.all_eq_true,List.mem_map]
 rintro _ ⟨e,_,rfl⟩
 rw[Ty.KL]
 exact h
def Ta (fl:Bool) (σ:ah) (ts:List Ty) (m:Mode) (v:SV) (k:List (Ty.DL ts)->Mode->ah->Option ρ):Option ρ:=
 match v with
 |.one (.nil _)=>k [] m σ
 |.one (.v (.list us) ys)=>match vS us ts ys with
  |some zs=>match fl with
   |true=>eH (Ty.fe ts) (k zs m σ)
   |false=>match m with
    |.live=>none
    |_=>k zs .aA σ
  |none=>none
 |.one (.sl b s lo len)=>match σ.h b with
  |some (.row _ m' us ys)=>cF s ts.length (match vS us ts ys with
   |some zs=>match fl with
    |true=>eH (Ty.fe ts) ((dg zs lo len).aa fun ws=>k ws m σ)
    |false=>(ae lo len (U zs)).aa fun _=>match m,m' with
     |.ab,.ab=>k zs .ab (σ.del b)
     |.live,.live=>k zs .live (σ.del b)
     |.aA,.aA=>k zs .aA (σ.del b)
     |.ab,.aA=>k zs .aA (σ.del b)
     |.aA,.ab=>k zs .aA (σ.del b)
     |_,_=>none
   |none=>none)
  |_=>none
 |_=>none
theorem anD {fl:Bool} {σ:ah} {ts:List Ty} {m:Mode} {v:SV} {k:List (Ty.DL ts)->Mode->ah->Option ρ} {r:ρ} (h:Ta fl σ ts m v k=some r):
  ∃(ys:List (Ty.DL ts)) (m2:Mode) (σ1:ah),la fl σ.er ts.length m v.er=some (List.map (Ty.aF ts) ys,m2,σ1.er)/\k ys m2 σ1=some r:=by
 unfold Ta at h
 split at h
 ·exact⟨[],m,σ,rfl,h⟩
 ·rename_i us ys
  split at h
  ·rename_i zs hc
   obtain⟨e1,e2,e3⟩:=Mn hc
   have vY:Ty.er (.list us) ys=.list ts.length (List.map (Ty.aF ts) zs):=by rw[<-e1,<-e2];rfl
   split at h
   ·have hs:=(bT h).1;replace h:=(bT h).2
    refine⟨zs,m,σ,?_,h⟩
    simp only[SV.er,SC.er,vY,la,if_true,Bool.true_and,abj ts zs hs]
   ·split at h
    ·cases h
    ·rename_i hm
     refine⟨zs,.aA,σ,?_,h⟩
     have bB:m≠ .live:=fun e=>hm e
     simp only[SV.er,SC.er,vY,la,if_true,Bool.false_and,Bool.false_eq_true,if_false,if_neg bB]
  ·cases h
 ·rename_i b s lo len
  split at h
  ·rename_i gr m' us ys hn
   have bo:=(bc h).1;replace h:=(bc h).2;subst bo
   split at h
   ·rename_i zs hc
    obtain⟨e1,e2,e3⟩:=Mn hc
    have bm:σ.er.h b=some (.row gr m' ts.length (List.map (Ty.aF ts) zs)):=by simp[ah.er,cM,hn,SB.er,e1,e2]
    split at h
    ·have hs:=(bT h).1;replace h:=(bT h).2
     rw[eR] at h
     obtain⟨ws,hw,h⟩:=h
     obtain⟨w1,w2⟩:=acN hw
     refine⟨ws,m,σ,?_,h⟩
     simp only[SV.er,SC.er,la,bm,List.length_map,w1,w2,and_self,if_true,Bool.true_and,abj ts ws hs]
    ·rw[eR] at h
     obtain⟨_,hf,h⟩:=h
     obtain⟨rfl,hlen⟩:=NR hf
     replace hlen:len=zs.length:=hlen
     subst hlen
     have AS:List.take zs.length (List.map (Ty.aF ts) zs)=List.map (Ty.aF ts) zs:=by
      rw[List.take_of_length_le];simp
     cases m<;>cases m'<;>first
      |(cases h;done)
      |exact⟨zs,_,σ.del b,by simp[SV.er,SC.er,la,bm,ah.H8],h⟩
   ·cases h
  ·cases h
 ·cases h
def SC.Xp:SC->Bool
 |.fn _ _=>false
 |.bh=>false
 |_=>true
def zr:List SV->Option (List SC)
 |[]=>some []
 |.one c::vs=>match c.Xp,zr vs with
  |true,some cs=>some (c::cs)
  |_,_=>none
 |_::_=>none
theorem abJ:∀{vs:List SV} {cs:List SC},zr vs=some cs->
  (vs.map SV.er).mapM (fun v=>match v with|.one c=>if c.kC=true then none else some c|_=>none)=some (cs.map SC.er)/\(cs.map SC.er).all ai.EU=true
 |[],cs,h=>by simp only[zr] at h;injection h with h;subst h;exact⟨rfl,rfl⟩
 |.one c::vs,cs,h=>by
  simp only[zr] at h
  split at h
  ·rename_i cs' e1 e2
   injection h with h
   subst h
   obtain⟨i1,i2⟩:=abJ e2
   have hc:c.er.kC=false/\c.er.EU=true:=by cases c<;>first|exact⟨rfl,rfl⟩|(simp[SC.Xp] at e1)
   refine⟨?_,by simp[hc.2];simpa using i2⟩
   simp only[List.map_cons,List.mapM_cons,SV.er,hc.1]
   rw[i1]
   rfl
  ·cases h
 |.agg _::_,cs,h=>by simp[zr] at h
 |.bn _::_,cs,h=>by simp[zr] at h
end
end Go.Am
