/- S3: typed functions, and one operation of the typed evaluator. No condition. -/
import Derived.Test.YtifmggmhdcdgbaaS2
set_option linter.unusedVariables false
set_option linter.unusedSimpArgs false
namespace Go.Am
def aQ:List (List Ty)->Type
 |[]=>Unit
 |ts::l=>match l with
  |[]=>Ty.DL ts
  |us::l'=>Ty.DL ts×aQ (us::l')
abbrev ao:=List (K×List Ty)
abbrev ao.aP (s:ao):List (List Ty):=s.map (·.2)
def cW:(as:ao)->aQ as.aP->List Dv
 |[],_=>[]
 |[a],x=>[(a.1,Ty.aH a.2 x)]
 |a::b::as,x=>(a.1,Ty.aH a.2 x.1)::cW (b::as) x.2
def nT:(as:ao)->aQ as.aP->List bR
 |[],_=>[]
 |[a],x=>[(a.1,Ty.gW a.2 x)]
 |a::b::as,x=>(a.1,Ty.gW a.2 x.1)::nT (b::as) x.2
theorem zy:∀(as:ao) (x:aQ as.aP),(nT as x).map bR.er=cW as x
 |[],_=>rfl
 |[a],x=>congrArg (fun l=>[((a.1,l):Dv)]) (Ty.pK a.2 x)
 |a::b::as,x=>by
  have:=zy (b::as) x.2
  simp only[nT,cW,List.map_cons,bR.er,Ty.pK,this]
def K.beq:K->K->Bool
 |.one,.one=>true
 |.agg,.agg=>true
 |.ptr,.ptr=>true
 |_,_=>false
theorem K.beq_eq {a b:K} (h:K.beq a b=true):a=b:=by cases a<;>cases b<;>first|rfl|cases h
def Gx (ts:List Ty):(l:List (List Ty))->Ty.DL ts->aQ l->aQ (ts::l)
 |[],x,_=>x
 |_::_,x,y=>(x,y)
theorem UT (a:K×List Ty):∀(as:ao) (x:Ty.DL a.2) (y:aQ (ao.aP as)),cW (a::as) (Gx a.2 (ao.aP as) x y)=(a.1,Ty.aH a.2 x)::cW as y
 |[],_,_=>rfl
 |_::_,_,_=>rfl
def qn:(as:ao)->List bR->Option (aQ as.aP)
 |[],[]=>some ()
 |a::as,d::ds=>eS (K.beq a.1 d.1) (match qm a.2 d.2,qn as ds with
  |some x,some y=>some (Gx a.2 (ao.aP as) x y)
  |_,_=>none)
 |_,_=>none
theorem wg:∀{as:ao} {ds:List bR} {x:aQ as.aP},qn as ds=some x->ds.map bR.er=cW as x
 |[],[],x,h=>rfl
 |a::as,d::ds,x,h=>by
  simp only[qn] at h
  have h1:=(bY h).1;replace h2:=(bY h).2
  split at h2
  ·rename_i y z e1 e2
   injection h2 with h2
   subst h2
   rw[UT,List.map_cons,wg e2,bR.er,<-K.beq_eq h1,<-wh e1]
  ·cases h2
 |[],_::_,x,h=>by simp[qn] at h
 |a::as,[],x,h=>by simp[qn] at h
mutual
theorem Ty.UY:∀(t:Ty) (x y:t.D),t.er x=t.er y->x=y
 |.int k,x,y,h=>by simp only[Ty.er] at h;injection h
 |.bool,x,y,h=>by simp only[Ty.er] at h;injection h
 |.list ts,x,y,h=>by simp only[Ty.er] at h;injection h with _ h;exact Ty.UX ts x y h
theorem Ty.UX:∀(ts:List Ty) (xs ys:List (Ty.DL ts)),List.map (Ty.aH ts) xs=List.map (Ty.aH ts) ys->xs=ys
 |ts,[],[],h=>rfl
 |ts,x::xs,y::ys,h=>by
  simp only[List.map_cons,List.cons.injEq] at h
  rw[Ty.GM ts x y h.1,Ty.UX ts xs ys h.2]
 |ts,[],_::_,h=>by simp at h
 |ts,_::_,[],h=>by simp at h
theorem Ty.GM:∀(ts:List Ty) (x y:Ty.DL ts),Ty.aH ts x=Ty.aH ts y->x=y
 |[],x,y,h=>rfl
 |[t],x,y,h=>by simp only[Ty.aH,List.cons.injEq,and_true] at h;exact Ty.UY t x y h
 |t::u::ts,x,y,h=>by
  simp only[Ty.aH,List.cons.injEq] at h
  exact Prod.ext (Ty.UY t x.1 y.1 h.1) (Ty.GM (u::ts) x.2 y.2 h.2)
end
theorem UU:∀(as:ao) (x y:aQ as.aP),cW as x=cW as y->x=y
 |[],x,y,h=>rfl
 |[a],x,y,h=>by simp[cW] at h;exact Ty.GM a.2 x y h
 |a::b::as,x,y,h=>by
  simp only[cW,List.cons.injEq,Prod.mk.injEq,true_and] at h
  exact Prod.ext (Ty.GM a.2 x.1 y.1 h.1) (UU (b::as) x.2 y.2 h.2)
structure aG where
 id:FuncId
 args:ao
 mu:aW
 aB:ao
 F:aQ args.aP->Option (aQ aB.aP)
open Classical in
noncomputable def aG.M (fn:aG) (ds:List Dv):Option (List Dv):=
 if h:∃x,cW fn.args x=ds then(fn.F h.choose).map (cW fn.aB) else none
theorem aG.BP (fn:aG) (x:aQ fn.args.aP):fn.M (cW fn.args x)=(fn.F x).map (cW fn.aB):=by
 have h:∃y,cW fn.args y=cW fn.args x:=⟨x,rfl⟩
 unfold aG.M
 rw[dif_pos h,UU _ _ _ h.choose_spec]
theorem aG.Kk {fn:aG} {ds rs:List Dv} (h:fn.M ds=some rs):∃x y,ds=cW fn.args x/\fn.F x=some y/\rs=cW fn.aB y:=by
 unfold aG.M at h
 split at h
 ·rename_i e
  rw[Option.map_eq_some_iff] at h
  obtain⟨y,h1,h2⟩:=h
  exact⟨_,y,e.choose_spec.symm,h1,h2.symm⟩
 ·cases h
def aW.bH:aW->Nat
 |[]=>0
 |s::l=>(s.filter Option.isSome).length+aW.bH l
def wF (k:Nat) (rs:List Dv):List Dv×List C:=(rs.take k,(rs.drop k).flatMap (·.2))
noncomputable def aG.MM (fn:aG) (ds:List Dv):Option (List Dv×List C):=(fn.M ds).map (wF (fn.aB.length - fn.mu.bH))
def aW.iL:aW->Nat
 |[]=>0
 |[[some .aF]]=>2
 |_=>1
def zM:ao->Bool
 |[]=>false
 |(.ptr,_)::_=>true
 |_::as=>zM as
def sQ (as:ao):Nat:=match zM as with
 |true=>1
 |false=>0
noncomputable def aG.MV (fn:aG) (ds:List Dv):Option (List Dv×List C):=(fn.M ds).map (wF (fn.aB.length - sQ fn.args))
noncomputable def dm (T:List aG):bh:=
 ⟨T.filterMap fun fn=>match fn.mu.iL with|0=>some (fn.id,fn.M)|_=>none,T.filterMap fun fn=>match fn.mu.iL with|1=>some (fn.id,fn.mu,fn.MM)|_=>none,
  T.filterMap fun fn=>match fn.mu.iL with|2=>some (fn.id,fn.MV)|_=>none⟩
def aG.find:List aG->FuncId->Option aG
 |[],_=>none
 |fn::l,f=>match Nat.beq f fn.id with
  |true=>some fn
  |false=>aG.find l f
theorem aG.Lg:∀{T:List aG} {f:FuncId} {fn:aG},aG.find T f=some fn->fn.mu.iL=0->bh.find (dm T).pure f=some fn.M
 |[],f,fn,h,_=>by simp[aG.find] at h
 |g::l,f,fn,h,hm=>by
  simp only[aG.find] at h
  split at h
  ·rename_i e
   injection h with h
   subst h
   simp only[dm,List.filterMap_cons,hm,bh.find]
   rw[if_pos (Nat.eq_of_beq_eq_true e)]
  ·rename_i e
   have ih:bh.find (dm l).pure f=some fn.M:=aG.Lg h hm
   simp only[dm,List.filterMap_cons] at ih⊢
   by_cases hg:g.mu.iL=0
   ·simp only[hg,bh.find]
    rw[if_neg (fun he=>by rw[he,Nat.beq_refl] at e;cases e)]
    exact ih
   ·split
    ·exact ih
    ·rename_i z hz
     split at hz
     ·rename_i h0;exact absurd h0 hg
     ·cases hz
theorem aG.Vj:∀{T:List aG} {f:FuncId} {fn:aG},aG.find T f=some fn->fn.mu.iL=1->bh.qT (dm T).AP f=some (fn.mu,fn.MM)
 |[],f,fn,h,_=>by simp[aG.find] at h
 |g::l,f,fn,h,hm=>by
  simp only[aG.find] at h
  split at h
  ·rename_i e
   injection h with h
   subst h
   simp only[dm,List.filterMap_cons,hm,bh.qT]
   rw[if_pos (Nat.eq_of_beq_eq_true e)]
  ·rename_i e
   have ih:bh.qT (dm l).AP f=some (fn.mu,fn.MM):=aG.Vj h hm
   simp only[dm,List.filterMap_cons] at ih⊢
   by_cases hg:g.mu.iL=1
   ·simp only[hg,bh.qT]
    rw[if_neg (fun he=>by rw[he,Nat.beq_refl] at e;cases e)]
    exact ih
   ·split
    ·exact ih
    ·rename_i z hz
     split at hz
     ·rename_i h0;exact absurd h0 hg
     ·cases hz
theorem aG.Vk:∀{T:List aG} {f:FuncId} {fn:aG},aG.find T f=some fn->fn.mu.iL=2->bh.nW (dm T).vs f=some fn.MV
 |[],f,fn,h,_=>by simp[aG.find] at h
 |g::l,f,fn,h,hm=>by
  simp only[aG.find] at h
  split at h
  ·rename_i e
   injection h with h
   subst h
   simp only[dm,List.filterMap_cons,hm,bh.nW]
   rw[if_pos (Nat.eq_of_beq_eq_true e)]
  ·rename_i e
   have ih:bh.nW (dm l).vs f=some fn.MV:=aG.Vk h hm
   simp only[dm,List.filterMap_cons] at ih⊢
   by_cases hg:g.mu.iL=2
   ·simp only[hg,bh.nW]
    rw[if_neg (fun he=>by rw[he,Nat.beq_refl] at e;cases e)]
    exact ih
   ·split
    ·exact ih
    ·rename_i z hz
     split at hz
     ·rename_i h0;exact absurd h0 hg
     ·cases hz
def uL (m:Mode) (σ:af):Nat->List TD->Option (List SC×Nat×af)
 |nm,[]=>some ([],nm,σ)
 |nm,⟨t,x⟩::cs=>match t,x with
  |.list ts,xs=>match σ.ins nm (.row true m ts xs) with
   |some σ1=>match uL m σ1 (nm+1) cs with
    |some (l,e7,σ2)=>some (.sl nm ts.length 0 (J (α:=Ty.DL ts) xs)::l,e7,σ2)
    |none=>none
   |none=>none
  |.int k,x=>match uL m σ nm cs with
   |some (l,e7,σ2)=>some (.v (.int k) x::l,e7,σ2)
   |none=>none
  |.bool,x=>match uL m σ nm cs with
   |some (l,e7,σ2)=>some (.v .bool x::l,e7,σ2)
   |none=>none
theorem I2 (m:Mode):∀{cs:List TD} {σ σ1:af} {nm e7:Nat} {l:List SC},uL m σ nm cs=some (l,e7,σ1)->
  σ.er.imp m nm (cj cs)=some (l.map SC.er,e7,σ1.er)
 |[],σ,σ1,nm,e7,l,h=>by
  simp only[uL] at h
  injection h with h
  injection h with h1 h2
  injection h2 with h2 h3
  subst h1 h2 h3
  rfl
 |⟨.list ts,xs⟩::cs,σ,σ2,nm,e7,l,h=>by
  simp only[uL] at h
  split at h
  ·rename_i σ1 e1
   split at h
   ·rename_i l' DA gF e2
    injection h with h
    injection h with h1 h2
    injection h2 with h2 h3
    subst h1 h2 h3
    have i1:σ.er.ins nm (.row true m ts.length (List.map (Ty.aH ts) xs))=some σ1.er:=af.sb e1
    have i2:=I2 m e2
    simp only[cj] at i2
    simp only[cj,List.map_cons,Ty.er,St.imp,i1,i2,SC.er]
    exact congrArg (fun q=>some (ah.sl nm ts.length 0 q::List.map SC.er l',DA,gF.er)) (List.length_map (Ty.aH ts))
   ·cases h
  ·cases h
 |⟨.int k,x⟩::cs,σ,σ2,nm,e7,l,h=>by
  simp only[uL] at h
  split at h
  ·rename_i l' DA gF e2
   injection h with h
   injection h with h1 h2
   injection h2 with h2 h3
   subst h1 h2 h3
   have i2:=I2 m e2
   simp only[cj] at i2
   simp only[cj,List.map_cons,Ty.er,St.imp,i2,SC.er]
  ·cases h
 |⟨.bool,x⟩::cs,σ,σ2,nm,e7,l,h=>by
  simp only[uL] at h
  split at h
  ·rename_i l' DA gF e2
   injection h with h
   injection h with h1 h2
   injection h2 with h2 h3
   subst h1 h2 h3
   have i2:=I2 m e2
   simp only[cj] at i2
   simp only[cj,List.map_cons,Ty.er,St.imp,i2,SC.er]
  ·cases h
def K.isAgg:K->Bool
 |.agg=>true
 |_=>false
def K.sJ:K->Bool
 |.ptr=>true
 |_=>false
def Bn (m:Mode) (σ:af):Nat->List bR->Option (List (Bool×List SC)×af)
 |_,[]=>some ([],σ)
 |nm,(k,cs)::ds=>match k.sJ with
  |true=>none
  |false=>match uL m σ nm cs with
   |some (l,e7,σ1)=>match Bn m σ1 e7 ds with
    |some (ls,σ2)=>some ((k.isAgg,l)::ls,σ2)
    |none=>none
   |none=>none
theorem Ss (m:Mode):∀{ds:List bR} {σ σ1:af} {nm:Nat} {ls:List (Bool×List SC)},Bn m σ nm ds=some (ls,σ1)->
  σ.er.jK m nm (ds.map bR.er)=some (ls.map (fun x=>(x.1,x.2.map SC.er)),σ1.er)
 |[],σ,σ1,nm,ls,h=>by
  simp only[Bn] at h
  injection h with h
  injection h with h1 h2
  subst h1 h2
  rfl
 |(k,cs)::ds,σ,σ2,nm,ls,h=>by
  simp only[Bn] at h
  split at h
  ·cases h
  ·rename_i hk
   split at h
   ·rename_i l e7 σ1 e1
    split at h
    ·rename_i ym gF e2
     injection h with h
     injection h with h1 h2
     subst h1 h2
     have i1:=I2 m e1
     have i2:=Ss m e2
     have WT:σ1.er.jK m e7 (List.map bR.er ds)=some (ym.map (fun x=>(x.1,x.2.map SC.er)),gF.er):=i2
     cases k with
     |ptr=>cases hk
     |one=>simp only[List.map_cons,bR.er,St.jK,i1,WT];rfl
     |agg=>simp only[List.map_cons,bR.er,St.jK,i1,WT];rfl
    ·cases h
   ·cases h
def Ea:List (Bool×List SC)->SV
 |[(ag,cs)]=>BC ag cs
 |l=>.bk l
theorem I8 (l:List (Bool×List SC)):(Ea l).er=me (l.map fun x=>(x.1,x.2.map SC.er)):=by
 match l with
 |[]=>rfl
 |[(ag,cs)]=>exact Eo ag cs
 |_::_::_=>rfl
section
variable {ρ:Type}
def IX (T:List aG) (m:Mode) (d:Option Nat) (f:FuncId) (as:List SV) (σ:af) (k:af->Option ρ):Option ρ:=
 match aG.find T f with
 |some fn=>match fn.mu.iL with
  |0=>Eh σ.h as fun ds=>match qn fn.args ds with
   |some x=>(fn.F x).U fun rs=>match Bn m σ (yq d) (nT fn.aB rs) with
    |some (ls,σ1)=>k (σ1.put d (Ea ls))
    |none=>none
   |none=>none
  |_=>none
 |none=>none
theorem Y7 {T:List aG} {m:Mode} {d:Option Nat} {f:FuncId} {as:List SV} {σ:af} {k:af->Option ρ} {r:ρ} (h:IX T m d f as σ k=some r):
  ∃σ1:af,qQ (dm T) m d f (as.map SV.er) σ.er=some σ1.er/\k σ1=some r:=by
 unfold IX at h
 split at h
 ·rename_i fn hf
  split at h
  ·rename_i iG
   obtain⟨ds,h1,h2⟩:=S7 h
   split at h2
   ·rename_i x hx
    rw[eY] at h2
    obtain⟨rs,hF,h2⟩:=h2
    split at h2
    ·rename_i ls σ1 hs
     refine⟨_,?_,h2⟩
     have e:=Ss m hs
     rw[zy] at e
     have hv:kJ σ.er.h (as.map SV.er)=some (ds.map bR.er):=h1
     simp only[qQ,hv,aG.Lg hf iG,wg hx,aG.BP,hF,Option.map_some,e,af.dq,I8]
    ·cases h2
   ·cases h2
  ·cases h
 ·cases h
def Bi:List bR->Option (List (Bool×List SC))
 |[]=>some []
 |(k,cs)::ds=>match k.sJ with
  |true=>none
  |false=>match Bi ds with
   |some ls=>some ((k.isAgg,cs.map fun x=>SC.v x.1 x.2)::ls)
   |none=>none
theorem Sj:∀{ds:List bR} {ls:List (Bool×List SC)},Bi ds=some ls->gX (ds.map bR.er)=some (ls.map fun x=>(x.1,x.2.map SC.er))
 |[],ls,h=>by simp only[Bi] at h;injection h with h;subst h;rfl
 |(k,cs)::ds,ls,h=>by
  simp only[Bi] at h
  split at h
  ·cases h
  ·rename_i hk
   split at h
   ·rename_i ym e
    injection h with h
    subst h
    have i2:=Sj e
    have ec:(cj cs).map ah.c=(cs.map fun x=>SC.v x.1 x.2).map SC.er:=by simp[cj,SC.er]
    cases k with
    |ptr=>cases hk
    |one=>simp only[List.map_cons,bR.er,gX];rw[show gX (List.map bR.er ds)=_ from i2];simp only;rw[ec];rfl
    |agg=>simp only[List.map_cons,bR.er,gX];rw[show gX (List.map bR.er ds)=_ from i2];simp only;rw[ec];rfl
   ·cases h
def Sl (T:List aG) (d:Option Nat) (f:FuncId) (as:List SV) (σ:af) (k:af->Option ρ):Option ρ:=
 match aG.find T f with
 |some fn=>match fn.mu.iL with
  |0=>Eh σ.h as fun ds=>match qn fn.args ds with
   |some x=>(fn.F x).U fun rs=>match Bi (nT fn.aB rs) with
    |some ls=>k (σ.put d (Ea ls))
    |none=>none
   |none=>none
  |_=>none
 |none=>none
theorem akg {T:List aG} {d:Option Nat} {f:FuncId} {as:List SV} {σ:af} {k:af->Option ρ} {r:ρ} (h:Sl T d f as σ k=some r):
  ∃v:SV,tv (dm T) f (as.map SV.er) σ.er.h=some v.er/\k (σ.put d v)=some r:=by
 unfold Sl at h
 split at h
 ·rename_i fn hf
  split at h
  ·rename_i iG
   obtain⟨ds,h1,h2⟩:=S7 h
   split at h2
   ·rename_i x hx
    rw[eY] at h2
    obtain⟨rs,hF,h2⟩:=h2
    split at h2
    ·rename_i ls hs
     refine⟨_,?_,h2⟩
     have e:=Sj hs
     rw[zy] at e
     have hv:kJ σ.er.h (as.map SV.er)=some (ds.map bR.er):=h1
     simp only[tv,hv,aG.Lg hf iG,wg hx,aG.BP,hF,Option.map_some,e,I8]
    ·cases h2
   ·cases h2
  ·cases h
 ·cases h
def Ty.r8:Ty->Bool
 |.list ts=>Ty.fi ts
 |_=>true
def Th:Mode->List Ty->Bool
 |.aa,ts=>Ty.fi ts
 |.live,ts=>ts.all Ty.r8
 |.aF,_=>false
theorem yC (ts:List Ty) (xs:List (Ty.DL ts)) (h:Ty.fi ts=true):fQ (List.map (Ty.aH ts) xs)=true:=by
 simp only[fQ,List.all_eq_true,List.mem_map]
 rintro e ⟨x,_,rfl⟩
 rw[Ty.IV];exact h
theorem UI (t:Ty) (x:t.D) (h:Ty.r8 t=true):C.r8 (t.er x)=true:=by
 cases t with
 |int k=>rfl
 |bool=>rfl
 |list ts=>exact yC ts x h
theorem UH:∀(ts:List Ty) (x:Ty.DL ts),ts.all Ty.r8=true->(Ty.aH ts x).all C.r8=true
 |[],_,_=>rfl
 |[t],x,h=>by
  simp only[List.all_cons,List.all_nil,Bool.and_true] at h
  simp only[Ty.aH,List.all_cons,List.all_nil,Bool.and_true]
  exact UI t x h
 |t::u::ts,x,h=>by
  simp only[List.all_cons (a:=t),Bool.and_eq_true] at h
  simp only[Ty.aH,List.all_cons (a:=Ty.er t x.1),Bool.and_eq_true]
  exact⟨UI t x.1 h.1,UH (u::ts) x.2 h.2⟩
theorem Vo (m:Mode) (ts:List Ty) (xs:List (Ty.DL ts)) (h:Th m ts=true):sd m (List.map (Ty.aH ts) xs)=true:=by
 cases m with
 |aF=>cases h
 |aa=>exact yC ts xs h
 |live=>
  simp only[sd,List.all_eq_true,List.mem_map]
  rintro e ⟨x,_,rfl⟩
  have:=UH ts x h
  simpa[List.all_eq_true] using this
def Mode.NH:Mode->Bool
 |.live=>true
 |_=>false
def Mode.Xa:Mode->Bool
 |.aa=>true
 |_=>false
def SA (h:Nat->Option SB) (md:Mode) (c:SC) (k:de->(t:Ty)->t.D->Option ρ):Option ρ:=
 match c with
 |.nil ts=>match ts with
  |[]=>none
  |t::us=>eS md.own (k (.nil (us.length+1)) (.list (t::us)) ([]:List (Ty.DL (t::us))))
 |.sl n sz lo len=>match h n with
  |some (.row _ m ts xs)=>eS (m.own&&((!md.NH||m.NH)&&Th md ts)) (cC ts.length sz ((ae lo len (J xs)).U fun _=>k (.row n) (.list ts) xs))
  |_=>none
 |.bt n kk ax off sz len=>match h n with
  |some (.row _ .live ts xs)=>eS md.Xa (cC ts.length ax ((dg xs kk).U fun e=>match(Ty.gW ts e)[off]? with
   |some ⟨.list us,ys⟩=>eS (Ty.fi us) (k (.nest n kk off) (.list us) ys)
   |_=>none))
  |_=>none
 |_=>none
theorem akv {h:Nat->Option SB} {md:Mode} {c:SC} {k:de->(t:Ty)->t.D->Option ρ} {r:ρ} (hx:SA h md c k=some r):
  ∃(it:de) (t:Ty) (x:t.D),yo (cT h) md c.er=some (it,t.er x)/\k it t x=some r:=by
 unfold SA at hx
 split at hx
 ·split at hx
  ·cases hx
  ·rename_i t us
   have hm:=(bY hx).1;replace hx:=(bY hx).2
   refine⟨_,.list (t::us),[],?_,hx⟩
   have bE:md≠ .aF:=by rintro rfl;cases hm
   simp[SC.er,yo,Ty.er,bE]
 ·rename_i n sz lo len
  split at hx
  ·rename_i gr m ts xs hn
   have hm:=(bY hx).1;replace hx:=(bY hx).2
   have bm:=(ba hx).1;replace hx:=(ba hx).2;subst bm
   rw[eY] at hx
   obtain⟨_,hf,hx⟩:=hx
   have Mx:lo=0/\len=J xs:=by
    unfold ae at hf
    split at hf
    ·assumption
    ·cases hf
   obtain⟨rfl,rfl⟩:=Mx
   simp only[Bool.and_eq_true] at hm
   have bE:m≠ .aF:=by rintro rfl;cases hm.1
   have sr:md=.live->m=.live:=by
    rintro rfl
    have:=hm.2.1
    cases m<;>first|rfl|(simp[Mode.NH] at this)
   refine⟨_,.list ts,xs,?_,hx⟩
   simp only[SC.er,yo,cT,hn,Option.map_some,SB.er,Ty.er]
   rw[if_pos ⟨bE,sr,trivial,trivial,(List.length_map (Ty.aH ts)).symm,Vo md ts xs hm.2.2⟩]
  ·cases hx
 ·rename_i n kk ax off sz len
  split at hx
  ·rename_i gr ts xs hn
   have hm:=(bY hx).1;replace hx:=(bY hx).2
   have bm:=(ba hx).1;replace hx:=(ba hx).2;subst bm
   rw[eY] at hx
   obtain⟨e,he,hx⟩:=hx
   replace he:xs[kk]? =some e:=he
   split at hx
   ·rename_i us ys hd
    have hs:=(bY hx).1;replace hx:=(bY hx).2
    refine⟨_,.list us,ys,?_,hx⟩
    have MS:md=.aa:=by cases md<;>first|rfl|(simp[Mode.Xa] at hm)
    have np:=K6 hd
    simp only[SC.er,yo,cT,hn,Option.map_some,SB.er,List.getElem?_map,he,Option.bind_some,np,Ty.er,MS,and_self,if_true]
    rw[if_pos (yC us ys hs)]
   ·cases hx
  ·cases hx
 ·cases hx
def SC.nm:SC->List Nat
 |.sl n _ _ _=>[n]
 |.bt n _ _ _ _ _=>[n]
 |_=>[]
theorem SC.aix (c:SC):c.er.dF.toList=c.nm:=by cases c<;>rfl
def Bp:List (Option Mode)->List SC->List Nat
 |some _::fs,c::cs=>c.nm++Bp fs cs
 |none::fs,_::cs=>Bp fs cs
 |_,_=>[]
theorem SD:∀(fs:List (Option Mode)) (cs:List SC),sP fs (cs.map SC.er)=Bp fs cs
 |some m::fs,c::cs=>by simp only[List.map_cons,sP,Bp,SC.aix,SD fs cs]
 |none::fs,c::cs=>by simp only[List.map_cons,sP,Bp,SD fs cs]
 |[],cs=>by cases cs<;>rfl
 |some m::fs,[]=>rfl
 |none::fs,[]=>rfl
def D7:aW->List (Bool×List SC)->List Nat
 |s::sig,a::as=>Bp s a.2++D7 sig as
 |_,_=>[]
theorem Zo:∀(sig:aW) (as:List (Bool×List SC)),ox sig (as.map fun x=>(x.1,x.2.map SC.er))=D7 sig as
 |s::sig,a::as=>by simp only[List.map_cons,ox,D7,SD,Zo sig as]
 |[],as=>by cases as<;>rfl
 |s::sig,[]=>rfl
def Sr (h:Nat->Option SB) (ns:List Nat):Nat->Option SB:=fun n=>match ns.contains n with|true=>none|false=>h n
theorem akp (h:Nat->Option SB) (ns:List Nat):cT (Sr h ns)=eP (cT h) ns:=by
 funext n
 simp only[cT,Sr,eP]
 cases hc:ns.contains n<;>simp[hc]
def uM (h h0:Nat->Option SB):List (Option Mode)->List SC->(List TD->List (de×Mode)->Option ρ)->Option ρ
 |[],cs,k=>yJ h0 cs fun l=>k l []
 |none::fs,c::cs,k=>wJ h0 c fun t x=>uM h h0 fs cs fun l its=>k (⟨t,x⟩::l) its
 |some md::fs,c::cs,k=>SA h md c fun it t x=>uM h h0 fs cs fun l its=>k (⟨t,x⟩::l) ((it,md)::its)
 |_::_,[],_=>none
theorem Sz {h h0:Nat->Option SB}:∀{fs:List (Option Mode)} {cs:List SC} {k:List TD->List (de×Mode)->Option ρ} {r:ρ},uM h h0 fs cs k=some r->
  ∃l its,mP (cT h) (cT h0) fs (cs.map SC.er)=some (cj l,its)/\k l its=some r
 |[],cs,k,r,hx=>by
  simp only[uM] at hx
  obtain⟨l,h1,h2⟩:=Ei hx
  exact⟨l,[],by simp only[mP,h1],h2⟩
 |none::fs,c::cs,k,r,hx=>by
  simp only[uM] at hx
  obtain⟨t,x,h1,h2⟩:=BB hx
  obtain⟨l,its,h3,h4⟩:=Sz h2
  exact⟨⟨t,x⟩::l,its,by simp only[List.map_cons,mP,h1,h3,cj],h4⟩
 |some md::fs,c::cs,k,r,hx=>by
  simp only[uM] at hx
  obtain⟨it,t,x,h1,h2⟩:=akv hx
  obtain⟨l,its,h3,h4⟩:=Sz h2
  exact⟨⟨t,x⟩::l,(it,md)::its,by simp only[List.map_cons,mP,h1,h3,cj],h4⟩
 |none::fs,[],k,r,hx=>by simp[uM] at hx
 |some md::fs,[],k,r,hx=>by simp[uM] at hx
def NR:Bool->K
 |true=>.agg
 |false=>.one
def I4 (h h0:Nat->Option SB):aW->List (Bool×List SC)->(List bR->List (de×Mode)->Option ρ)->Option ρ
 |_,[],k=>k [] []
 |sig,(ag,cs)::as,k=>uM h h0 sig.hd cs fun l its=>I4 h h0 sig.tl as fun ds uo=>k ((NR ag,l)::ds) (its++uo)
theorem Zp {h h0:Nat->Option SB}:∀{as:List (Bool×List SC)} {sig:aW} {k:List bR->List (de×Mode)->Option ρ} {r:ρ},I4 h h0 sig as k=some r->
  ∃ds its,pu (cT h) (cT h0) sig (as.map fun x=>(x.1,x.2.map SC.er))=some (ds.map bR.er,its)/\k ds its=some r
 |[],sig,k,r,hx=>⟨[],[],by simp only[List.map_nil,pu],hx⟩
 |(ag,cs)::as,sig,k,r,hx=>by
  simp only[I4] at hx
  obtain⟨l,its,h1,h2⟩:=Sz hx
  obtain⟨ds,uo,h3,h4⟩:=Zp h2
  refine⟨_,_,?_,h4⟩
  simp only[List.map_cons,pu,h1,h3,bR.er]
  cases ag<;>rfl
def D6:List SV->Option (List (Bool×List SC))
 |[]=>some []
 |v::vs=>match v.cells?,D6 vs with
  |some x,some xs=>some (x::xs)
  |_,_=>none
theorem Zk:∀{as:List SV} {fx:List (Bool×List SC)},D6 as=some fx->wc (as.map SV.er)=some (fx.map fun x=>(x.1,x.2.map SC.er))
 |[],fx,h=>by simp only[D6] at h;injection h with h;subst h;rfl
 |v::vs,fx,h=>by
  simp only[D6] at h
  split at h
  ·rename_i x xs e1 e2
   injection h with h
   subst h
   obtain⟨b,cs⟩:=x
   simp only[List.map_cons,wc,SV.mz e1,Zk e2]
  ·cases h
def IY (ts:List Ty) (e:Ty.DL ts) (off:Nat) (x:TD):Option (Ty.DL ts):=qm ts ((Ty.gW ts e).set off x)
theorem Y9 {ts:List Ty} {e e':Ty.DL ts} {off:Nat} {x:TD} (h:IY ts e off x=some e'):Ty.aH ts e'=(Ty.aH ts e).set off (x.1.er x.2):=by
 have:=wh h
 rw[this,cj,List.map_set,<-Ty.pK ts e]
 rfl
def SI (σ:af) (it:de) (x:TD) (k:af->Option ρ):Option ρ:=
 match it with
 |.nil _=>k σ
 |.row n=>match x with
  |⟨.list ts,xs⟩=>match σ.h n with
   |some (.row gr m us _)=>cC us.length ts.length (k (σ.dv n (.row gr m ts xs)))
   |_=>none
  |_=>none
 |.nest n kk off=>match σ.h n with
  |some (.row gr m us xs)=>(dg xs kk).U fun e=>match IY us e off x with
   |some e'=>k (σ.dv n (.row gr m us (bI xs kk e')))
   |none=>none
  |_=>none
theorem akD {σ:af} {it:de} {x:TD} {k:af->Option ρ} {r:ρ} (hx:SI σ it x k=some r):∃σ1,σ.er.nD it (x.1.er x.2)=some σ1.er/\k σ1=some r:=by
 unfold SI at hx
 split at hx
 ·exact⟨σ,rfl,hx⟩
 ·rename_i n
  split at hx
  ·rename_i ts xs
   split at hx
   ·rename_i gr m us ys hn
    have bm:=(ba hx).1;replace hx:=(ba hx).2
    refine⟨_,?_,hx⟩
    have bn:σ.er.h n=some (.row gr m us.length (List.map (Ty.aH us) ys)):=by simp[af.er,cT,hn,SB.er]
    simp only[St.nD,Ty.er,bn,bm,if_true,af.pO,SB.er]
   ·cases hx
  ·cases hx
 ·rename_i n kk off
  split at hx
  ·rename_i gr m us xs hn
   rw[eY] at hx
   obtain⟨e,he,hx⟩:=hx
   replace he:xs[kk]? =some e:=he
   split at hx
   ·rename_i e' hs
    refine⟨_,?_,hx⟩
    have bn:σ.er.h n=some (.row gr m us.length (List.map (Ty.aH us) xs)):=by simp[af.er,cT,hn,SB.er]
    simp only[St.nD,bn,List.getElem?_map,he,Option.map_some,af.pO,SB.er,bI,List.map_set,Y9 hs]
   ·cases hx
  ·cases hx
def Bv (σ:af):List (de×Mode)->List TD->(af->Option ρ)->Option ρ
 |[],[],k=>k σ
 |it::its,x::xs,k=>SI σ it.1 x fun σ1=>Bv σ1 its xs k
 |_,_,_=>none
theorem ZA:∀{its:List (de×Mode)} {xs:List TD} {σ:af} {k:af->Option ρ} {r:ρ},Bv σ its xs k=some r->∃σ1,σ.er.pB its (cj xs)=some σ1.er/\k σ1=some r
 |[],[],σ,k,r,hx=>⟨σ,rfl,hx⟩
 |it::its,x::xs,σ,k,r,hx=>by
  simp only[Bv] at hx
  obtain⟨σ1,h1,h2⟩:=akD hx
  obtain⟨σ2,h3,h4⟩:=ZA h2
  refine⟨σ2,?_,h4⟩
  simp only[cj] at h3
  simp only[cj,List.map_cons,St.pB,h1,h3]
 |[],_::_,σ,k,r,hx=>by simp[Bv] at hx
 |_::_,[],σ,k,r,hx=>by simp[Bv] at hx
def Ir:List Nat->Bool
 |[]=>true
 |n::l=> !(l.contains n)&&Ir l
theorem X7:∀{l:List Nat},Ir l=true->l.Nodup
 |[],_=>List.nodup_nil
 |n::l,h=>by
  simp only[Ir,Bool.and_eq_true,Bool.not_eq_true'] at h
  rw[List.nodup_cons]
  refine⟨fun hm=>?_,X7 h.2⟩
  have:l.contains n=true:=by simpa using hm
  rw[this] at h
  cases h.1
def Sm (T:List aG) (m:Mode) (d:Option Nat) (f:FuncId) (as:List SV) (σ:af) (k:af->Option ρ):Option ρ:=
 match aG.find T f with
 |some fn=>match fn.mu.iL with
  |1=>match D6 as with
   |some fx=>eS (Ir (D7 fn.mu fx)) (I4 σ.h (Sr σ.h (D7 fn.mu fx)) fn.mu fx fun ds its=>match qn fn.args ds with
    |some x=>(fn.F x).U fun y=>Bv σ its (((nT fn.aB y).drop (fn.aB.length - fn.mu.bH)).flatMap (·.2)) fun σ1=>match Bn m σ1 (yq d) ((nT fn.aB y).take (fn.aB.length - fn.mu.bH)) with
     |some (ls,σ2)=>k (σ2.put d (Ea ls))
     |none=>none
    |none=>none)
   |none=>none
  |_=>none
 |none=>none
theorem I7 (k:Nat) (l:List bR):wF k (l.map bR.er)=((l.take k).map bR.er,cj ((l.drop k).flatMap (·.2))):=by
 simp only[wF,<-List.map_take,<-List.map_drop]
 congr 1
 induction l.drop k with
 |nil=>rfl
 |cons d l ih=>
  simp only[List.map_cons,List.flatMap_cons,ih,cj,List.map_append,bR.er]
theorem akh {T:List aG} {m:Mode} {d:Option Nat} {f:FuncId} {as:List SV} {σ:af} {k:af->Option ρ} {r:ρ} (h:Sm T m d f as σ k=some r):
  ∃σ1:af,tz (dm T) m d f (as.map SV.er) σ.er=some σ1.er/\k σ1=some r:=by
 unfold Sm at h
 split at h
 ·rename_i fn hf
  split at h
  ·rename_i iG
   split at h
   ·rename_i fx hc
    have gj:=X7 (bY h).1;replace h:=(bY h).2
    obtain⟨ds,its,h1,h2⟩:=Zp h
    split at h2
    ·rename_i x hx
     rw[eY] at h2
     obtain⟨y,hF,h2⟩:=h2
     obtain⟨σ1,h3,h4⟩:=ZA h2
     split at h4
     ·rename_i ls σ2 hs
      refine⟨_,?_,h4⟩
      have e:=Ss m hs
      have hM:fn.MM (cW fn.args x)=some (((nT fn.aB y).take (fn.aB.length - fn.mu.bH)).map bR.er,cj (((nT fn.aB y).drop (fn.aB.length - fn.mu.bH)).flatMap (·.2))):=by
       unfold aG.MM
       rw[aG.BP,hF]
       simp only[Option.map_some]
       rw[<-zy,I7]
      have hh:σ.er.h=cT σ.h:=rfl
      rw[akp] at h1
      simp only[tz,aG.Vj hf iG,Zk hc,Zo,if_pos gj,hh,h1,wg hx,hM,h3,e,af.dq,I8]
     ·cases h4
    ·cases h2
   ·cases h
  ·cases h
 ·cases h
def yE:List SC->Option (List TD)
 |[]=>some []
 |.v t x::cs=>match yE cs with
  |some l=>some (⟨t,x⟩::l)
  |none=>none
 |.nil (t::us)::cs=>match yE cs with
  |some l=>some (⟨.list (t::us),([]:List (Ty.DL (t::us)))⟩::l)
  |none=>none
 |_::_=>none
theorem I1:∀{cs:List SC} {l:List TD},yE cs=some l->mI (cs.map SC.er)=some (cj l)
 |[],l,h=>by simp only[yE] at h;injection h with h;subst h;rfl
 |c::cs,l,h=>by
  unfold yE at h
  split at h
  ·rename_i e;cases e
  ·rename_i t x cs' e
   injection e with e1 e2
   subst e1 e2
   split at h
   ·rename_i l' e
    injection h with h
    subst h
    simp only[List.map_cons,mI,SC.er,ul,I1 e,cj]
   ·cases h
  ·rename_i t us cs' e
   injection e with e1 e2
   subst e1 e2
   split at h
   ·rename_i l' e
    injection h with h
    subst h
    simp[mI,SC.er,ul,I1 e,cj,Ty.er]
   ·cases h
  ·cases h
def IQ (h:Nat->Option SB) (n kk off:Nat):Option (List TD):=
 match kk,off with
 |0,0=>match h n with
  |some (.box cs)=>yE cs
  |_=>none
 |_,_=>none
theorem YX {h:Nat->Option SB} {n kk sz off:Nat} {l:List TD} (e:IQ h n kk off=some l):m8 (cT h) (SV.er (.one (.ptr n kk sz off)))=some (n,cj l):=by
 unfold IQ at e
 split at e
 ·split at e
  ·rename_i cs hn
   simp[SV.er,SC.er,m8,cT,hn,SB.er,I1 e]
  ·cases e
 ·cases e
def SV.pA:SV->Option (Nat×Nat×Nat)
 |.one (.ptr n kk _ off)=>some (n,kk,off)
 |_=>none
theorem Yu {v:SV} (h:v.pA=none) (hh:Nat->Option aq):m8 hh v.er=none:=by
 cases v with
 |one c=>cases c<;>first|rfl|(simp[SV.pA] at h)
 |agg cs=>rfl
 |bk xs=>rfl
theorem Yv {v:SV} {n kk off:Nat} (h:v.pA=some (n,kk,off)):∃sz,v=.one (.ptr n kk sz off):=by
 cases v with
 |one c=>cases c<;>simp[SV.pA] at h;obtain⟨rfl,rfl,rfl⟩:=h;exact⟨_,rfl⟩
 |agg cs=>simp[SV.pA] at h
 |bk xs=>simp[SV.pA] at h
def DY (σ:af):List SV->(List bR->List Nat->af->Option ρ)->Option ρ
 |[],k=>k [] [] σ
 |v::vs,k=>match v.pA with
  |some (n,kk,off)=>match IQ σ.h n kk off with
   |some l=>DY σ vs fun ds ns σ1=>k ((.ptr,l)::ds) (n::ns) σ1
   |none=>none
  |none=>match v.cells? with
   |some (ag,cs)=>Bz σ cs fun l _ σ1=>DY σ1 vs fun ds ns σ2=>k ((NR ag,l)::ds) ns σ2
   |none=>none
theorem Q9:∀{vs:List SV} {σ:af} {k:List bR->List Nat->af->Option ρ} {r:ρ},DY σ vs k=some r->
  ∃ds ns σ1,σ.er.iu (vs.map SV.er)=some (ds.map bR.er,ns,σ1.er)/\k ds ns σ1=some r
 |[],σ,k,r,h=>⟨[],[],σ,rfl,h⟩
 |v::vs,σ,k,r,h=>by
  simp only[DY] at h
  split at h
  ·rename_i n kk off hv
   obtain⟨sz,rfl⟩:=Yv hv
   split at h
   ·rename_i l hl
    obtain⟨ds,ns,σ1,h1,h2⟩:=Q9 h
    refine⟨_,_,σ1,?_,h2⟩
    have:=YX (sz:=sz) hl
    have hh:σ.er.h=cT σ.h:=rfl
    simp only[List.map_cons,St.iu,hh,this,h1,bR.er]
   ·cases h
  ·rename_i hv
   split at h
   ·rename_i ag cs hc
    obtain⟨l,o,σ1,h1,h2⟩:=Jg h
    obtain⟨ds,ns,σ2,h3,h4⟩:=Q9 h2
    refine⟨_,_,σ2,?_,h4⟩
    simp only[List.map_cons,St.iu,Yu hv,SV.mz hc,h1,h3,bR.er]
    cases ag<;>rfl
   ·cases h
def SH (σ:af) (ns:List Nat) (out:List TD) (k:af->Option ρ):Option ρ:=
 match ns,out with
 |[],[]=>k σ
 |[n],out=>match σ.h n with
  |some (.box cs)=>cC cs.length out.length (k (σ.dv n (.box (out.map fun x=>.v x.1 x.2))))
  |_=>none
 |_,_=>none
theorem To (out:List TD):(out.map fun x=>SC.v x.1 x.2).map SC.er=(cj out).map .c:=by simp[cj,SC.er]
theorem akC {σ:af} {ns:List Nat} {out:List TD} {k:af->Option ρ} {r:ρ} (h:SH σ ns out k=some r):∃σ1,σ.er.ry ns (cj out)=some σ1.er/\k σ1=some r:=by
 unfold SH at h
 split at h
 ·exact⟨σ,rfl,h⟩
 ·rename_i n
  split at h
  ·rename_i cs hn
   have he:=(ba h).1;replace h:=(ba h).2
   refine⟨_,?_,h⟩
   have bn:σ.er.h n=some (.box (cs.map SC.er)):=by simp[af.er,cT,hn,SB.er]
   simp only[St.ry,bn,List.length_map]
   rw[if_pos (by rw[he,cj,List.length_map]),af.pO,SB.er,To]
  ·cases h
 ·cases h
def bR.pA:List bR->Option (List TD)
 |[(.ptr,cs)]=>some cs
 |_=>none
theorem aki {rs:List bR} {cs:List TD} (h:bR.pA rs=some cs):rs=[(.ptr,cs)]:=by
 unfold bR.pA at h
 split at h
 ·injection h with h;rw[h]
 ·cases h
def Ra (σ:af) (d:Option Nat) (rs:List bR) (k:af->Option ρ):Option ρ:=
 match bR.pA rs with
 |some cs=>match d with
  |some q=>match σ.ins q (.box (cs.map fun x=>.v x.1 x.2)) with
   |some σ1=>k (σ1.put d (.one (.ptr q 0 0 0)))
   |none=>none
  |none=>none
 |none=>match Bi rs with
  |some ls=>k (σ.put d (Ea ls))
  |none=>none
theorem akb {σ:af} {d:Option Nat} {rs:List bR} {k:af->Option ρ} {r:ρ} (h:Ra σ d rs k=some r):∃σ1,qM σ.er d (rs.map bR.er)=some σ1.er/\k σ1=some r:=by
 unfold Ra at h
 split at h
 ·rename_i cs hp
  have:=aki hp
  subst this
  split at h
  ·rename_i q
   split at h
   ·rename_i σ1 hi
    refine⟨_,?_,h⟩
    have e:=af.sb hi
    rw[SB.er,To] at e
    simp only[List.map_cons,List.map_nil,bR.er,qM,e,af.dq]
    rfl
   ·cases h
  ·cases h
 ·split at h
  ·rename_i ls hs
   refine⟨_,?_,h⟩
   have e:=Sj hs
   have hb:qM σ.er d (rs.map bR.er)=match gX (rs.map bR.er) with
     |some ls=>some (σ.er.put d (me ls))
     |none=>none:=by
    unfold qM
    split
    ·rename_i cs he
     rw[he] at e
     simp[gX] at e
    ·rfl
   rw[hb,e,af.dq,I8]
  ·cases h
def Sk (T:List aG) (d:Option Nat) (f:FuncId) (as:List SV) (σ:af) (k:af->Option ρ):Option ρ:=
 match aG.find T f with
 |some fn=>match fn.mu.iL with
  |2=>DY σ as fun ds ns σ1=>match qn fn.args ds with
   |some x=>(fn.F x).U fun y=>SH σ1 ns (((nT fn.aB y).drop (fn.aB.length - sQ fn.args)).flatMap (·.2)) fun σ2=>Ra σ2 d ((nT fn.aB y).take (fn.aB.length - sQ fn.args)) k
   |none=>none
  |_=>none
 |none=>none
theorem akf {T:List aG} {d:Option Nat} {f:FuncId} {as:List SV} {σ:af} {k:af->Option ρ} {r:ρ} (h:Sk T d f as σ k=some r):
  ∃σ1:af,r9 (dm T) d f (as.map SV.er) σ.er=some σ1.er/\k σ1=some r:=by
 unfold Sk at h
 split at h
 ·rename_i fn hf
  split at h
  ·rename_i iG
   obtain⟨ds,ns,σ1,h1,h2⟩:=Q9 h
   split at h2
   ·rename_i x hx
    rw[eY] at h2
    obtain⟨y,hF,h2⟩:=h2
    obtain⟨σ2,h3,h4⟩:=akC h2
    obtain⟨gF,h5,h6⟩:=akb h4
    refine⟨gF,?_,h6⟩
    have hM:fn.MV (cW fn.args x)=some (((nT fn.aB y).take (fn.aB.length - sQ fn.args)).map bR.er,cj (((nT fn.aB y).drop (fn.aB.length - sQ fn.args)).flatMap (·.2))):=by
     unfold aG.MV
     rw[aG.BP,hF]
     simp only[Option.map_some]
     rw[<-zy,I7]
    simp only[r9,h1,aG.Vk hf iG,wg hx,hM,h3,h5]
   ·cases h2
  ·cases h
 ·cases h
inductive cE where
 |mv (x:cD)
 |pick (c x y:cD)
 |alloc (zs:List SC)
 |box (sz:Nat) (x:cD)
 |build (zs:List SC) (parts:List (Nat×Nat×cD))
 |d8 (ts:List Ty) (parts:List cD)
 |load (ag:Bool) (sz:Nat) (x:cD)
 |store (sz:Nat) (x v:cD)
 |oy (x:cD)
 |bin (op:BinOp) (x y:cD)
 |oO (op:BinOp) (x y:cD)
 |un (op:UnOp) (x:cD)
 |conv (k:IntKind) (x:cD)
 |kB (m:Mode) (ts:List Ty) (by_:Nat) (z:Ty.DL ts) (l c:cD)
 |slice (sz:Nat) (x:cD) (lo hi:Option cD)
 |tail (sz:Nat) (x lo:cD)
 |ak (off:Nat) (x:cD)
 |bT (sz:Nat) (x i:cD)
 |ext (i:Nat) (x:cD)
 |nf (ag:Bool) (off sz:Nat) (x:cD)
 |mU (f:FuncId) (bM:Bool) (x:cD)
 |len (x:cD)
 |append (fl:Bool) (ts:List Ty) (by_:Nat) (x y:cD)
 |mm (mx:Bool) (x y:cD)
 |call (m:Mode) (f:FuncId) (xs:List cD)
 |mr (f:FuncId) (xs:List cD)
 |copy (x y:cD)
 |kN (t:Ty) (z:t.D) (x:cD)
 |pt (f:FuncId) (xs:List cD)
 |mw (m:Mode) (x:cD) (xs:List cD)
 |e9 (m:Mode) (f:FuncId) (xs:List cD)
 |jv (f:FuncId) (xs:List cD)
def cE.er:cE->aD
 |.mv x=>.mv x.er
 |.pick c x y=>.pick c.er x.er y.er
 |.alloc zs=>.alloc (zs.map SC.er)
 |.box sz x=>.box sz x.er
 |.build zs ps=>.build (zs.map SC.er) (ps.map fun p=>(p.1,p.2.1,p.2.2.er))
 |.d8 ts ps=>.d8 ts.length (ps.map cD.er)
 |.load ag sz x=>.load ag sz x.er
 |.store sz x v=>.store sz x.er v.er
 |.oy x=>.oy x.er
 |.bin op x y=>.bin op x.er y.er
 |.oO op x y=>.oO op x.er y.er
 |.un op x=>.un op x.er
 |.conv k x=>.conv k x.er
 |.kB m ts by_ z l c=>.kB m ts.length by_ (Ty.aH ts z) l.er c.er
 |.slice sz x lo hi=>.slice sz x.er (lo.map cD.er) (hi.map cD.er)
 |.tail sz x lo=>.tail sz x.er lo.er
 |.ak off x=>.ak off x.er
 |.bT sz x i=>.bT sz x.er i.er
 |.ext i x=>.ext i x.er
 |.nf ag off sz x=>.nf ag off sz x.er
 |.mU f bM x=>.mU f bM x.er
 |.len x=>.len x.er
 |.append fl ts by_ x y=>.append fl ts.length by_ x.er y.er
 |.mm b x y=>.mm b x.er y.er
 |.call m f xs=>.call m f (xs.map cD.er)
 |.mr f xs=>.mr f (xs.map cD.er)
 |.copy x y=>.copy 1 x.er y.er
 |.kN t z x=>.kN (t.er z) x.er
 |.pt f xs=>.pt f (xs.map cD.er)
 |.mw m x xs=>.mw m x.er (xs.map cD.er)
 |.e9 m f xs=>.e9 m f (xs.map cD.er)
 |.jv f xs=>.jv f (xs.map cD.er)
theorem xr (σ:af) (xs:List cD):(xs.map cD.er).map σ.er.ev=(xs.map σ.ev).map SV.er:=by
 simp[af.dk]
def Ee (ev:cD->SV):List SC->List (Nat×Nat×cD)->Option (List SC)
 |zs,[]=>some zs
 |zs,(off,sz,x)::ps=>match(ev x).cells? with
  |some (_,cs)=>cC cs.length sz (eS (Nat.ble (off+sz) zs.length) (Ee ev (bV zs off cs) ps))
  |none=>none
theorem ZK {σ:af}:∀{ps:List (Nat×Nat×cD)} {zs cs:List SC},Ee σ.ev zs ps=some cs->
  pF σ.er.ev (zs.map SC.er) (ps.map fun p=>(p.1,p.2.1,p.2.2.er))=some (cs.map SC.er)
 |[],zs,cs,h=>by simp only[Ee] at h;injection h with h;subst h;rfl
 |(off,sz,x)::ps,zs,cs,h=>by
  simp only[Ee] at h
  split at h
  ·rename_i b UA hc
   have bm:=(ba h).1;replace h:=(ba h).2;subst bm
   have hb:=(bY h).1;replace h:=(bY h).2
   have ih:=ZK h
   rw[Bu] at ih
   have gi:=Nat.le_of_ble_eq_true hb
   simp only[List.map_cons,pF,af.dk,SV.mz hc,List.length_map,gi,and_self,if_true,ih]
  ·cases h
def IU (l:List TD):Bool:=l.all fun x=>x.1.eD
theorem akc (l:List TD):fi (cj l)=IU l:=by
 simp[fi,cj,IU,List.all_map,Function.comp_def,Ty.wC]
def SU (σ:af) (n:Nat) (gr:Bool) (m:Mode) (ts:List Ty) (xs:List (Ty.DL ts)) (kk off:Nat) (e:Ty.DL ts) (vs:List SC) (k:af->Option ρ):Option ρ:=
 match sub (Ty.gW ts e) off vs.length with
 |none=>none
 |some f9=>Bz σ vs fun cs o σ1=>match qm ts (bV (Ty.gW ts e) off cs) with
  |none=>none
  |some e'=>match m with
   |.live=>eS (IU cs&&IU f9&&(σ1.h n).isSome) (k (σ1.dv n (.row gr .live ts (bI xs kk e'))))
   |.aa=>eS (σ1.h n).isSome (k (σ1.dv n (.row gr (match o with|true=>.aa|false=>.aF) ts (bI xs kk e'))))
   |.aF=>eS (σ1.h n).isSome (k (σ1.dv n (.row gr .aF ts (bI xs kk e'))))
theorem UW (h:Nat->Option SB) (n:Nat):(cT h n).isSome=(h n).isSome:=by
 unfold cT;cases h n<;>rfl
theorem akI {σ:af} {n:Nat} {gr:Bool} {m:Mode} {ts:List Ty} {xs:List (Ty.DL ts)} {kk off:Nat} {e:Ty.DL ts} {vs:List SC} {k:af->Option ρ} {r:ρ}
  (h:SU σ n gr m ts xs kk off e vs k=some r):
  ∃σ1:af,mV σ.er n gr m ts.length (List.map (Ty.aH ts) xs) kk off (Ty.aH ts e) (vs.map SC.er)=some σ1.er/\k σ1=some r:=by
 unfold SU at h
 split at h
 ·cases h
 ·rename_i f9 ho
  obtain⟨cs,o,σ1,h1,h2⟩:=Jg h
  have hold:sub (Ty.aH ts e) off (vs.map SC.er).length=some (cj f9):=by
   rw[<-Ty.pK]
   simp only[cj]
   rw[s7,List.length_map,ho]
   rfl
  split at h2
  ·cases h2
  ·rename_i e' he
   have xT:bV (Ty.aH ts e) off (cj cs)=Ty.aH ts e':=by
    rw[wh he,<-Ty.pK]
    simp only[cj]
    rw[<-Bu]
   have z4:(List.map (Ty.aH ts) xs).set kk (Ty.aH ts e')=List.map (Ty.aH ts) (bI xs kk e'):=by
    show _=List.map (Ty.aH ts) (xs.set kk e')
    rw[List.map_set]
   have z5:σ1.er.h n=(σ1.h n).map SB.er:=rfl
   split at h2
   ·have hb:=(bY h2).1;replace h2:=(bY h2).2
    simp only[Bool.and_eq_true] at hb
    refine⟨_,?_,h2⟩
    simp only[mV,hold,h1,if_true,akc,hb.1.1,hb.1.2,z5,Option.isSome_map,hb.2,and_self,xT,z4,af.pO,SB.er]
   ·have hb:=(bY h2).1;replace h2:=(bY h2).2
    refine⟨_,?_,h2⟩
    cases o<;>simp only[mV,hold,h1,z5,Option.isSome_map,hb,xT,z4,af.pO,SB.er,reduceCtorEq,if_false,if_true,Bool.false_eq_true,cond_true,cond_false,ite_self]
   ·have hb:=(bY h2).1;replace h2:=(bY h2).2
    refine⟨_,?_,h2⟩
    cases o<;>simp only[mV,hold,h1,z5,Option.isSome_map,hb,xT,z4,af.pO,SB.er,reduceCtorEq,if_false,if_true,Bool.false_eq_true,cond_true,cond_false,ite_self]
def vi (us ts:List Ty) (xs:List (Ty.DL us)):Option (List (Ty.DL ts)):=if h:Ty.qO us ts=true then some (Ty.rW h▸xs) else none
theorem KH {us ts:List Ty} {xs:List (Ty.DL us)} {ys:List (Ty.DL ts)} (h:vi us ts xs=some ys):us.length=ts.length/\List.map (Ty.aH us) xs=List.map (Ty.aH ts) ys/\xs.length=ys.length:=by
 unfold vi at h
 split at h
 ·rename_i he
  have:=Ty.rW he
  subst this
  injection h with h
  rw[<-h]
  exact⟨rfl,rfl,rfl⟩
 ·cases h
def Q7 (σ:af) (ts:List Ty) (v:SV) (k:List (Ty.DL ts)->Mode->af->Option ρ):Option ρ:=
 match v with
 |.one (.nil _)=>k [] .aa σ
 |.one (.sl a s lo len)=>match σ.h a with
  |some (.row true m us xs)=>cC s ts.length (cC lo 0 (match vi us ts xs with
   |some ys=>(ae lo len (J ys)).U fun _=>k ys m (σ.del a)
   |none=>none))
  |_=>none
 |_=>none
theorem Mc {lo len l:Nat} {u:Unit} (h:ae lo len l=some u):lo=0/\len=l:=by
 unfold ae at h
 split at h
 ·rename_i hc;exact hc
 ·cases h
theorem aj9 {σ:af} {ts:List Ty} {v:SV} {k:List (Ty.DL ts)->Mode->af->Option ρ} {r:ρ} (h:Q7 σ ts v k=some r):
  ∃(xs:List (Ty.DL ts)) (m:Mode) (σ1:af),pJ σ.er ts.length v.er=some (List.map (Ty.aH ts) xs,m,σ1.er)/\k xs m σ1=some r:=by
 unfold Q7 at h
 split at h
 ·exact⟨[],.aa,σ,rfl,h⟩
 ·rename_i a s lo len
  split at h
  ·rename_i m us xs hn
   have bm:=(ba h).1;replace h:=(ba h).2;subst bm
   have bm:=(ba h).1;replace h:=(ba h).2;subst bm
   split at h
   ·rename_i ys hc
    obtain⟨c1,c2,c3⟩:=KH hc
    rw[eY] at h
    obtain⟨_,hf,h⟩:=h
    obtain⟨_,hlen⟩:=Mc hf
    replace hlen:len=ys.length:=hlen
    refine⟨ys,m,σ.del a,?_,h⟩
    have bn:σ.er.h a=some (.row true m ts.length (List.map (Ty.aH ts) ys)):=by simp[af.er,cT,hn,SB.er,c1,c2]
    subst hlen
    simp only[SV.er,SC.er,pJ,bn,List.length_map,and_self,if_true,af.GN]
   ·cases h
  ·cases h
 ·cases h
theorem YY (ts:List Ty) (xs:List (Ty.DL ts)) (h:Ty.fi ts=true):fQ (List.map (Ty.aH ts) xs)=true:=by
 simp only[fQ,List.all_eq_true,List.mem_map]
 rintro _ ⟨e,_,rfl⟩
 rw[Ty.IV]
 exact h
def Q8 (fl:Bool) (σ:af) (ts:List Ty) (m:Mode) (v:SV) (k:List (Ty.DL ts)->Mode->af->Option ρ):Option ρ:=
 match v with
 |.one (.nil _)=>k [] m σ
 |.one (.v (.list us) ys)=>match vi us ts ys with
  |some zs=>match fl with
   |true=>eS (Ty.fi ts) (k zs m σ)
   |false=>match m with
    |.live=>none
    |_=>k zs .aF σ
  |none=>none
 |.one (.sl b s lo len)=>match σ.h b with
  |some (.row _ m' us ys)=>cC s ts.length (match vi us ts ys with
   |some zs=>match fl with
    |true=>eS (Ty.fi ts) ((bg zs lo len).U fun ws=>k ws m σ)
    |false=>(ae lo len (J zs)).U fun _=>match m,m' with
     |.aa,.aa=>k zs .aa (σ.del b)
     |.live,.live=>k zs .live (σ.del b)
     |.aF,.aF=>k zs .aF (σ.del b)
     |.aa,.aF=>k zs .aF (σ.del b)
     |.aF,.aa=>k zs .aF (σ.del b)
     |_,_=>none
   |none=>none)
  |_=>none
 |_=>none
theorem aka {fl:Bool} {σ:af} {ts:List Ty} {m:Mode} {v:SV} {k:List (Ty.DL ts)->Mode->af->Option ρ} {r:ρ} (h:Q8 fl σ ts m v k=some r):
  ∃(ys:List (Ty.DL ts)) (m2:Mode) (σ1:af),lB fl σ.er ts.length m v.er=some (List.map (Ty.aH ts) ys,m2,σ1.er)/\k ys m2 σ1=some r:=by
 unfold Q8 at h
 split at h
 ·exact⟨[],m,σ,rfl,h⟩
 ·rename_i us ys
  split at h
  ·rename_i zs hc
   obtain⟨e1,e2,e3⟩:=KH hc
   have vl:Ty.er (.list us) ys=.list ts.length (List.map (Ty.aH ts) zs):=by rw[<-e1,<-e2];rfl
   split at h
   ·have hs:=(bY h).1;replace h:=(bY h).2
    refine⟨zs,m,σ,?_,h⟩
    simp only[SV.er,SC.er,vl,lB,if_true,Bool.true_and,YY ts zs hs]
   ·split at h
    ·cases h
    ·rename_i hm
     refine⟨zs,.aF,σ,?_,h⟩
     have bE:m≠ .live:=fun e=>hm e
     simp only[SV.er,SC.er,vl,lB,if_true,Bool.false_and,Bool.false_eq_true,if_false,if_neg bE]
  ·cases h
 ·rename_i b s lo len
  split at h
  ·rename_i gr m' us ys hn
   have bm:=(ba h).1;replace h:=(ba h).2;subst bm
   split at h
   ·rename_i zs hc
    obtain⟨e1,e2,e3⟩:=KH hc
    have bn:σ.er.h b=some (.row gr m' ts.length (List.map (Ty.aH ts) zs)):=by simp[af.er,cT,hn,SB.er,e1,e2]
    split at h
    ·have hs:=(bY h).1;replace h:=(bY h).2
     rw[eY] at h
     obtain⟨ws,hw,h⟩:=h
     obtain⟨w1,w2⟩:=aan hw
     refine⟨ws,m,σ,?_,h⟩
     simp only[SV.er,SC.er,lB,bn,List.length_map,w1,w2,and_self,if_true,Bool.true_and,YY ts ws hs]
    ·rw[eY] at h
     obtain⟨_,hf,h⟩:=h
     obtain⟨rfl,hlen⟩:=Mc hf
     replace hlen:len=zs.length:=hlen
     subst hlen
     have z6:List.take zs.length (List.map (Ty.aH ts) zs)=List.map (Ty.aH ts) zs:=by
      rw[List.take_of_length_le];simp
     cases m<;>cases m'<;>first
      |(cases h;done)
      |exact⟨zs,_,σ.del b,by simp[SV.er,SC.er,lB,bn,af.GN],h⟩
   ·cases h
  ·cases h
 ·cases h
def SC.Vv:SC->Bool
 |.fn _ _=>false
 |.bj=>false
 |_=>true
def yG:List SV->Option (List SC)
 |[]=>some []
 |.one c::vs=>match c.Vv,yG vs with
  |true,some cs=>some (c::cs)
  |_,_=>none
 |_::_=>none
theorem Zn:∀{vs:List SV} {cs:List SC},yG vs=some cs->
  (vs.map SV.er).mapM (fun v=>match v with|.one c=>if c.kY=true then none else some c|_=>none)=some (cs.map SC.er)/\(cs.map SC.er).all ah.DF=true
 |[],cs,h=>by simp only[yG] at h;injection h with h;subst h;exact⟨rfl,rfl⟩
 |.one c::vs,cs,h=>by
  simp only[yG] at h
  split at h
  ·rename_i cs' e1 e2
   injection h with h
   subst h
   obtain⟨i1,i2⟩:=Zn e2
   have hc:c.er.kY=false/\c.er.DF=true:=by cases c<;>first|exact⟨rfl,rfl⟩|(simp[SC.Vv] at e1)
   refine⟨?_,by simp[hc.2];simpa using i2⟩
   simp only[List.map_cons,List.mapM_cons,SV.er,hc.1]
   rw[i1]
   rfl
  ·cases h
 |.agg _::_,cs,h=>by simp[yG] at h
 |.bk _::_,cs,h=>by simp[yG] at h
end
end Go.Am
