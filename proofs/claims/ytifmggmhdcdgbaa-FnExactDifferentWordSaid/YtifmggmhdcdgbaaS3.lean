/- S3: typed functions, and one operation of the typed evaluator. No condition. -/
import Derived.Test.YtifmggmhdcdgbaaS2
set_option linter.unusedVariables false
set_option linter.unusedSimpArgs false
namespace Go.Am
def aQ:List (List Ty)->Type
 |[]=>Unit
 |ts::l=>match l with
  |[]=>Ty.DL ts
  |us::l'=>Ty.DL ts×aQ (us::l')
abbrev ao:=List (K×List Ty)
abbrev ao.aP (s:ao):List (List Ty):=s.map (·.2)
def cH:(as:ao)->aQ as.aP->List Dv
 |[],_=>[]
 |[a],x=>[(a.1,Ty.aF a.2 x)]
 |a::b::as,x=>(a.1,Ty.aF a.2 x.1)::cH (b::as) x.2
def nh:(as:ao)->aQ as.aP->List bJ
 |[],_=>[]
 |[a],x=>[(a.1,Ty.gv a.2 x)]
 |a::b::as,x=>(a.1,Ty.gv a.2 x.1)::nh (b::as) x.2
theorem zO:∀(as:ao) (x:aQ as.aP),(nh as x).map bJ.er=cH as x
 |[],_=>rfl
 |[a],x=>congrArg (fun l=>[((a.1,l):Dv)]) (Ty.pg a.2 x)
 |a::b::as,x=>by
  have:=zO (b::as) x.2
  simp only[nh,cH,List.map_cons,bJ.er,Ty.pg,this]
def K.beq:K->K->Bool
 |.one,.one=>true
 |.agg,.agg=>true
 |.ptr,.ptr=>true
 |_,_=>false
theorem K.beq_eq {a b:K} (h:K.beq a b=true):a=b:=by cases a<;>cases b<;>first|rfl|cases h
def He (ts:List Ty):(l:List (List Ty))->Ty.DL ts->aQ l->aQ (ts::l)
 |[],x,_=>x
 |_::_,x,y=>(x,y)
theorem V7 (a:K×List Ty):∀(as:ao) (x:Ty.DL a.2) (y:aQ (ao.aP as)),cH (a::as) (He a.2 (ao.aP as) x y)=(a.1,Ty.aF a.2 x)::cH as y
 |[],_,_=>rfl
 |_::_,_,_=>rfl
def pT:(as:ao)->List bJ->Option (aQ as.aP)
 |[],[]=>some ()
 |a::as,d::ds=>ef (K.beq a.1 d.1) (match pS a.2 d.2,pT as ds with
  |some x,some y=>some (He a.2 (ao.aP as) x y)
  |_,_=>none)
 |_,_=>none
theorem wv:∀{as:ao} {ds:List bJ} {x:aQ as.aP},pT as ds=some x->ds.map bJ.er=cH as x
 |[],[],x,h=>rfl
 |a::as,d::ds,x,h=>by
  simp only[pT] at h
  have h1:=(bQ h).1;replace h2:=(bQ h).2
  split at h2
  ·rename_i y z e1 e2
   injection h2 with h2
   subst h2
   rw[V7,List.map_cons,wv e2,bJ.er,<-K.beq_eq h1,<-ww e1]
  ·cases h2
 |[],_::_,x,h=>by simp[pT] at h
 |a::as,[],x,h=>by simp[pT] at h
mutual
theorem Ty.Wb:∀(t:Ty) (x y:t.D),t.er x=t.er y->x=y
 |.int k,x,y,h=>by simp only[Ty.er] at h;injection h
 |.bool,x,y,h=>by simp only[Ty.er] at h;injection h
 |.list ts,x,y,h=>by simp only[Ty.er] at h;injection h with _ h;exact Ty.Wa ts x y h
theorem Ty.Wa:∀(ts:List Ty) (xs ys:List (Ty.DL ts)),List.map (Ty.aF ts) xs=List.map (Ty.aF ts) ys->xs=ys
 |ts,[],[],h=>rfl
 |ts,x::xs,y::ys,h=>by
  simp only[List.map_cons,List.cons.injEq] at h
  rw[Ty.Hv ts x y h.1,Ty.Wa ts xs ys h.2]
 |ts,[],_::_,h=>by simp at h
 |ts,_::_,[],h=>by simp at h
theorem Ty.Hv:∀(ts:List Ty) (x y:Ty.DL ts),Ty.aF ts x=Ty.aF ts y->x=y
 |[],x,y,h=>rfl
 |[t],x,y,h=>by simp only[Ty.aF,List.cons.injEq,and_true] at h;exact Ty.Wb t x y h
 |t::u::ts,x,y,h=>by
  simp only[Ty.aF,List.cons.injEq] at h
  exact Prod.ext (Ty.Wb t x.1 y.1 h.1) (Ty.Hv (u::ts) x.2 y.2 h.2)
end
theorem V8:∀(as:ao) (x y:aQ as.aP),cH as x=cH as y->x=y
 |[],x,y,h=>rfl
 |[a],x,y,h=>by simp[cH] at h;exact Ty.Hv a.2 x y h
 |a::b::as,x,y,h=>by
  simp only[cH,List.cons.injEq,Prod.mk.injEq,true_and] at h
  exact Prod.ext (Ty.Hv a.2 x.1 y.1 h.1) (V8 (b::as) x.2 y.2 h.2)
structure aG where
 id:FuncId
 args:ao
 mu:aY
 aB:ao
 F:aQ args.aP->Option (aQ aB.aP)
open Classical in
noncomputable def aG.M (fn:aG) (ds:List Dv):Option (List Dv):=
 if h:∃x,cH fn.args x=ds then(fn.F h.choose).map (cH fn.aB) else none
theorem aG.Cg (fn:aG) (x:aQ fn.args.aP):fn.M (cH fn.args x)=(fn.F x).map (cH fn.aB):=by
 have h:∃y,cH fn.args y=cH fn.args x:=⟨x,rfl⟩
 unfold aG.M
 rw[dif_pos h,V8 _ _ _ h.choose_spec]
theorem aG.Ls {fn:aG} {ds rs:List Dv} (h:fn.M ds=some rs):∃x y,ds=cH fn.args x/\fn.F x=some y/\rs=cH fn.aB y:=by
 unfold aG.M at h
 split at h
 ·rename_i e
  rw[Option.map_eq_some_iff] at h
  obtain⟨y,h1,h2⟩:=h
  exact⟨_,y,e.choose_spec.symm,h1,h2.symm⟩
 ·cases h
def aY.bB:aY->Nat
 |[]=>0
 |s::l=>(s.filter Option.isSome).length+aY.bB l
def wQ (k:Nat) (rs:List Dv):List Dv×List C:=(rs.take k,(rs.drop k).flatMap (·.2))
noncomputable def aG.MM (fn:aG) (ds:List Dv):Option (List Dv×List C):=(fn.M ds).map (wQ (fn.aB.length - fn.mu.bB))
def aY.hJ:aY->Nat
 |[]=>0
 |[[some .aE]]=>2
 |_=>1
def z8:ao->Bool
 |[]=>false
 |(.ptr,_)::_=>true
 |_::as=>z8 as
def sS (as:ao):Nat:=match z8 as with
 |true=>1
 |false=>0
noncomputable def aG.MV (fn:aG) (ds:List Dv):Option (List Dv×List C):=(fn.M ds).map (wQ (fn.aB.length - sS fn.args))
noncomputable def cY (T:List aG):be:=
 ⟨T.filterMap fun fn=>match fn.mu.hJ with|0=>some (fn.id,fn.M)|_=>none,T.filterMap fun fn=>match fn.mu.hJ with|1=>some (fn.id,fn.mu,fn.MM)|_=>none,
  T.filterMap fun fn=>match fn.mu.hJ with|2=>some (fn.id,fn.MV)|_=>none⟩
def aG.find:List aG->FuncId->Option aG
 |[],_=>none
 |fn::l,f=>match Nat.beq f fn.id with
  |true=>some fn
  |false=>aG.find l f
theorem aG.Mo:∀{T:List aG} {f:FuncId} {fn:aG},aG.find T f=some fn->fn.mu.hJ=0->be.find (cY T).pure f=some fn.M
 |[],f,fn,h,_=>by simp[aG.find] at h
 |g::l,f,fn,h,hm=>by
  simp only[aG.find] at h
  split at h
  ·rename_i e
   injection h with h
   subst h
   simp only[cY,List.filterMap_cons,hm,be.find]
   rw[if_pos (Nat.eq_of_beq_eq_true e)]
  ·rename_i e
   have ih:be.find (cY l).pure f=some fn.M:=aG.Mo h hm
   simp only[cY,List.filterMap_cons] at ih⊢
   by_cases hg:g.mu.hJ=0
   ·simp only[hg,be.find]
    rw[if_neg (fun he=>by rw[he,Nat.beq_refl] at e;cases e)]
    exact ih
   ·split
    ·exact ih
    ·rename_i z hz
     split at hz
     ·rename_i h0;exact absurd h0 hg
     ·cases hz
theorem aG.Wz:∀{T:List aG} {f:FuncId} {fn:aG},aG.find T f=some fn->fn.mu.hJ=1->be.qA (cY T).Bi f=some (fn.mu,fn.MM)
 |[],f,fn,h,_=>by simp[aG.find] at h
 |g::l,f,fn,h,hm=>by
  simp only[aG.find] at h
  split at h
  ·rename_i e
   injection h with h
   subst h
   simp only[cY,List.filterMap_cons,hm,be.qA]
   rw[if_pos (Nat.eq_of_beq_eq_true e)]
  ·rename_i e
   have ih:be.qA (cY l).Bi f=some (fn.mu,fn.MM):=aG.Wz h hm
   simp only[cY,List.filterMap_cons] at ih⊢
   by_cases hg:g.mu.hJ=1
   ·simp only[hg,be.qA]
    rw[if_neg (fun he=>by rw[he,Nat.beq_refl] at e;cases e)]
    exact ih
   ·split
    ·exact ih
    ·rename_i z hz
     split at hz
     ·rename_i h0;exact absurd h0 hg
     ·cases hz
theorem aG.WA:∀{T:List aG} {f:FuncId} {fn:aG},aG.find T f=some fn->fn.mu.hJ=2->be.nk (cY T).vs f=some fn.MV
 |[],f,fn,h,_=>by simp[aG.find] at h
 |g::l,f,fn,h,hm=>by
  simp only[aG.find] at h
  split at h
  ·rename_i e
   injection h with h
   subst h
   simp only[cY,List.filterMap_cons,hm,be.nk]
   rw[if_pos (Nat.eq_of_beq_eq_true e)]
  ·rename_i e
   have ih:be.nk (cY l).vs f=some fn.MV:=aG.WA h hm
   simp only[cY,List.filterMap_cons] at ih⊢
   by_cases hg:g.mu.hJ=2
   ·simp only[hg,be.nk]
    rw[if_neg (fun he=>by rw[he,Nat.beq_refl] at e;cases e)]
    exact ih
   ·split
    ·exact ih
    ·rename_i z hz
     split at hz
     ·rename_i h0;exact absurd h0 hg
     ·cases hz
def uE (m:Mode) (σ:af):Nat->List TD->Option (List SC×Nat×af)
 |nm,[]=>some ([],nm,σ)
 |nm,⟨t,x⟩::cs=>match t,x with
  |.list ts,xs=>match σ.ins nm (.row true m ts xs) with
   |some σ1=>match uE m σ1 (nm+1) cs with
    |some (l,eG,σ2)=>some (.sl nm ts.length 0 (J (α:=Ty.DL ts) xs)::l,eG,σ2)
    |none=>none
   |none=>none
  |.int k,x=>match uE m σ nm cs with
   |some (l,eG,σ2)=>some (.v (.int k) x::l,eG,σ2)
   |none=>none
  |.bool,x=>match uE m σ nm cs with
   |some (l,eG,σ2)=>some (.v .bool x::l,eG,σ2)
   |none=>none
theorem Ki (m:Mode):∀{cs:List TD} {σ σ1:af} {nm eG:Nat} {l:List SC},uE m σ nm cs=some (l,eG,σ1)->
  σ.er.imp m nm (bV cs)=some (l.map SC.er,eG,σ1.er)
 |[],σ,σ1,nm,eG,l,h=>by
  simp only[uE] at h
  injection h with h
  injection h with h1 h2
  injection h2 with h2 h3
  subst h1 h2 h3
  rfl
 |⟨.list ts,xs⟩::cs,σ,σ2,nm,eG,l,h=>by
  simp only[uE] at h
  split at h
  ·rename_i σ1 e1
   split at h
   ·rename_i l' Eh f9 e2
    injection h with h
    injection h with h1 h2
    injection h2 with h2 h3
    subst h1 h2 h3
    have i1:σ.er.ins nm (.row true m ts.length (List.map (Ty.aF ts) xs))=some σ1.er:=af.rP e1
    have i2:=Ki m e2
    simp only[bV] at i2
    simp only[bV,List.map_cons,Ty.er,St.imp,i1,i2,SC.er]
    exact congrArg (fun q=>some (ah.sl nm ts.length 0 q::List.map SC.er l',Eh,f9.er)) (List.length_map (Ty.aF ts))
   ·cases h
  ·cases h
 |⟨.int k,x⟩::cs,σ,σ2,nm,eG,l,h=>by
  simp only[uE] at h
  split at h
  ·rename_i l' Eh f9 e2
   injection h with h
   injection h with h1 h2
   injection h2 with h2 h3
   subst h1 h2 h3
   have i2:=Ki m e2
   simp only[bV] at i2
   simp only[bV,List.map_cons,Ty.er,St.imp,i2,SC.er]
  ·cases h
 |⟨.bool,x⟩::cs,σ,σ2,nm,eG,l,h=>by
  simp only[uE] at h
  split at h
  ·rename_i l' Eh f9 e2
   injection h with h
   injection h with h1 h2
   injection h2 with h2 h3
   subst h1 h2 h3
   have i2:=Ki m e2
   simp only[bV] at i2
   simp only[bV,List.map_cons,Ty.er,St.imp,i2,SC.er]
  ·cases h
def K.isAgg:K->Bool
 |.agg=>true
 |_=>false
def K.sn:K->Bool
 |.ptr=>true
 |_=>false
def BP (m:Mode) (σ:af):Nat->List bJ->Option (List (Bool×List SC)×af)
 |_,[]=>some ([],σ)
 |nm,(k,cs)::ds=>match k.sn with
  |true=>none
  |false=>match uE m σ nm cs with
   |some (l,eG,σ1)=>match BP m σ1 eG ds with
    |some (ls,σ2)=>some ((k.isAgg,l)::ls,σ2)
    |none=>none
   |none=>none
theorem TJ (m:Mode):∀{ds:List bJ} {σ σ1:af} {nm:Nat} {ls:List (Bool×List SC)},BP m σ nm ds=some (ls,σ1)->
  σ.er.iT m nm (ds.map bJ.er)=some (ls.map (fun x=>(x.1,x.2.map SC.er)),σ1.er)
 |[],σ,σ1,nm,ls,h=>by
  simp only[BP] at h
  injection h with h
  injection h with h1 h2
  subst h1 h2
  rfl
 |(k,cs)::ds,σ,σ2,nm,ls,h=>by
  simp only[BP] at h
  split at h
  ·cases h
  ·rename_i hk
   split at h
   ·rename_i l eG σ1 e1
    split at h
    ·rename_i yE f9 e2
     injection h with h
     injection h with h1 h2
     subst h1 h2
     have i1:=Ki m e1
     have i2:=TJ m e2
     have Ya:σ1.er.iT m eG (List.map bJ.er ds)=some (yE.map (fun x=>(x.1,x.2.map SC.er)),f9.er):=i2
     cases k with
     |ptr=>cases hk
     |one=>simp only[List.map_cons,bJ.er,St.iT,i1,Ya];rfl
     |agg=>simp only[List.map_cons,bJ.er,St.iT,i1,Ya];rfl
    ·cases h
   ·cases h
def ET:List (Bool×List SC)->SV
 |[(ag,cs)]=>y9 ag cs
 |l=>.bj l
theorem Kn (l:List (Bool×List SC)):(ET l).er=lp (l.map fun x=>(x.1,x.2.map SC.er)):=by
 match l with
 |[]=>rfl
 |[(ag,cs)]=>exact B1 ag cs
 |_::_::_=>rfl
section
variable {ρ:Type}
def Kd (T:List aG) (m:Mode) (d:Option Nat) (f:FuncId) (as:List SV) (σ:af) (k:af->Option ρ):Option ρ:=
 match aG.find T f with
 |some fn=>match fn.mu.hJ with
  |0=>E3 σ.h as fun ds=>match pT fn.args ds with
   |some x=>(fn.F x).U fun rs=>match BP m σ (yI d) (nh fn.aB rs) with
    |some (ls,σ1)=>k (σ1.put d (ET ls))
    |none=>none
   |none=>none
  |_=>none
 |none=>none
theorem aaK {T:List aG} {m:Mode} {d:Option Nat} {f:FuncId} {as:List SV} {σ:af} {k:af->Option ρ} {r:ρ} (h:Kd T m d f as σ k=some r):
  ∃σ1:af,qx (cY T) m d f (as.map SV.er) σ.er=some σ1.er/\k σ1=some r:=by
 unfold Kd at h
 split at h
 ·rename_i fn hf
  split at h
  ·rename_i gZ
   obtain⟨ds,h1,h2⟩:=Uk h
   split at h2
   ·rename_i x hx
    rw[eC] at h2
    obtain⟨rs,hF,h2⟩:=h2
    split at h2
    ·rename_i ls σ1 hs
     refine⟨_,?_,h2⟩
     have e:=TJ m hs
     rw[zO] at e
     have hv:jV σ.er.h (as.map SV.er)=some (ds.map bJ.er):=h1
     simp only[qx,hv,aG.Mo hf gZ,wv hx,aG.Cg,hF,Option.map_some,e,af.c6,Kn]
    ·cases h2
   ·cases h2
  ·cases h
 ·cases h
def BL:List bJ->Option (List (Bool×List SC))
 |[]=>some []
 |(k,cs)::ds=>match k.sn with
  |true=>none
  |false=>match BL ds with
   |some ls=>some ((k.isAgg,cs.map fun x=>SC.v x.1 x.2)::ls)
   |none=>none
theorem Tz:∀{ds:List bJ} {ls:List (Bool×List SC)},BL ds=some ls->gw (ds.map bJ.er)=some (ls.map fun x=>(x.1,x.2.map SC.er))
 |[],ls,h=>by simp only[BL] at h;injection h with h;subst h;rfl
 |(k,cs)::ds,ls,h=>by
  simp only[BL] at h
  split at h
  ·cases h
  ·rename_i hk
   split at h
   ·rename_i yE e
    injection h with h
    subst h
    have i2:=Tz e
    have ec:(bV cs).map ah.c=(cs.map fun x=>SC.v x.1 x.2).map SC.er:=by simp[bV,SC.er]
    cases k with
    |ptr=>cases hk
    |one=>simp only[List.map_cons,bJ.er,gw];rw[show gw (List.map bJ.er ds)=_ from i2];simp only;rw[ec];rfl
    |agg=>simp only[List.map_cons,bJ.er,gw];rw[show gw (List.map bJ.er ds)=_ from i2];simp only;rw[ec];rfl
   ·cases h
def TB (T:List aG) (d:Option Nat) (f:FuncId) (as:List SV) (σ:af) (k:af->Option ρ):Option ρ:=
 match aG.find T f with
 |some fn=>match fn.mu.hJ with
  |0=>E3 σ.h as fun ds=>match pT fn.args ds with
   |some x=>(fn.F x).U fun rs=>match BL (nh fn.aB rs) with
    |some ls=>k (σ.put d (ET ls))
    |none=>none
   |none=>none
  |_=>none
 |none=>none
theorem anp {T:List aG} {d:Option Nat} {f:FuncId} {as:List SV} {σ:af} {k:af->Option ρ} {r:ρ} (h:TB T d f as σ k=some r):
  ∃v:SV,tt (cY T) f (as.map SV.er) σ.er.h=some v.er/\k (σ.put d v)=some r:=by
 unfold TB at h
 split at h
 ·rename_i fn hf
  split at h
  ·rename_i gZ
   obtain⟨ds,h1,h2⟩:=Uk h
   split at h2
   ·rename_i x hx
    rw[eC] at h2
    obtain⟨rs,hF,h2⟩:=h2
    split at h2
    ·rename_i ls hs
     refine⟨_,?_,h2⟩
     have e:=Tz hs
     rw[zO] at e
     have hv:jV σ.er.h (as.map SV.er)=some (ds.map bJ.er):=h1
     simp only[tt,hv,aG.Mo hf gZ,wv hx,aG.Cg,hF,Option.map_some,e,Kn]
    ·cases h2
   ·cases h2
  ·cases h
 ·cases h
def Ty.rM:Ty->Bool
 |.list ts=>Ty.eO ts
 |_=>true
def Uu:Mode->List Ty->Bool
 |.aa,ts=>Ty.eO ts
 |.live,ts=>ts.all Ty.rM
 |.aE,_=>false
theorem yS (ts:List Ty) (xs:List (Ty.DL ts)) (h:Ty.eO ts=true):ft (List.map (Ty.aF ts) xs)=true:=by
 simp only[ft,List.all_eq_true,List.mem_map]
 rintro e ⟨x,_,rfl⟩
 rw[Ty.Ka];exact h
theorem VW (t:Ty) (x:t.D) (h:Ty.rM t=true):C.rM (t.er x)=true:=by
 cases t with
 |int k=>rfl
 |bool=>rfl
 |list ts=>exact yS ts x h
theorem VV:∀(ts:List Ty) (x:Ty.DL ts),ts.all Ty.rM=true->(Ty.aF ts x).all C.rM=true
 |[],_,_=>rfl
 |[t],x,h=>by
  simp only[List.all_cons,List.all_nil,Bool.and_true] at h
  simp only[Ty.aF,List.all_cons,List.all_nil,Bool.and_true]
  exact VW t x h
 |t::u::ts,x,h=>by
  simp only[List.all_cons (a:=t),Bool.and_eq_true] at h
  simp only[Ty.aF,List.all_cons (a:=Ty.er t x.1),Bool.and_eq_true]
  exact⟨VW t x.1 h.1,VV (u::ts) x.2 h.2⟩
theorem WE (m:Mode) (ts:List Ty) (xs:List (Ty.DL ts)) (h:Uu m ts=true):rQ m (List.map (Ty.aF ts) xs)=true:=by
 cases m with
 |aE=>cases h
 |aa=>exact yS ts xs h
 |live=>
  simp only[rQ,List.all_eq_true,List.mem_map]
  rintro e ⟨x,_,rfl⟩
  have:=VV ts x h
  simpa[List.all_eq_true] using this
def Mode.OQ:Mode->Bool
 |.live=>true
 |_=>false
def Mode.YD:Mode->Bool
 |.aa=>true
 |_=>false
def TR (h:Nat->Option SB) (md:Mode) (c:SC) (k:cQ->(t:Ty)->t.D->Option ρ):Option ρ:=
 match c with
 |.nil ts=>match ts with
  |[]=>none
  |t::us=>ef md.own (k (.nil (us.length+1)) (.list (t::us)) ([]:List (Ty.DL (t::us))))
 |.sl n sz lo len=>match h n with
  |some (.row _ m ts xs)=>ef (m.own&&((!md.OQ||m.OQ)&&Uu md ts)) (ct ts.length sz ((ab lo len (J xs)).U fun _=>k (.row n) (.list ts) xs))
  |_=>none
 |.br n kk ax off sz len=>match h n with
  |some (.row _ .live ts xs)=>ef md.YD (ct ts.length ax ((db xs kk).U fun e=>match(Ty.gv ts e)[off]? with
   |some ⟨.list us,ys⟩=>ef (Ty.eO us) (k (.nest n kk off) (.list us) ys)
   |_=>none))
  |_=>none
 |_=>none
theorem anH {h:Nat->Option SB} {md:Mode} {c:SC} {k:cQ->(t:Ty)->t.D->Option ρ} {r:ρ} (hx:TR h md c k=some r):
  ∃(it:cQ) (t:Ty) (x:t.D),yF (cD h) md c.er=some (it,t.er x)/\k it t x=some r:=by
 unfold TR at hx
 split at hx
 ·split at hx
  ·cases hx
  ·rename_i t us
   have hm:=(bQ hx).1;replace hx:=(bQ hx).2
   refine⟨_,.list (t::us),[],?_,hx⟩
   have bz:md≠ .aE:=by rintro rfl;cases hm
   simp[SC.er,yF,Ty.er,bz]
 ·rename_i n sz lo len
  split at hx
  ·rename_i gr m ts xs hn
   have hm:=(bQ hx).1;replace hx:=(bQ hx).2
   have bk:=(ba hx).1;replace hx:=(ba hx).2;subst bk
   rw[eC] at hx
   obtain⟨_,hf,hx⟩:=hx
   have NF:lo=0/\len=J xs:=by
    unfold ab at hf
    split at hf
    ·assumption
    ·cases hf
   obtain⟨rfl,rfl⟩:=NF
   simp only[Bool.and_eq_true] at hm
   have bz:m≠ .aE:=by rintro rfl;cases hm.1
   have rY:md=.live->m=.live:=by
    rintro rfl
    have:=hm.2.1
    cases m<;>first|rfl|(simp[Mode.OQ] at this)
   refine⟨_,.list ts,xs,?_,hx⟩
   simp only[SC.er,yF,cD,hn,Option.map_some,SB.er,Ty.er]
   rw[if_pos ⟨bz,rY,trivial,trivial,(List.length_map (Ty.aF ts)).symm,WE md ts xs hm.2.2⟩]
  ·cases hx
 ·rename_i n kk ax off sz len
  split at hx
  ·rename_i gr ts xs hn
   have hm:=(bQ hx).1;replace hx:=(bQ hx).2
   have bk:=(ba hx).1;replace hx:=(ba hx).2;subst bk
   rw[eC] at hx
   obtain⟨e,he,hx⟩:=hx
   replace he:xs[kk]? =some e:=he
   split at hx
   ·rename_i us ys hd
    have hs:=(bQ hx).1;replace hx:=(bQ hx).2
    refine⟨_,.list us,ys,?_,hx⟩
    have NY:md=.aa:=by cases md<;>first|rfl|(simp[Mode.YD] at hm)
    have mG:=Me hd
    simp only[SC.er,yF,cD,hn,Option.map_some,SB.er,List.getElem?_map,he,Option.bind_some,mG,Ty.er,NY,and_self,if_true]
    rw[if_pos (yS us ys hs)]
   ·cases hx
  ·cases hx
 ·cases hx
def SC.nm:SC->List Nat
 |.sl n _ _ _=>[n]
 |.br n _ _ _ _ _=>[n]
 |_=>[]
theorem SC.alG (c:SC):c.er.dr.toList=c.nm:=by cases c<;>rfl
def BQ:List (Option Mode)->List SC->List Nat
 |some _::fs,c::cs=>c.nm++BQ fs cs
 |none::fs,_::cs=>BQ fs cs
 |_,_=>[]
theorem TS:∀(fs:List (Option Mode)) (cs:List SC),sR fs (cs.map SC.er)=BQ fs cs
 |some m::fs,c::cs=>by simp only[List.map_cons,sR,BQ,SC.alG,TS fs cs]
 |none::fs,c::cs=>by simp only[List.map_cons,sR,BQ,TS fs cs]
 |[],cs=>by cases cs<;>rfl
 |some m::fs,[]=>rfl
 |none::fs,[]=>rfl
def EQ:aY->List (Bool×List SC)->List Nat
 |s::sig,a::as=>BQ s a.2++EQ sig as
 |_,_=>[]
theorem aaZ:∀(sig:aY) (as:List (Bool×List SC)),nK sig (as.map fun x=>(x.1,x.2.map SC.er))=EQ sig as
 |s::sig,a::as=>by simp only[List.map_cons,nK,EQ,TS,aaZ sig as]
 |[],as=>by cases as<;>rfl
 |s::sig,[]=>rfl
def TI (h:Nat->Option SB) (ns:List Nat):Nat->Option SB:=fun n=>match ns.contains n with|true=>none|false=>h n
theorem anB (h:Nat->Option SB) (ns:List Nat):cD (TI h ns)=ed (cD h) ns:=by
 funext n
 simp only[cD,TI,ed]
 cases hc:ns.contains n<;>simp[hc]
def uG (h h0:Nat->Option SB):List (Option Mode)->List SC->(List TD->List (cQ×Mode)->Option ρ)->Option ρ
 |[],cs,k=>y8 h0 cs fun l=>k l []
 |none::fs,c::cs,k=>wU h0 c fun t x=>uG h h0 fs cs fun l its=>k (⟨t,x⟩::l) its
 |some md::fs,c::cs,k=>TR h md c fun it t x=>uG h h0 fs cs fun l its=>k (⟨t,x⟩::l) ((it,md)::its)
 |_::_,[],_=>none
theorem TQ {h h0:Nat->Option SB}:∀{fs:List (Option Mode)} {cs:List SC} {k:List TD->List (cQ×Mode)->Option ρ} {r:ρ},uG h h0 fs cs k=some r->
  ∃l its,lW (cD h) (cD h0) fs (cs.map SC.er)=some (bV l,its)/\k l its=some r
 |[],cs,k,r,hx=>by
  simp only[uG] at hx
  obtain⟨l,h1,h2⟩:=E4 hx
  exact⟨l,[],by simp only[lW,h1],h2⟩
 |none::fs,c::cs,k,r,hx=>by
  simp only[uG] at hx
  obtain⟨t,x,h1,h2⟩:=B0 hx
  obtain⟨l,its,h3,h4⟩:=TQ h2
  exact⟨⟨t,x⟩::l,its,by simp only[List.map_cons,lW,h1,h3,bV],h4⟩
 |some md::fs,c::cs,k,r,hx=>by
  simp only[uG] at hx
  obtain⟨it,t,x,h1,h2⟩:=anH hx
  obtain⟨l,its,h3,h4⟩:=TQ h2
  exact⟨⟨t,x⟩::l,(it,md)::its,by simp only[List.map_cons,lW,h1,h3,bV],h4⟩
 |none::fs,[],k,r,hx=>by simp[uG] at hx
 |some md::fs,[],k,r,hx=>by simp[uG] at hx
def OY:Bool->K
 |true=>.agg
 |false=>.one
def Kj (h h0:Nat->Option SB):aY->List (Bool×List SC)->(List bJ->List (cQ×Mode)->Option ρ)->Option ρ
 |_,[],k=>k [] []
 |sig,(ag,cs)::as,k=>uG h h0 sig.hd cs fun l its=>Kj h h0 sig.tl as fun ds ug=>k ((OY ag,l)::ds) (its++ug)
theorem aa0 {h h0:Nat->Option SB}:∀{as:List (Bool×List SC)} {sig:aY} {k:List bJ->List (cQ×Mode)->Option ρ} {r:ρ},Kj h h0 sig as k=some r->
  ∃ds its,oO (cD h) (cD h0) sig (as.map fun x=>(x.1,x.2.map SC.er))=some (ds.map bJ.er,its)/\k ds its=some r
 |[],sig,k,r,hx=>⟨[],[],by simp only[List.map_nil,oO],hx⟩
 |(ag,cs)::as,sig,k,r,hx=>by
  simp only[Kj] at hx
  obtain⟨l,its,h1,h2⟩:=TQ hx
  obtain⟨ds,ug,h3,h4⟩:=aa0 h2
  refine⟨_,_,?_,h4⟩
  simp only[List.map_cons,oO,h1,h3,bJ.er]
  cases ag<;>rfl
def EO:List SV->Option (List (Bool×List SC))
 |[]=>some []
 |v::vs=>match v.cells?,EO vs with
  |some x,some xs=>some (x::xs)
  |_,_=>none
theorem aaW:∀{as:List SV} {eZ:List (Bool×List SC)},EO as=some eZ->wq (as.map SV.er)=some (eZ.map fun x=>(x.1,x.2.map SC.er))
 |[],eZ,h=>by simp only[EO] at h;injection h with h;subst h;rfl
 |v::vs,eZ,h=>by
  simp only[EO] at h
  split at h
  ·rename_i x xs e1 e2
   injection h with h
   subst h
   obtain⟨b,cs⟩:=x
   simp only[List.map_cons,wq,SV.lC e1,aaW e2]
  ·cases h
def Ke (ts:List Ty) (e:Ty.DL ts) (off:Nat) (x:TD):Option (Ty.DL ts):=pS ts ((Ty.gv ts e).set off x)
theorem aaM {ts:List Ty} {e e':Ty.DL ts} {off:Nat} {x:TD} (h:Ke ts e off x=some e'):Ty.aF ts e'=(Ty.aF ts e).set off (x.1.er x.2):=by
 have:=ww h
 rw[this,bV,List.map_set,<-Ty.pg ts e]
 rfl
def TX (σ:af) (it:cQ) (x:TD) (k:af->Option ρ):Option ρ:=
 match it with
 |.nil _=>k σ
 |.row n=>match x with
  |⟨.list ts,xs⟩=>match σ.h n with
   |some (.row gr m us _)=>ct us.length ts.length (k (σ.cX n (.row gr m ts xs)))
   |_=>none
  |_=>none
 |.nest n kk off=>match σ.h n with
  |some (.row gr m us xs)=>(db xs kk).U fun e=>match Ke us e off x with
   |some e'=>k (σ.cX n (.row gr m us (cb xs kk e')))
   |none=>none
  |_=>none
theorem anN {σ:af} {it:cQ} {x:TD} {k:af->Option ρ} {r:ρ} (hx:TX σ it x k=some r):∃σ1,σ.er.mV it (x.1.er x.2)=some σ1.er/\k σ1=some r:=by
 unfold TX at hx
 split at hx
 ·exact⟨σ,rfl,hx⟩
 ·rename_i n
  split at hx
  ·rename_i ts xs
   split at hx
   ·rename_i gr m us ys hn
    have bk:=(ba hx).1;replace hx:=(ba hx).2
    refine⟨_,?_,hx⟩
    have bh:σ.er.h n=some (.row gr m us.length (List.map (Ty.aF us) ys)):=by simp[af.er,cD,hn,SB.er]
    simp only[St.mV,Ty.er,bh,bk,if_true,af.od,SB.er]
   ·cases hx
  ·cases hx
 ·rename_i n kk off
  split at hx
  ·rename_i gr m us xs hn
   rw[eC] at hx
   obtain⟨e,he,hx⟩:=hx
   replace he:xs[kk]? =some e:=he
   split at hx
   ·rename_i e' hs
    refine⟨_,?_,hx⟩
    have bh:σ.er.h n=some (.row gr m us.length (List.map (Ty.aF us) xs)):=by simp[af.er,cD,hn,SB.er]
    simp only[St.mV,bh,List.getElem?_map,he,Option.map_some,af.od,SB.er,cb,List.map_set,aaM hs]
   ·cases hx
  ·cases hx
def BU (σ:af):List (cQ×Mode)->List TD->(af->Option ρ)->Option ρ
 |[],[],k=>k σ
 |it::its,x::xs,k=>TX σ it.1 x fun σ1=>BU σ1 its xs k
 |_,_,_=>none
theorem aba:∀{its:List (cQ×Mode)} {xs:List TD} {σ:af} {k:af->Option ρ} {r:ρ},BU σ its xs k=some r->∃σ1,σ.er.oS its (bV xs)=some σ1.er/\k σ1=some r
 |[],[],σ,k,r,hx=>⟨σ,rfl,hx⟩
 |it::its,x::xs,σ,k,r,hx=>by
  simp only[BU] at hx
  obtain⟨σ1,h1,h2⟩:=anN hx
  obtain⟨σ2,h3,h4⟩:=aba h2
  refine⟨σ2,?_,h4⟩
  simp only[bV] at h3
  simp only[bV,List.map_cons,St.oS,h1,h3]
 |[],_::_,σ,k,r,hx=>by simp[BU] at hx
 |_::_,[],σ,k,r,hx=>by simp[BU] at hx
def JP:List Nat->Bool
 |[]=>true
 |n::l=> !(l.contains n)&&JP l
theorem ZP:∀{l:List Nat},JP l=true->l.Nodup
 |[],_=>List.nodup_nil
 |n::l,h=>by
  simp only[JP,Bool.and_eq_true,Bool.not_eq_true'] at h
  rw[List.nodup_cons]
  refine⟨fun hm=>?_,ZP h.2⟩
  have:l.contains n=true:=by simpa using hm
  rw[this] at h
  cases h.1
def TC (T:List aG) (m:Mode) (d:Option Nat) (f:FuncId) (as:List SV) (σ:af) (k:af->Option ρ):Option ρ:=
 match aG.find T f with
 |some fn=>match fn.mu.hJ with
  |1=>match EO as with
   |some eZ=>ef (JP (EQ fn.mu eZ)) (Kj σ.h (TI σ.h (EQ fn.mu eZ)) fn.mu eZ fun ds its=>match pT fn.args ds with
    |some x=>(fn.F x).U fun y=>BU σ its (((nh fn.aB y).drop (fn.aB.length - fn.mu.bB)).flatMap (·.2)) fun σ1=>match BP m σ1 (yI d) ((nh fn.aB y).take (fn.aB.length - fn.mu.bB)) with
     |some (ls,σ2)=>k (σ2.put d (ET ls))
     |none=>none
    |none=>none)
   |none=>none
  |_=>none
 |none=>none
theorem Km (k:Nat) (l:List bJ):wQ k (l.map bJ.er)=((l.take k).map bJ.er,bV ((l.drop k).flatMap (·.2))):=by
 simp only[wQ,<-List.map_take,<-List.map_drop]
 congr 1
 induction l.drop k with
 |nil=>rfl
 |cons d l ih=>
  simp only[List.map_cons,List.flatMap_cons,ih,bV,List.map_append,bJ.er]
theorem anq {T:List aG} {m:Mode} {d:Option Nat} {f:FuncId} {as:List SV} {σ:af} {k:af->Option ρ} {r:ρ} (h:TC T m d f as σ k=some r):
  ∃σ1:af,tw (cY T) m d f (as.map SV.er) σ.er=some σ1.er/\k σ1=some r:=by
 unfold TC at h
 split at h
 ·rename_i fn hf
  split at h
  ·rename_i gZ
   split at h
   ·rename_i eZ hc
    have fJ:=ZP (bQ h).1;replace h:=(bQ h).2
    obtain⟨ds,its,h1,h2⟩:=aa0 h
    split at h2
    ·rename_i x hx
     rw[eC] at h2
     obtain⟨y,hF,h2⟩:=h2
     obtain⟨σ1,h3,h4⟩:=aba h2
     split at h4
     ·rename_i ls σ2 hs
      refine⟨_,?_,h4⟩
      have e:=TJ m hs
      have hM:fn.MM (cH fn.args x)=some (((nh fn.aB y).take (fn.aB.length - fn.mu.bB)).map bJ.er,bV (((nh fn.aB y).drop (fn.aB.length - fn.mu.bB)).flatMap (·.2))):=by
       unfold aG.MM
       rw[aG.Cg,hF]
       simp only[Option.map_some]
       rw[<-zO,Km]
      have hh:σ.er.h=cD σ.h:=rfl
      rw[anB] at h1
      simp only[tw,aG.Wz hf gZ,aaW hc,aaZ,if_pos fJ,hh,h1,wv hx,hM,h3,e,af.c6,Kn]
     ·cases h4
    ·cases h2
   ·cases h
  ·cases h
 ·cases h
def yV:List SC->Option (List TD)
 |[]=>some []
 |.v t x::cs=>match yV cs with
  |some l=>some (⟨t,x⟩::l)
  |none=>none
 |.nil (t::us)::cs=>match yV cs with
  |some l=>some (⟨.list (t::us),([]:List (Ty.DL (t::us)))⟩::l)
  |none=>none
 |_::_=>none
theorem Kh:∀{cs:List SC} {l:List TD},yV cs=some l->lN (cs.map SC.er)=some (bV l)
 |[],l,h=>by simp only[yV] at h;injection h with h;subst h;rfl
 |c::cs,l,h=>by
  unfold yV at h
  split at h
  ·rename_i e;cases e
  ·rename_i t x cs' e
   injection e with e1 e2
   subst e1 e2
   split at h
   ·rename_i l' e
    injection h with h
    subst h
    simp only[List.map_cons,lN,SC.er,uf,Kh e,bV]
   ·cases h
  ·rename_i t us cs' e
   injection e with e1 e2
   subst e1 e2
   split at h
   ·rename_i l' e
    injection h with h
    subst h
    simp[lN,SC.er,uf,Kh e,bV,Ty.er]
   ·cases h
  ·cases h
def J8 (h:Nat->Option SB) (n kk off:Nat):Option (List TD):=
 match kk,off with
 |0,0=>match h n with
  |some (.box cs)=>yV cs
  |_=>none
 |_,_=>none
theorem aaA {h:Nat->Option SB} {n kk sz off:Nat} {l:List TD} (e:J8 h n kk off=some l):mr (cD h) (SV.er (.one (.ptr n kk sz off)))=some (n,bV l):=by
 unfold J8 at e
 split at e
 ·split at e
  ·rename_i cs hn
   simp[SV.er,SC.er,mr,cD,hn,SB.er,Kh e]
  ·cases e
 ·cases e
def SV.oR:SV->Option (Nat×Nat×Nat)
 |.one (.ptr n kk _ off)=>some (n,kk,off)
 |_=>none
theorem Z9 {v:SV} (h:v.oR=none) (hh:Nat->Option ar):mr hh v.er=none:=by
 cases v with
 |one c=>cases c<;>first|rfl|(simp[SV.oR] at h)
 |agg cs=>rfl
 |bj xs=>rfl
theorem aaa {v:SV} {n kk off:Nat} (h:v.oR=some (n,kk,off)):∃sz,v=.one (.ptr n kk sz off):=by
 cases v with
 |one c=>cases c<;>simp[SV.oR] at h;obtain⟨rfl,rfl,rfl⟩:=h;exact⟨_,rfl⟩
 |agg cs=>simp[SV.oR] at h
 |bj xs=>simp[SV.oR] at h
def EH (σ:af):List SV->(List bJ->List Nat->af->Option ρ)->Option ρ
 |[],k=>k [] [] σ
 |v::vs,k=>match v.oR with
  |some (n,kk,off)=>match J8 σ.h n kk off with
   |some l=>EH σ vs fun ds ns σ1=>k ((.ptr,l)::ds) (n::ns) σ1
   |none=>none
  |none=>match v.cells? with
   |some (ag,cs)=>yZ σ cs fun l _ σ1=>EH σ1 vs fun ds ns σ2=>k ((OY ag,l)::ds) ns σ2
   |none=>none
theorem Sw:∀{vs:List SV} {σ:af} {k:List bJ->List Nat->af->Option ρ} {r:ρ},EH σ vs k=some r->
  ∃ds ns σ1,σ.er.gL (vs.map SV.er)=some (ds.map bJ.er,ns,σ1.er)/\k ds ns σ1=some r
 |[],σ,k,r,h=>⟨[],[],σ,rfl,h⟩
 |v::vs,σ,k,r,h=>by
  simp only[EH] at h
  split at h
  ·rename_i n kk off hv
   obtain⟨sz,rfl⟩:=aaa hv
   split at h
   ·rename_i l hl
    obtain⟨ds,ns,σ1,h1,h2⟩:=Sw h
    refine⟨_,_,σ1,?_,h2⟩
    have:=aaA (sz:=sz) hl
    have hh:σ.er.h=cD σ.h:=rfl
    simp only[List.map_cons,St.gL,hh,this,h1,bJ.er]
   ·cases h
  ·rename_i hv
   split at h
   ·rename_i ag cs hc
    obtain⟨l,o,σ1,h1,h2⟩:=EY h
    obtain⟨ds,ns,σ2,h3,h4⟩:=Sw h2
    refine⟨_,_,σ2,?_,h4⟩
    simp only[List.map_cons,St.gL,Z9 hv,SV.lC hc,h1,h3,bJ.er]
    cases ag<;>rfl
   ·cases h
def TW (σ:af) (ns:List Nat) (out:List TD) (k:af->Option ρ):Option ρ:=
 match ns,out with
 |[],[]=>k σ
 |[n],out=>match σ.h n with
  |some (.box cs)=>ct cs.length out.length (k (σ.cX n (.box (out.map fun x=>.v x.1 x.2))))
  |_=>none
 |_,_=>none
theorem KG (out:List TD):(out.map fun x=>SC.v x.1 x.2).map SC.er=(bV out).map .c:=by simp[bV,SC.er]
theorem anM {σ:af} {ns:List Nat} {out:List TD} {k:af->Option ρ} {r:ρ} (h:TW σ ns out k=some r):∃σ1,σ.er.rj ns (bV out)=some σ1.er/\k σ1=some r:=by
 unfold TW at h
 split at h
 ·exact⟨σ,rfl,h⟩
 ·rename_i n
  split at h
  ·rename_i cs hn
   have he:=(ba h).1;replace h:=(ba h).2
   refine⟨_,?_,h⟩
   have bh:σ.er.h n=some (.box (cs.map SC.er)):=by simp[af.er,cD,hn,SB.er]
   simp only[St.rj,bh,List.length_map]
   rw[if_pos (by rw[he,bV,List.length_map]),af.od,SB.er,KG]
  ·cases h
 ·cases h
def bJ.oR:List bJ->Option (List TD)
 |[(.ptr,cs)]=>some cs
 |_=>none
theorem anr {rs:List bJ} {cs:List TD} (h:bJ.oR rs=some cs):rs=[(.ptr,cs)]:=by
 unfold bJ.oR at h
 split at h
 ·injection h with h;rw[h]
 ·cases h
def Sx (σ:af) (d:Option Nat) (rs:List bJ) (k:af->Option ρ):Option ρ:=
 match bJ.oR rs with
 |some cs=>match d with
  |some q=>match σ.ins q (.box (cs.map fun x=>.v x.1 x.2)) with
   |some σ1=>k (σ1.put d (.one (.ptr q 0 0 0)))
   |none=>none
  |none=>none
 |none=>match BL rs with
  |some ls=>k (σ.put d (ET ls))
  |none=>none
theorem ank {σ:af} {d:Option Nat} {rs:List bJ} {k:af->Option ρ} {r:ρ} (h:Sx σ d rs k=some r):∃σ1,qq σ.er d (rs.map bJ.er)=some σ1.er/\k σ1=some r:=by
 unfold Sx at h
 split at h
 ·rename_i cs hp
  have:=anr hp
  subst this
  split at h
  ·rename_i q
   split at h
   ·rename_i σ1 hi
    refine⟨_,?_,h⟩
    have e:=af.rP hi
    rw[SB.er,KG] at e
    simp only[List.map_cons,List.map_nil,bJ.er,qq,e,af.c6]
    rfl
   ·cases h
  ·cases h
 ·split at h
  ·rename_i ls hs
   refine⟨_,?_,h⟩
   have e:=Tz hs
   have hb:qq σ.er d (rs.map bJ.er)=match gw (rs.map bJ.er) with
     |some ls=>some (σ.er.put d (lp ls))
     |none=>none:=by
    unfold qq
    split
    ·rename_i cs he
     rw[he] at e
     simp[gw] at e
    ·rfl
   rw[hb,e,af.c6,Kn]
  ·cases h
def TA (T:List aG) (d:Option Nat) (f:FuncId) (as:List SV) (σ:af) (k:af->Option ρ):Option ρ:=
 match aG.find T f with
 |some fn=>match fn.mu.hJ with
  |2=>EH σ as fun ds ns σ1=>match pT fn.args ds with
   |some x=>(fn.F x).U fun y=>TW σ1 ns (((nh fn.aB y).drop (fn.aB.length - sS fn.args)).flatMap (·.2)) fun σ2=>Sx σ2 d ((nh fn.aB y).take (fn.aB.length - sS fn.args)) k
   |none=>none
  |_=>none
 |none=>none
theorem ano {T:List aG} {d:Option Nat} {f:FuncId} {as:List SV} {σ:af} {k:af->Option ρ} {r:ρ} (h:TA T d f as σ k=some r):
  ∃σ1:af,rN (cY T) d f (as.map SV.er) σ.er=some σ1.er/\k σ1=some r:=by
 unfold TA at h
 split at h
 ·rename_i fn hf
  split at h
  ·rename_i gZ
   obtain⟨ds,ns,σ1,h1,h2⟩:=Sw h
   split at h2
   ·rename_i x hx
    rw[eC] at h2
    obtain⟨y,hF,h2⟩:=h2
    obtain⟨σ2,h3,h4⟩:=anM h2
    obtain⟨f9,h5,h6⟩:=ank h4
    refine⟨f9,?_,h6⟩
    have hM:fn.MV (cH fn.args x)=some (((nh fn.aB y).take (fn.aB.length - sS fn.args)).map bJ.er,bV (((nh fn.aB y).drop (fn.aB.length - sS fn.args)).flatMap (·.2))):=by
     unfold aG.MV
     rw[aG.Cg,hF]
     simp only[Option.map_some]
     rw[<-zO,Km]
    simp only[rN,h1,aG.WA hf gZ,wv hx,hM,h3,h5]
   ·cases h2
  ·cases h
 ·cases h
def TH (σ:af) (p:SC) (k:af->Option ρ):Option ρ:=
 match p with
 |.ptr n _ _ _=>match σ.h n with
  |some (.box cs)=>yZ σ cs fun l _ σ1=>k (σ1.cX n (.box (l.map fun x=>.v x.1 x.2)))
  |_=>none
 |_=>none
theorem anw {σ:af} {p:SC} {k:af->Option ρ} {r:ρ} (h:TH σ p k=some r):∃σ1,σ.er.pt p.er=some σ1.er/\k σ1=some r:=by
 unfold TH at h
 split at h
 ·rename_i n kk sz off
  split at h
  ·rename_i cs hn
   obtain⟨l,o,σ1,h1,h2⟩:=EY h
   refine⟨_,?_,h2⟩
   have bh:σ.er.h n=some (.box (cs.map SC.er)):=by simp[af.er,cD,hn,SB.er]
   simp only[SC.er,St.pt,bh,h1]
   rw[af.od,SB.er,KG]
  ·cases h
 ·cases h
inductive cm where
 |mv (x:cl)
 |pick (c x y:cl)
 |alloc (zs:List SC)
 |box (sz:Nat) (x:cl)
 |build (zs:List SC) (parts:List (Nat×Nat×cl))
 |dT (ts:List Ty) (parts:List cl)
 |load (ag:Bool) (sz:Nat) (x:cl)
 |store (sz:Nat) (x v:cl)
 |nM (x:cl)
 |bin (op:BinOp) (x y:cl)
 |lz (op:BinOp) (x y:cl)
 |un (op:UnOp) (x:cl)
 |conv (k:IntKind) (x:cl)
 |ld (m:Mode) (ts:List Ty) (by_:Nat) (z:Ty.DL ts) (l c:cl)
 |slice (sz:Nat) (x:cl) (lo hi:Option cl)
 |tail (sz:Nat) (x lo:cl)
 |lV (ag:Bool) (sz:Nat) (x:cl)
 |ak (off:Nat) (x:cl)
 |bO (sz:Nat) (x i:cl)
 |ext (i:Nat) (x:cl)
 |mA (ag:Bool) (off sz:Nat) (x:cl)
 |lr (f:FuncId) (bE:Bool) (x:cl)
 |len (x:cl)
 |append (fl:Bool) (ts:List Ty) (by_:Nat) (x y:cl)
 |mm (mx:Bool) (x y:cl)
 |call (m:Mode) (f:FuncId) (xs:List cl)
 |lA (f:FuncId) (xs:List cl)
 |copy (x y:cl)
 |j7 (t:Ty) (z:t.D) (x:cl)
 |oN (f:FuncId) (xs:List cl)
 |lB (m:Mode) (x:cl) (xs:List cl)
 |eQ (m:Mode) (f:FuncId) (xs:List cl)
 |iJ (f:FuncId) (xs:List cl)
def cm.er:cm->aC
 |.mv x=>.mv x.er
 |.pick c x y=>.pick c.er x.er y.er
 |.alloc zs=>.alloc (zs.map SC.er)
 |.box sz x=>.box sz x.er
 |.build zs ps=>.build (zs.map SC.er) (ps.map fun p=>(p.1,p.2.1,p.2.2.er))
 |.dT ts ps=>.dT ts.length (ps.map cl.er)
 |.load ag sz x=>.load ag sz x.er
 |.lV ag sz x=>.lV ag sz x.er
 |.store sz x v=>.store sz x.er v.er
 |.nM x=>.nM x.er
 |.bin op x y=>.bin op x.er y.er
 |.lz op x y=>.lz op x.er y.er
 |.un op x=>.un op x.er
 |.conv k x=>.conv k x.er
 |.ld m ts by_ z l c=>.ld m ts.length by_ (Ty.aF ts z) l.er c.er
 |.slice sz x lo hi=>.slice sz x.er (lo.map cl.er) (hi.map cl.er)
 |.tail sz x lo=>.tail sz x.er lo.er
 |.ak off x=>.ak off x.er
 |.bO sz x i=>.bO sz x.er i.er
 |.ext i x=>.ext i x.er
 |.mA ag off sz x=>.mA ag off sz x.er
 |.lr f bE x=>.lr f bE x.er
 |.len x=>.len x.er
 |.append fl ts by_ x y=>.append fl ts.length by_ x.er y.er
 |.mm b x y=>.mm b x.er y.er
 |.call m f xs=>.call m f (xs.map cl.er)
 |.lA f xs=>.lA f (xs.map cl.er)
 |.copy x y=>.copy 1 x.er y.er
 |.j7 t z x=>.j7 (t.er z) x.er
 |.oN f xs=>.oN f (xs.map cl.er)
 |.lB m x xs=>.lB m x.er (xs.map cl.er)
 |.eQ m f xs=>.eQ m f (xs.map cl.er)
 |.iJ f xs=>.iJ f (xs.map cl.er)
theorem xH (σ:af) (xs:List cl):(xs.map cl.er).map σ.er.ev=(xs.map σ.ev).map SV.er:=by
 simp[af.cT]
def EX (ev:cl->SV):List SC->List (Nat×Nat×cl)->Option (List SC)
 |zs,[]=>some zs
 |zs,(off,sz,x)::ps=>match(ev x).cells? with
  |some (_,cs)=>ct cs.length sz (ef (Nat.ble (off+sz) zs.length) (EX ev (bP zs off cs) ps))
  |none=>none
theorem abk {σ:af}:∀{ps:List (Nat×Nat×cl)} {zs cs:List SC},EX σ.ev zs ps=some cs->
  oW σ.er.ev (zs.map SC.er) (ps.map fun p=>(p.1,p.2.1,p.2.2.er))=some (cs.map SC.er)
 |[],zs,cs,h=>by simp only[EX] at h;injection h with h;subst h;rfl
 |(off,sz,x)::ps,zs,cs,h=>by
  simp only[EX] at h
  split at h
  ·rename_i b VO hc
   have bk:=(ba h).1;replace h:=(ba h).2;subst bk
   have hb:=(bQ h).1;replace h:=(bQ h).2
   have ih:=abk h
   rw[BT] at ih
   have fI:=Nat.le_of_ble_eq_true hb
   simp only[List.map_cons,oW,af.cT,SV.lC hc,List.length_map,fI,and_self,if_true,ih]
  ·cases h
def J9 (l:List TD):Bool:=l.all fun x=>x.1.dR
theorem anl (l:List TD):eO (bV l)=J9 l:=by
 simp[eO,bV,J9,List.all_map,Function.comp_def,Ty.wM]
def T8 (σ:af) (n:Nat) (gr:Bool) (m:Mode) (ts:List Ty) (xs:List (Ty.DL ts)) (kk off:Nat) (e:Ty.DL ts) (vs:List SC) (k:af->Option ρ):Option ρ:=
 match sub (Ty.gv ts e) off vs.length with
 |none=>none
 |some fB=>yZ σ vs fun cs o σ1=>match pS ts (bP (Ty.gv ts e) off cs) with
  |none=>none
  |some e'=>match m with
   |.live=>ef (J9 cs&&J9 fB&&(σ1.h n).isSome) (k (σ1.cX n (.row gr .live ts (cb xs kk e'))))
   |.aa=>ef (σ1.h n).isSome (k (σ1.cX n (.row gr (match o with|true=>.aa|false=>.aE) ts (cb xs kk e'))))
   |.aE=>ef (σ1.h n).isSome (k (σ1.cX n (.row gr .aE ts (cb xs kk e'))))
theorem V9 (h:Nat->Option SB) (n:Nat):(cD h n).isSome=(h n).isSome:=by
 unfold cD;cases h n<;>rfl
theorem anS {σ:af} {n:Nat} {gr:Bool} {m:Mode} {ts:List Ty} {xs:List (Ty.DL ts)} {kk off:Nat} {e:Ty.DL ts} {vs:List SC} {k:af->Option ρ} {r:ρ}
  (h:T8 σ n gr m ts xs kk off e vs k=some r):
  ∃σ1:af,ma σ.er n gr m ts.length (List.map (Ty.aF ts) xs) kk off (Ty.aF ts e) (vs.map SC.er)=some σ1.er/\k σ1=some r:=by
 unfold T8 at h
 split at h
 ·cases h
 ·rename_i fB ho
  obtain⟨cs,o,σ1,h1,h2⟩:=EY h
  have hold:sub (Ty.aF ts e) off (vs.map SC.er).length=some (bV fB):=by
   rw[<-Ty.pg]
   simp only[bV]
   rw[s9,List.length_map,ho]
   rfl
  split at h2
  ·cases h2
  ·rename_i e' he
   have yf:bP (Ty.aF ts e) off (bV cs)=Ty.aF ts e':=by
    rw[ww he,<-Ty.pg]
    simp only[bV]
    rw[<-BT]
   have Ak:(List.map (Ty.aF ts) xs).set kk (Ty.aF ts e')=List.map (Ty.aF ts) (cb xs kk e'):=by
    show _=List.map (Ty.aF ts) (xs.set kk e')
    rw[List.map_set]
   have Al:σ1.er.h n=(σ1.h n).map SB.er:=rfl
   split at h2
   ·have hb:=(bQ h2).1;replace h2:=(bQ h2).2
    simp only[Bool.and_eq_true] at hb
    refine⟨_,?_,h2⟩
    simp only[ma,hold,h1,if_true,anl,hb.1.1,hb.1.2,Al,Option.isSome_map,hb.2,and_self,yf,Ak,af.od,SB.er]
   ·have hb:=(bQ h2).1;replace h2:=(bQ h2).2
    refine⟨_,?_,h2⟩
    cases o<;>simp only[ma,hold,h1,Al,Option.isSome_map,hb,yf,Ak,af.od,SB.er,reduceCtorEq,if_false,if_true,Bool.false_eq_true,cond_true,cond_false,ite_self]
   ·have hb:=(bQ h2).1;replace h2:=(bQ h2).2
    refine⟨_,?_,h2⟩
    cases o<;>simp only[ma,hold,h1,Al,Option.isSome_map,hb,yf,Ak,af.od,SB.er,reduceCtorEq,if_false,if_true,Bool.false_eq_true,cond_true,cond_false,ite_self]
def vj (us ts:List Ty) (xs:List (Ty.DL us)):Option (List (Ty.DL ts)):=if h:Ty.qv us ts=true then some (Ty.rH h▸xs) else none
theorem LP {us ts:List Ty} {xs:List (Ty.DL us)} {ys:List (Ty.DL ts)} (h:vj us ts xs=some ys):us.length=ts.length/\List.map (Ty.aF us) xs=List.map (Ty.aF ts) ys/\xs.length=ys.length:=by
 unfold vj at h
 split at h
 ·rename_i he
  have:=Ty.rH he
  subst this
  injection h with h
  rw[<-h]
  exact⟨rfl,rfl,rfl⟩
 ·cases h
def Su (σ:af) (ts:List Ty) (v:SV) (k:List (Ty.DL ts)->Mode->af->Option ρ):Option ρ:=
 match v with
 |.one (.nil _)=>k [] .aa σ
 |.one (.sl a s lo len)=>match σ.h a with
  |some (.row true m us xs)=>ct s ts.length (ct lo 0 (match vj us ts xs with
   |some ys=>(ab lo len (J ys)).U fun _=>k ys m (σ.del a)
   |none=>none))
  |_=>none
 |_=>none
theorem Nh {lo len l:Nat} {u:Unit} (h:ab lo len l=some u):lo=0/\len=l:=by
 unfold ab at h
 split at h
 ·rename_i hc;exact hc
 ·cases h
theorem ani {σ:af} {ts:List Ty} {v:SV} {k:List (Ty.DL ts)->Mode->af->Option ρ} {r:ρ} (h:Su σ ts v k=some r):
  ∃(xs:List (Ty.DL ts)) (m:Mode) (σ1:af),pd σ.er ts.length v.er=some (List.map (Ty.aF ts) xs,m,σ1.er)/\k xs m σ1=some r:=by
 unfold Su at h
 split at h
 ·exact⟨[],.aa,σ,rfl,h⟩
 ·rename_i a s lo len
  split at h
  ·rename_i m us xs hn
   have bk:=(ba h).1;replace h:=(ba h).2;subst bk
   have bk:=(ba h).1;replace h:=(ba h).2;subst bk
   split at h
   ·rename_i ys hc
    obtain⟨c1,c2,c3⟩:=LP hc
    rw[eC] at h
    obtain⟨_,hf,h⟩:=h
    obtain⟨_,hlen⟩:=Nh hf
    replace hlen:len=ys.length:=hlen
    refine⟨ys,m,σ.del a,?_,h⟩
    have bh:σ.er.h a=some (.row true m ts.length (List.map (Ty.aF ts) ys)):=by simp[af.er,cD,hn,SB.er,c1,c2]
    subst hlen
    simp only[SV.er,SC.er,pd,bh,List.length_map,and_self,if_true,af.Hw]
   ·cases h
  ·cases h
 ·cases h
theorem aaB (ts:List Ty) (xs:List (Ty.DL ts)) (h:Ty.eO ts=true):ft (List.map (Ty.aF ts) xs)=true:=by
 simp only[ft,List.all_eq_true,List.mem_map]
 rintro _ ⟨e,_,rfl⟩
 rw[Ty.Ka]
 exact h
def Sv (fl:Bool) (σ:af) (ts:List Ty) (m:Mode) (v:SV) (k:List (Ty.DL ts)->Mode->af->Option ρ):Option ρ:=
 match v with
 |.one (.nil _)=>k [] m σ
 |.one (.v (.list us) ys)=>match vj us ts ys with
  |some zs=>match fl with
   |true=>ef (Ty.eO ts) (k zs m σ)
   |false=>match m with
    |.live=>none
    |_=>k zs .aE σ
  |none=>none
 |.one (.sl b s lo len)=>match σ.h b with
  |some (.row _ m' us ys)=>ct s ts.length (match vj us ts ys with
   |some zs=>match fl with
    |true=>ef (Ty.eO ts) ((bG zs lo len).U fun ws=>k ws m σ)
    |false=>(ab lo len (J zs)).U fun _=>match m,m' with
     |.aa,.aa=>k zs .aa (σ.del b)
     |.live,.live=>k zs .live (σ.del b)
     |.aE,.aE=>k zs .aE (σ.del b)
     |.aa,.aE=>k zs .aE (σ.del b)
     |.aE,.aa=>k zs .aE (σ.del b)
     |_,_=>none
   |none=>none)
  |_=>none
 |_=>none
theorem anj {fl:Bool} {σ:af} {ts:List Ty} {m:Mode} {v:SV} {k:List (Ty.DL ts)->Mode->af->Option ρ} {r:ρ} (h:Sv fl σ ts m v k=some r):
  ∃(ys:List (Ty.DL ts)) (m2:Mode) (σ1:af),kK fl σ.er ts.length m v.er=some (List.map (Ty.aF ts) ys,m2,σ1.er)/\k ys m2 σ1=some r:=by
 unfold Sv at h
 split at h
 ·exact⟨[],m,σ,rfl,h⟩
 ·rename_i us ys
  split at h
  ·rename_i zs hc
   obtain⟨e1,e2,e3⟩:=LP hc
   have vm:Ty.er (.list us) ys=.list ts.length (List.map (Ty.aF ts) zs):=by rw[<-e1,<-e2];rfl
   split at h
   ·have hs:=(bQ h).1;replace h:=(bQ h).2
    refine⟨zs,m,σ,?_,h⟩
    simp only[SV.er,SC.er,vm,kK,if_true,Bool.true_and,aaB ts zs hs]
   ·split at h
    ·cases h
    ·rename_i hm
     refine⟨zs,.aE,σ,?_,h⟩
     have bz:m≠ .live:=fun e=>hm e
     simp only[SV.er,SC.er,vm,kK,if_true,Bool.false_and,Bool.false_eq_true,if_false,if_neg bz]
  ·cases h
 ·rename_i b s lo len
  split at h
  ·rename_i gr m' us ys hn
   have bk:=(ba h).1;replace h:=(ba h).2;subst bk
   split at h
   ·rename_i zs hc
    obtain⟨e1,e2,e3⟩:=LP hc
    have bh:σ.er.h b=some (.row gr m' ts.length (List.map (Ty.aF ts) zs)):=by simp[af.er,cD,hn,SB.er,e1,e2]
    split at h
    ·have hs:=(bQ h).1;replace h:=(bQ h).2
     rw[eC] at h
     obtain⟨ws,hw,h⟩:=h
     obtain⟨w1,w2⟩:=ab4 hw
     refine⟨ws,m,σ,?_,h⟩
     simp only[SV.er,SC.er,kK,bh,List.length_map,w1,w2,and_self,if_true,Bool.true_and,aaB ts ws hs]
    ·rw[eC] at h
     obtain⟨_,hf,h⟩:=h
     obtain⟨rfl,hlen⟩:=Nh hf
     replace hlen:len=zs.length:=hlen
     subst hlen
     have An:List.take zs.length (List.map (Ty.aF ts) zs)=List.map (Ty.aF ts) zs:=by
      rw[List.take_of_length_le];simp
     cases m<;>cases m'<;>first
      |(cases h;done)
      |exact⟨zs,_,σ.del b,by simp[SV.er,SC.er,kK,bh,af.Hw],h⟩
   ·cases h
  ·cases h
 ·cases h
def SC.WM:SC->Bool
 |.fn _ _=>false
 |.bg=>false
 |_=>true
def yX:List SV->Option (List SC)
 |[]=>some []
 |.one c::vs=>match c.WM,yX vs with
  |true,some cs=>some (c::cs)
  |_,_=>none
 |_::_=>none
theorem aaY:∀{vs:List SV} {cs:List SC},yX vs=some cs->
  (vs.map SV.er).mapM (fun v=>match v with|.one c=>if c.kl=true then none else some c|_=>none)=some (cs.map SC.er)/\(cs.map SC.er).all ah.Em=true
 |[],cs,h=>by simp only[yX] at h;injection h with h;subst h;exact⟨rfl,rfl⟩
 |.one c::vs,cs,h=>by
  simp only[yX] at h
  split at h
  ·rename_i cs' e1 e2
   injection h with h
   subst h
   obtain⟨i1,i2⟩:=aaY e2
   have hc:c.er.kl=false/\c.er.Em=true:=by cases c<;>first|exact⟨rfl,rfl⟩|(simp[SC.WM] at e1)
   refine⟨?_,by simp[hc.2];simpa using i2⟩
   simp only[List.map_cons,List.mapM_cons,SV.er,hc.1]
   rw[i1]
   rfl
  ·cases h
 |.agg _::_,cs,h=>by simp[yX] at h
 |.bj _::_,cs,h=>by simp[yX] at h
end
end Go.Am
