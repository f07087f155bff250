/- S3: typed functions, and one operation of the typed evaluator. No condition. -/
import Derived.Test.YtifmggmhdcdgbaaS2
set_option linter.unusedVariables false
set_option linter.unusedSimpArgs false
namespace Go.Am
def be:List (List Ty)->Type
 |[]=>Unit
 |ts::l=>match l with
  |[]=>Ty.DL ts
  |us::l'=>Ty.DL ts×be (us::l')
abbrev av:=List (K×List Ty)
abbrev av.aZ (s:av):List (List Ty):=s.map (·.2)
def cQ:(as:av)->be as.aZ->List Dv
 |[],_=>[]
 |[a],x=>[(a.1,Ty.aD a.2 x)]
 |a::b::as,x=>(a.1,Ty.aD a.2 x.1)::cQ (b::as) x.2
def nf:(as:av)->be as.aZ->List bR
 |[],_=>[]
 |[a],x=>[(a.1,Ty.gy a.2 x)]
 |a::b::as,x=>(a.1,Ty.gy a.2 x.1)::nf (b::as) x.2
theorem zt:∀(as:av) (x:be as.aZ),(nf as x).map bR.er=cQ as x
 |[],_=>rfl
 |[a],x=>congrArg (fun l=>[((a.1,l):Dv)]) (Ty.oY a.2 x)
 |a::b::as,x=>by
  have:=zt (b::as) x.2
  simp only[nf,cQ,List.map_cons,bR.er,Ty.oY,this]
def K.beq:K->K->Bool
 |.one,.one=>true
 |.agg,.agg=>true
 |.ptr,.ptr=>true
 |_,_=>false
theorem K.beq_eq {a b:K} (h:K.beq a b=true):a=b:=by cases a<;>cases b<;>first|rfl|cases h
def F9 (ts:List Ty):(l:List (List Ty))->Ty.DL ts->be l->be (ts::l)
 |[],x,_=>x
 |_::_,x,y=>(x,y)
theorem Ud (a:K×List Ty):∀(as:av) (x:Ty.DL a.2) (y:be (av.aZ as)),cQ (a::as) (F9 a.2 (av.aZ as) x y)=(a.1,Ty.aD a.2 x)::cQ as y
 |[],_,_=>rfl
 |_::_,_,_=>rfl
def pI:(as:av)->List bR->Option (be as.aZ)
 |[],[]=>some ()
 |a::as,d::ds=>eB (K.beq a.1 d.1) (match pH a.2 d.2,pI as ds with
  |some x,some y=>some (F9 a.2 (av.aZ as) x y)
  |_,_=>none)
 |_,_=>none
theorem vK:∀{as:av} {ds:List bR} {x:be as.aZ},pI as ds=some x->ds.map bR.er=cQ as x
 |[],[],x,h=>rfl
 |a::as,d::ds,x,h=>by
  simp only[pI] at h
  have h1:=(bX h).1;replace h2:=(bX h).2
  split at h2
  ·rename_i y z e1 e2
   injection h2 with h2
   subst h2
   rw[Ud,List.map_cons,vK e2,bR.er,<-K.beq_eq h1,<-vL e1]
  ·cases h2
 |[],_::_,x,h=>by simp[pI] at h
 |a::as,[],x,h=>by simp[pI] at h
mutual
theorem Ty.Uh:∀(t:Ty) (x y:t.D),t.er x=t.er y->x=y
 |.int k,x,y,h=>by simp only[Ty.er] at h;injection h
 |.bool,x,y,h=>by simp only[Ty.er] at h;injection h
 |.list ts,x,y,h=>by simp only[Ty.er] at h;injection h with _ h;exact Ty.Ug ts x y h
theorem Ty.Ug:∀(ts:List Ty) (xs ys:List (Ty.DL ts)),List.map (Ty.aD ts) xs=List.map (Ty.aD ts) ys->xs=ys
 |ts,[],[],h=>rfl
 |ts,x::xs,y::ys,h=>by
  simp only[List.map_cons,List.cons.injEq] at h
  rw[Ty.Gp ts x y h.1,Ty.Ug ts xs ys h.2]
 |ts,[],_::_,h=>by simp at h
 |ts,_::_,[],h=>by simp at h
theorem Ty.Gp:∀(ts:List Ty) (x y:Ty.DL ts),Ty.aD ts x=Ty.aD ts y->x=y
 |[],x,y,h=>rfl
 |[t],x,y,h=>by simp only[Ty.aD,List.cons.injEq,and_true] at h;exact Ty.Uh t x y h
 |t::u::ts,x,y,h=>by
  simp only[Ty.aD,List.cons.injEq] at h
  exact Prod.ext (Ty.Uh t x.1 y.1 h.1) (Ty.Gp (u::ts) x.2 y.2 h.2)
end
theorem Ue:∀(as:av) (x y:be as.aZ),cQ as x=cQ as y->x=y
 |[],x,y,h=>rfl
 |[a],x,y,h=>by simp[cQ] at h;exact Ty.Gp a.2 x y h
 |a::b::as,x,y,h=>by
  simp only[cQ,List.cons.injEq,Prod.mk.injEq,true_and] at h
  exact Prod.ext (Ty.Gp a.2 x.1 y.1 h.1) (Ue (b::as) x.2 y.2 h.2)
structure aJ where
 id:FuncId
 args:av
 mu:bo
 aH:av
 F:be args.aZ->Option (be aH.aZ)
open Classical in
noncomputable def aJ.M (fn:aJ) (ds:List Dv):Option (List Dv):=
 if h:∃x,cQ fn.args x=ds then(fn.F h.choose).map (cQ fn.aH) else none
theorem aJ.BO (fn:aJ) (x:be fn.args.aZ):fn.M (cQ fn.args x)=(fn.F x).map (cQ fn.aH):=by
 have h:∃y,cQ fn.args y=cQ fn.args x:=⟨x,rfl⟩
 unfold aJ.M
 rw[dif_pos h,Ue _ _ _ h.choose_spec]
theorem aJ.JK {fn:aJ} {ds rs:List Dv} (h:fn.M ds=some rs):∃x y,ds=cQ fn.args x/\fn.F x=some y/\rs=cQ fn.aH y:=by
 unfold aJ.M at h
 split at h
 ·rename_i e
  rw[Option.map_eq_some_iff] at h
  obtain⟨y,h1,h2⟩:=h
  exact⟨_,y,e.choose_spec.symm,h1,h2.symm⟩
 ·cases h
def bo.nd:bo->Nat
 |[]=>0
 |s::l=>(s.filter Option.isSome).length+bo.nd l
def wc (k:Nat) (rs:List Dv):List Dv×List C:=(rs.take k,(rs.drop k).flatMap (·.2))
noncomputable def aJ.MM (fn:aJ) (ds:List Dv):Option (List Dv×List C):=(fn.M ds).map (wc (fn.aH.length - fn.mu.nd))
def bo.ii:bo->Nat
 |[]=>0
 |[[some .aA]]=>2
 |_=>1
def zF:av->Bool
 |[]=>false
 |(.ptr,_)::_=>true
 |_::as=>zF as
def sx (as:av):Nat:=match zF as with
 |true=>1
 |false=>0
noncomputable def aJ.MV (fn:aJ) (ds:List Dv):Option (List Dv×List C):=(fn.M ds).map (wc (fn.aH.length - sx fn.args))
noncomputable def de (T:List aJ):bg:=
 ⟨T.filterMap fun fn=>match fn.mu.ii with|0=>some (fn.id,fn.M)|_=>none,T.filterMap fun fn=>match fn.mu.ii with|1=>some (fn.id,fn.mu,fn.MM)|_=>none,
  T.filterMap fun fn=>match fn.mu.ii with|2=>some (fn.id,fn.MV)|_=>none⟩
def aJ.find:List aJ->FuncId->Option aJ
 |[],_=>none
 |fn::l,f=>match Nat.beq f fn.id with
  |true=>some fn
  |false=>aJ.find l f
theorem aJ.KH:∀{T:List aJ} {f:FuncId} {fn:aJ},aJ.find T f=some fn->fn.mu.ii=0->bg.find (de T).pure f=some fn.M
 |[],f,fn,h,_=>by simp[aJ.find] at h
 |g::l,f,fn,h,hm=>by
  simp only[aJ.find] at h
  split at h
  ·rename_i e
   injection h with h
   subst h
   simp only[de,List.filterMap_cons,hm,bg.find]
   rw[if_pos (Nat.eq_of_beq_eq_true e)]
  ·rename_i e
   have ih:bg.find (de l).pure f=some fn.M:=aJ.KH h hm
   simp only[de,List.filterMap_cons] at ih⊢
   by_cases hg:g.mu.ii=0
   ·simp only[hg,bg.find]
    rw[if_neg (fun he=>by rw[he,Nat.beq_refl] at e;cases e)]
    exact ih
   ·split
    ·exact ih
    ·rename_i z hz
     split at hz
     ·rename_i h0;exact absurd h0 hg
     ·cases hz
theorem aJ.UD:∀{T:List aJ} {f:FuncId} {fn:aJ},aJ.find T f=some fn->fn.mu.ii=1->bg.qt (de T).AP f=some (fn.mu,fn.MM)
 |[],f,fn,h,_=>by simp[aJ.find] at h
 |g::l,f,fn,h,hm=>by
  simp only[aJ.find] at h
  split at h
  ·rename_i e
   injection h with h
   subst h
   simp only[de,List.filterMap_cons,hm,bg.qt]
   rw[if_pos (Nat.eq_of_beq_eq_true e)]
  ·rename_i e
   have ih:bg.qt (de l).AP f=some (fn.mu,fn.MM):=aJ.UD h hm
   simp only[de,List.filterMap_cons] at ih⊢
   by_cases hg:g.mu.ii=1
   ·simp only[hg,bg.qt]
    rw[if_neg (fun he=>by rw[he,Nat.beq_refl] at e;cases e)]
    exact ih
   ·split
    ·exact ih
    ·rename_i z hz
     split at hz
     ·rename_i h0;exact absurd h0 hg
     ·cases hz
theorem aJ.UE:∀{T:List aJ} {f:FuncId} {fn:aJ},aJ.find T f=some fn->fn.mu.ii=2->bg.ni (de T).vs f=some fn.MV
 |[],f,fn,h,_=>by simp[aJ.find] at h
 |g::l,f,fn,h,hm=>by
  simp only[aJ.find] at h
  split at h
  ·rename_i e
   injection h with h
   subst h
   simp only[de,List.filterMap_cons,hm,bg.ni]
   rw[if_pos (Nat.eq_of_beq_eq_true e)]
  ·rename_i e
   have ih:bg.ni (de l).vs f=some fn.MV:=aJ.UE h hm
   simp only[de,List.filterMap_cons] at ih⊢
   by_cases hg:g.mu.ii=2
   ·simp only[hg,bg.ni]
    rw[if_neg (fun he=>by rw[he,Nat.beq_refl] at e;cases e)]
    exact ih
   ·split
    ·exact ih
    ·rename_i z hz
     split at hz
     ·rename_i h0;exact absurd h0 hg
     ·cases hz
def ub (m:Mode) (σ:ah):Nat->List TD->Option (List SC×Nat×ah)
 |nm,[]=>some ([],nm,σ)
 |nm,⟨t,x⟩::cs=>match t,x with
  |.list ts,xs=>match σ.ins nm (.row true m ts xs) with
   |some σ1=>match ub m σ1 (nm+1) cs with
    |some (l,eQ,σ2)=>some (.sl nm ts.length 0 (aa (α:=Ty.DL ts) xs)::l,eQ,σ2)
    |none=>none
   |none=>none
  |.int k,x=>match ub m σ nm cs with
   |some (l,eQ,σ2)=>some (.v (.int k) x::l,eQ,σ2)
   |none=>none
  |.bool,x=>match ub m σ nm cs with
   |some (l,eQ,σ2)=>some (.v .bool x::l,eQ,σ2)
   |none=>none
theorem IG (m:Mode):∀{cs:List TD} {σ σ1:ah} {nm eQ:Nat} {l:List SC},ub m σ nm cs=some (l,eQ,σ1)->
  σ.er.imp m nm (cj cs)=some (l.map SC.er,eQ,σ1.er)
 |[],σ,σ1,nm,eQ,l,h=>by
  simp only[ub] at h
  injection h with h
  injection h with h1 h2
  injection h2 with h2 h3
  subst h1 h2 h3
  rfl
 |⟨.list ts,xs⟩::cs,σ,σ2,nm,eQ,l,h=>by
  simp only[ub] at h
  split at h
  ·rename_i σ1 e1
   split at h
   ·rename_i l' Dx gj e2
    injection h with h
    injection h with h1 h2
    injection h2 with h2 h3
    subst h1 h2 h3
    have i1:σ.er.ins nm (.row true m ts.length (List.map (Ty.aD ts) xs))=some σ1.er:=ah.rI e1
    have i2:=IG m e2
    simp only[cj] at i2
    simp only[cj,List.map_cons,Ty.er,St.imp,i1,i2,SC.er]
    exact congrArg (fun q=>some (ai.sl nm ts.length 0 q::List.map SC.er l',Dx,gj.er)) (List.length_map (Ty.aD ts))
   ·cases h
  ·cases h
 |⟨.int k,x⟩::cs,σ,σ2,nm,eQ,l,h=>by
  simp only[ub] at h
  split at h
  ·rename_i l' Dx gj e2
   injection h with h
   injection h with h1 h2
   injection h2 with h2 h3
   subst h1 h2 h3
   have i2:=IG m e2
   simp only[cj] at i2
   simp only[cj,List.map_cons,Ty.er,St.imp,i2,SC.er]
  ·cases h
 |⟨.bool,x⟩::cs,σ,σ2,nm,eQ,l,h=>by
  simp only[ub] at h
  split at h
  ·rename_i l' Dx gj e2
   injection h with h
   injection h with h1 h2
   injection h2 with h2 h3
   subst h1 h2 h3
   have i2:=IG m e2
   simp only[cj] at i2
   simp only[cj,List.map_cons,Ty.er,St.imp,i2,SC.er]
  ·cases h
def K.isAgg:K->Bool
 |.agg=>true
 |_=>false
def K.se:K->Bool
 |.ptr=>true
 |_=>false
def Bk (m:Mode) (σ:ah):Nat->List bR->Option (List (Bool×List SC)×ah)
 |_,[]=>some ([],σ)
 |nm,(k,cs)::ds=>match k.se with
  |true=>none
  |false=>match ub m σ nm cs with
   |some (l,eQ,σ1)=>match Bk m σ1 eQ ds with
    |some (ls,σ2)=>some ((k.isAgg,l)::ls,σ2)
    |none=>none
   |none=>none
theorem Rr (m:Mode):∀{ds:List bR} {σ σ1:ah} {nm:Nat} {ls:List (Bool×List SC)},Bk m σ nm ds=some (ls,σ1)->
  σ.er.iT m nm (ds.map bR.er)=some (ls.map (fun x=>(x.1,x.2.map SC.er)),σ1.er)
 |[],σ,σ1,nm,ls,h=>by
  simp only[Bk] at h
  injection h with h
  injection h with h1 h2
  subst h1 h2
  rfl
 |(k,cs)::ds,σ,σ2,nm,ls,h=>by
  simp only[Bk] at h
  split at h
  ·cases h
  ·rename_i hk
   split at h
   ·rename_i l eQ σ1 e1
    split at h
    ·rename_i yd gj e2
     injection h with h
     injection h with h1 h2
     subst h1 h2
     have i1:=IG m e1
     have i2:=Rr m e2
     have Wt:σ1.er.iT m eQ (List.map bR.er ds)=some (yd.map (fun x=>(x.1,x.2.map SC.er)),gj.er):=i2
     cases k with
     |ptr=>cases hk
     |one=>simp only[List.map_cons,bR.er,St.iT,i1,Wt];rfl
     |agg=>simp only[List.map_cons,bR.er,St.iT,i1,Wt];rfl
    ·cases h
   ·cases h
def D9:List (Bool×List SC)->SV
 |[(ag,cs)]=>yN ag cs
 |l=>.bn l
theorem IM (l:List (Bool×List SC)):(D9 l).er=lC (l.map fun x=>(x.1,x.2.map SC.er)):=by
 match l with
 |[]=>rfl
 |[(ag,cs)]=>exact Bw ag cs
 |_::_::_=>rfl
section
variable {ρ:Type}
def IB (T:List aJ) (m:Mode) (d:Option Nat) (f:FuncId) (as:List SV) (σ:ah) (k:ah->Option ρ):Option ρ:=
 match aJ.find T f with
 |some fn=>match fn.mu.ii with
  |0=>Eh σ.h as fun ds=>match pI fn.args ds with
   |some x=>(fn.F x).ab fun rs=>match Bk m σ (yj d) (nf fn.aH rs) with
    |some (ls,σ1)=>k (σ1.put d (D9 ls))
    |none=>none
   |none=>none
  |_=>none
 |none=>none
theorem YW {T:List aJ} {m:Mode} {d:Option Nat} {f:FuncId} {as:List SV} {σ:ah} {k:ah->Option ρ} {r:ρ} (h:IB T m d f as σ k=some r):
  ∃σ1:ah,qm (de T) m d f (as.map SV.er) σ.er=some σ1.er/\k σ1=some r:=by
 unfold IB at h
 split at h
 ·rename_i fn hf
  split at h
  ·rename_i qD
   obtain⟨ds,h1,h2⟩:=Sa h
   split at h2
   ·rename_i x hx
    rw[eN] at h2
    obtain⟨rs,hF,h2⟩:=h2
    split at h2
    ·rename_i ls σ1 hs
     refine⟨_,?_,h2⟩
     have e:=Rr m hs
     rw[zt] at e
     have hv:j9 σ.er.h (as.map SV.er)=some (ds.map bR.er):=h1
     simp only[qm,hv,aJ.KH hf qD,vK hx,aJ.BO,hF,Option.map_some,e,ah.di,IM]
    ·cases h2
   ·cases h2
  ·cases h
 ·cases h
def Bh:List bR->Option (List (Bool×List SC))
 |[]=>some []
 |(k,cs)::ds=>match k.se with
  |true=>none
  |false=>match Bh ds with
   |some ls=>some ((k.isAgg,cs.map fun x=>SC.v x.1 x.2)::ls)
   |none=>none
theorem Ri:∀{ds:List bR} {ls:List (Bool×List SC)},Bh ds=some ls->gz (ds.map bR.er)=some (ls.map fun x=>(x.1,x.2.map SC.er))
 |[],ls,h=>by simp only[Bh] at h;injection h with h;subst h;rfl
 |(k,cs)::ds,ls,h=>by
  simp only[Bh] at h
  split at h
  ·cases h
  ·rename_i hk
   split at h
   ·rename_i yd e
    injection h with h
    subst h
    have i2:=Ri e
    have ec:(cj cs).map ai.c=(cs.map fun x=>SC.v x.1 x.2).map SC.er:=by simp[cj,SC.er]
    cases k with
    |ptr=>cases hk
    |one=>simp only[List.map_cons,bR.er,gz];rw[show gz (List.map bR.er ds)=_ from i2];simp only;rw[ec];rfl
    |agg=>simp only[List.map_cons,bR.er,gz];rw[show gz (List.map bR.er ds)=_ from i2];simp only;rw[ec];rfl
   ·cases h
def Rk (T:List aJ) (d:Option Nat) (f:FuncId) (as:List SV) (σ:ah) (k:ah->Option ρ):Option ρ:=
 match aJ.find T f with
 |some fn=>match fn.mu.ii with
  |0=>Eh σ.h as fun ds=>match pI fn.args ds with
   |some x=>(fn.F x).ab fun rs=>match Bh (nf fn.aH rs) with
    |some ls=>k (σ.put d (D9 ls))
    |none=>none
   |none=>none
  |_=>none
 |none=>none
theorem ajT {T:List aJ} {d:Option Nat} {f:FuncId} {as:List SV} {σ:ah} {k:ah->Option ρ} {r:ρ} (h:Rk T d f as σ k=some r):
  ∃v:SV,s6 (de T) f (as.map SV.er) σ.er.h=some v.er/\k (σ.put d v)=some r:=by
 unfold Rk at h
 split at h
 ·rename_i fn hf
  split at h
  ·rename_i qD
   obtain⟨ds,h1,h2⟩:=Sa h
   split at h2
   ·rename_i x hx
    rw[eN] at h2
    obtain⟨rs,hF,h2⟩:=h2
    split at h2
    ·rename_i ls hs
     refine⟨_,?_,h2⟩
     have e:=Ri hs
     rw[zt] at e
     have hv:j9 σ.er.h (as.map SV.er)=some (ds.map bR.er):=h1
     simp only[s6,hv,aJ.KH hf qD,vK hx,aJ.BO,hF,Option.map_some,e,IM]
    ·cases h2
   ·cases h2
  ·cases h
 ·cases h
def Ty.rE:Ty->Bool
 |.list ts=>Ty.eW ts
 |_=>true
def Sj:Mode->List Ty->Bool
 |.ae,ts=>Ty.eW ts
 |.live,ts=>ts.all Ty.rE
 |.aA,_=>false
theorem yz (ts:List Ty) (xs:List (Ty.DL ts)) (h:Ty.eW ts=true):fB (List.map (Ty.aD ts) xs)=true:=by
 simp only[fB,List.all_eq_true,List.mem_map]
 rintro e ⟨x,_,rfl⟩
 rw[Ty.Iz];exact h
theorem T0 (t:Ty) (x:t.D) (h:Ty.rE t=true):C.rE (t.er x)=true:=by
 cases t with
 |int k=>rfl
 |bool=>rfl
 |list ts=>exact yz ts x h
theorem TZ:∀(ts:List Ty) (x:Ty.DL ts),ts.all Ty.rE=true->(Ty.aD ts x).all C.rE=true
 |[],_,_=>rfl
 |[t],x,h=>by
  simp only[List.all_cons,List.all_nil,Bool.and_true] at h
  simp only[Ty.aD,List.all_cons,List.all_nil,Bool.and_true]
  exact T0 t x h
 |t::u::ts,x,h=>by
  simp only[List.all_cons (a:=t),Bool.and_eq_true] at h
  simp only[Ty.aD,List.all_cons (a:=Ty.er t x.1),Bool.and_eq_true]
  exact⟨T0 t x.1 h.1,TZ (u::ts) x.2 h.2⟩
theorem UJ (m:Mode) (ts:List Ty) (xs:List (Ty.DL ts)) (h:Sj m ts=true):rJ m (List.map (Ty.aD ts) xs)=true:=by
 cases m with
 |aA=>cases h
 |ae=>exact yz ts xs h
 |live=>
  simp only[rJ,List.all_eq_true,List.mem_map]
  rintro e ⟨x,_,rfl⟩
  have:=TZ ts x h
  simpa[List.all_eq_true] using this
def Mode.Nl:Mode->Bool
 |.live=>true
 |_=>false
def Mode.WO:Mode->Bool
 |.ae=>true
 |_=>false
def Rz (h:Nat->Option SB) (md:Mode) (c:SC) (k:c6->(t:Ty)->t.D->Option ρ):Option ρ:=
 match c with
 |.nil ts=>match ts with
  |[]=>none
  |t::us=>eB md.own (k (.nil (us.length+1)) (.list (t::us)) ([]:List (Ty.DL (t::us))))
 |.sl n sz lo len=>match h n with
  |some (.row _ m ts xs)=>eB (m.own&&((!md.Nl||m.Nl)&&Sj md ts)) (cE ts.length sz ((af lo len (aa xs)).ab fun _=>k (.row n) (.list ts) xs))
  |_=>none
 |.bx n kk ax off sz len=>match h n with
  |some (.row _ .live ts xs)=>eB md.WO (cE ts.length ax ((gA xs kk).ab fun e=>match(Ty.gy ts e)[off]? with
   |some ⟨.list us,ys⟩=>eB (Ty.eW us) (k (.nest n kk off) (.list us) ys)
   |_=>none))
  |_=>none
 |_=>none
theorem akf {h:Nat->Option SB} {md:Mode} {c:SC} {k:c6->(t:Ty)->t.D->Option ρ} {r:ρ} (hx:Rz h md c k=some r):
  ∃(it:c6) (t:Ty) (x:t.D),yh (cL h) md c.er=some (it,t.er x)/\k it t x=some r:=by
 unfold Rz at hx
 split at hx
 ·split at hx
  ·cases hx
  ·rename_i t us
   have hm:=(bX hx).1;replace hx:=(bX hx).2
   refine⟨_,.list (t::us),[],?_,hx⟩
   have bI:md≠ .aA:=by rintro rfl;cases hm
   simp[SC.er,yh,Ty.er,bI]
 ·rename_i n sz lo len
  split at hx
  ·rename_i gr m ts xs hn
   have hm:=(bX hx).1;replace hx:=(bX hx).2
   have bq:=(aW hx).1;replace hx:=(aW hx).2;subst bq
   rw[eN] at hx
   obtain⟨_,hf,hx⟩:=hx
   have LJ:lo=0/\len=aa xs:=by
    unfold af at hf
    split at hf
    ·assumption
    ·cases hf
   obtain⟨rfl,rfl⟩:=LJ
   simp only[Bool.and_eq_true] at hm
   have bI:m≠ .aA:=by rintro rfl;cases hm.1
   have rT:md=.live->m=.live:=by
    rintro rfl
    have:=hm.2.1
    cases m<;>first|rfl|(simp[Mode.Nl] at this)
   refine⟨_,.list ts,xs,?_,hx⟩
   simp only[SC.er,yh,cL,hn,Option.map_some,SB.er,Ty.er]
   rw[if_pos ⟨bI,rT,trivial,trivial,(List.length_map (Ty.aD ts)).symm,UJ md ts xs hm.2.2⟩]
  ·cases hx
 ·rename_i n kk ax off sz len
  split at hx
  ·rename_i gr ts xs hn
   have hm:=(bX hx).1;replace hx:=(bX hx).2
   have bq:=(aW hx).1;replace hx:=(aW hx).2;subst bq
   rw[eN] at hx
   obtain⟨e,he,hx⟩:=hx
   replace he:xs[kk]? =some e:=he
   split at hx
   ·rename_i us ys hd
    have hs:=(bX hx).1;replace hx:=(bX hx).2
    refine⟨_,.list us,ys,?_,hx⟩
    have Ma:md=.ae:=by cases md<;>first|rfl|(simp[Mode.WO] at hm)
    have mH:=Kw hd
    simp only[SC.er,yh,cL,hn,Option.map_some,SB.er,List.getElem?_map,he,Option.bind_some,mH,Ty.er,Ma,and_self,if_true]
    rw[if_pos (yz us ys hs)]
   ·cases hx
  ·cases hx
 ·cases hx
def SC.nm:SC->List Nat
 |.sl n _ _ _=>[n]
 |.bx n _ _ _ _ _=>[n]
 |_=>[]
theorem SC.ah7 (c:SC):c.er.dC.toList=c.nm:=by cases c<;>rfl
def Bl:List (Option Mode)->List SC->List Nat
 |some _::fs,c::cs=>c.nm++Bl fs cs
 |none::fs,_::cs=>Bl fs cs
 |_,_=>[]
theorem RB:∀(fs:List (Option Mode)) (cs:List SC),sv fs (cs.map SC.er)=Bl fs cs
 |some m::fs,c::cs=>by simp only[List.map_cons,sv,Bl,SC.ah7,RB fs cs]
 |none::fs,c::cs=>by simp only[List.map_cons,sv,Bl,RB fs cs]
 |[],cs=>by cases cs<;>rfl
 |some m::fs,[]=>rfl
 |none::fs,[]=>rfl
def D5:bo->List (Bool×List SC)->List Nat
 |s::sig,a::as=>Bl s a.2++D5 sig as
 |_,_=>[]
theorem Zc:∀(sig:bo) (as:List (Bool×List SC)),nD sig (as.map fun x=>(x.1,x.2.map SC.er))=D5 sig as
 |s::sig,a::as=>by simp only[List.map_cons,nD,D5,RB,Zc sig as]
 |[],as=>by cases as<;>rfl
 |s::sig,[]=>rfl
def Rq (h:Nat->Option SB) (ns:List Nat):Nat->Option SB:=fun n=>match ns.contains n with|true=>none|false=>h n
theorem aj4 (h:Nat->Option SB) (ns:List Nat):cL (Rq h ns)=ez (cL h) ns:=by
 funext n
 simp only[cL,Rq,ez]
 cases hc:ns.contains n<;>simp[hc]
def uf (h h0:Nat->Option SB):List (Option Mode)->List SC->(List TD->List (c6×Mode)->Option ρ)->Option ρ
 |[],cs,k=>yK h0 cs fun l=>k l []
 |none::fs,c::cs,k=>wm h0 c fun t x=>uf h h0 fs cs fun l its=>k (⟨t,x⟩::l) its
 |some md::fs,c::cs,k=>Rz h md c fun it t x=>uf h h0 fs cs fun l its=>k (⟨t,x⟩::l) ((it,md)::its)
 |_::_,[],_=>none
theorem Rx {h h0:Nat->Option SB}:∀{fs:List (Option Mode)} {cs:List SC} {k:List TD->List (c6×Mode)->Option ρ} {r:ρ},uf h h0 fs cs k=some r->
  ∃l its,ma (cL h) (cL h0) fs (cs.map SC.er)=some (cj l,its)/\k l its=some r
 |[],cs,k,r,hx=>by
  simp only[uf] at hx
  obtain⟨l,h1,h2⟩:=Ei hx
  exact⟨l,[],by simp only[ma,h1],h2⟩
 |none::fs,c::cs,k,r,hx=>by
  simp only[uf] at hx
  obtain⟨t,x,h1,h2⟩:=Bu hx
  obtain⟨l,its,h3,h4⟩:=Rx h2
  exact⟨⟨t,x⟩::l,its,by simp only[List.map_cons,ma,h1,h3,cj],h4⟩
 |some md::fs,c::cs,k,r,hx=>by
  simp only[uf] at hx
  obtain⟨it,t,x,h1,h2⟩:=akf hx
  obtain⟨l,its,h3,h4⟩:=Rx h2
  exact⟨⟨t,x⟩::l,(it,md)::its,by simp only[List.map_cons,ma,h1,h3,cj],h4⟩
 |none::fs,[],k,r,hx=>by simp[uf] at hx
 |some md::fs,[],k,r,hx=>by simp[uf] at hx
def Nt:Bool->K
 |true=>.agg
 |false=>.one
def II (h h0:Nat->Option SB):bo->List (Bool×List SC)->(List bR->List (c6×Mode)->Option ρ)->Option ρ
 |_,[],k=>k [] []
 |sig,(ag,cs)::as,k=>uf h h0 sig.hd cs fun l its=>II h h0 sig.tl as fun ds tO=>k ((Nt ag,l)::ds) (its++tO)
theorem Zd {h h0:Nat->Option SB}:∀{as:List (Bool×List SC)} {sig:bo} {k:List bR->List (c6×Mode)->Option ρ} {r:ρ},II h h0 sig as k=some r->
  ∃ds its,oB (cL h) (cL h0) sig (as.map fun x=>(x.1,x.2.map SC.er))=some (ds.map bR.er,its)/\k ds its=some r
 |[],sig,k,r,hx=>⟨[],[],by simp only[List.map_nil,oB],hx⟩
 |(ag,cs)::as,sig,k,r,hx=>by
  simp only[II] at hx
  obtain⟨l,its,h1,h2⟩:=Rx hx
  obtain⟨ds,tO,h3,h4⟩:=Zd h2
  refine⟨_,_,?_,h4⟩
  simp only[List.map_cons,oB,h1,h3,bR.er]
  cases ag<;>rfl
def D4:List SV->Option (List (Bool×List SC))
 |[]=>some []
 |v::vs=>match v.cells?,D4 vs with
  |some x,some xs=>some (x::xs)
  |_,_=>none
theorem Y9:∀{as:List SV} {fh:List (Bool×List SC)},D4 as=some fh->vI (as.map SV.er)=some (fh.map fun x=>(x.1,x.2.map SC.er))
 |[],fh,h=>by simp only[D4] at h;injection h with h;subst h;rfl
 |v::vs,fh,h=>by
  simp only[D4] at h
  split at h
  ·rename_i x xs e1 e2
   injection h with h
   subst h
   obtain⟨b,cs⟩:=x
   simp only[List.map_cons,vI,SV.lI e1,Y9 e2]
  ·cases h
def IC (ts:List Ty) (e:Ty.DL ts) (off:Nat) (x:TD):Option (Ty.DL ts):=pH ts ((Ty.gy ts e).set off x)
theorem YY {ts:List Ty} {e e':Ty.DL ts} {off:Nat} {x:TD} (h:IC ts e off x=some e'):Ty.aD ts e'=(Ty.aD ts e).set off (x.1.er x.2):=by
 have:=vL h
 rw[this,cj,List.map_set,<-Ty.oY ts e]
 rfl
def RJ (σ:ah) (it:c6) (x:TD) (k:ah->Option ρ):Option ρ:=
 match it with
 |.nil _=>k σ
 |.row n=>match x with
  |⟨.list ts,xs⟩=>match σ.h n with
   |some (.row gr m us _)=>cE us.length ts.length (k (σ.dd n (.row gr m ts xs)))
   |_=>none
  |_=>none
 |.nest n kk off=>match σ.h n with
  |some (.row gr m us xs)=>(gA xs kk).ab fun e=>match IC us e off x with
   |some e'=>k (σ.dd n (.row gr m us (db xs kk e')))
   |none=>none
  |_=>none
theorem akn {σ:ah} {it:c6} {x:TD} {k:ah->Option ρ} {r:ρ} (hx:RJ σ it x k=some r):∃σ1,σ.er.mT it (x.1.er x.2)=some σ1.er/\k σ1=some r:=by
 unfold RJ at hx
 split at hx
 ·exact⟨σ,rfl,hx⟩
 ·rename_i n
  split at hx
  ·rename_i ts xs
   split at hx
   ·rename_i gr m us ys hn
    have bq:=(aW hx).1;replace hx:=(aW hx).2
    refine⟨_,?_,hx⟩
    have bk:σ.er.h n=some (.row gr m us.length (List.map (Ty.aD us) ys)):=by simp[ah.er,cL,hn,SB.er]
    simp only[St.mT,Ty.er,bk,bq,if_true,ah.nY,SB.er]
   ·cases hx
  ·cases hx
 ·rename_i n kk off
  split at hx
  ·rename_i gr m us xs hn
   rw[eN] at hx
   obtain⟨e,he,hx⟩:=hx
   replace he:xs[kk]? =some e:=he
   split at hx
   ·rename_i e' hs
    refine⟨_,?_,hx⟩
    have bk:σ.er.h n=some (.row gr m us.length (List.map (Ty.aD us) xs)):=by simp[ah.er,cL,hn,SB.er]
    simp only[St.mT,bk,List.getElem?_map,he,Option.map_some,ah.nY,SB.er,db,List.map_set,YY hs]
   ·cases hx
  ·cases hx
def Bp (σ:ah):List (c6×Mode)->List TD->(ah->Option ρ)->Option ρ
 |[],[],k=>k σ
 |it::its,x::xs,k=>RJ σ it.1 x fun σ1=>Bp σ1 its xs k
 |_,_,_=>none
theorem Zm:∀{its:List (c6×Mode)} {xs:List TD} {σ:ah} {k:ah->Option ρ} {r:ρ},Bp σ its xs k=some r->∃σ1,σ.er.oG its (cj xs)=some σ1.er/\k σ1=some r
 |[],[],σ,k,r,hx=>⟨σ,rfl,hx⟩
 |it::its,x::xs,σ,k,r,hx=>by
  simp only[Bp] at hx
  obtain⟨σ1,h1,h2⟩:=akn hx
  obtain⟨σ2,h3,h4⟩:=Zm h2
  refine⟨σ2,?_,h4⟩
  simp only[cj] at h3
  simp only[cj,List.map_cons,St.oG,h1,h3]
 |[],_::_,σ,k,r,hx=>by simp[Bp] at hx
 |_::_,[],σ,k,r,hx=>by simp[Bp] at hx
def H8:List Nat->Bool
 |[]=>true
 |n::l=> !(l.contains n)&&H8 l
theorem XX:∀{l:List Nat},H8 l=true->l.Nodup
 |[],_=>List.nodup_nil
 |n::l,h=>by
  simp only[H8,Bool.and_eq_true,Bool.not_eq_true'] at h
  rw[List.nodup_cons]
  refine⟨fun hm=>?_,XX h.2⟩
  have:l.contains n=true:=by simpa using hm
  rw[this] at h
  cases h.1
def Rl (T:List aJ) (m:Mode) (d:Option Nat) (f:FuncId) (as:List SV) (σ:ah) (k:ah->Option ρ):Option ρ:=
 match aJ.find T f with
 |some fn=>match fn.mu.ii with
  |1=>match D4 as with
   |some fh=>eB (H8 (D5 fn.mu fh)) (II σ.h (Rq σ.h (D5 fn.mu fh)) fn.mu fh fun ds its=>match pI fn.args ds with
    |some x=>(fn.F x).ab fun y=>Bp σ its (((nf fn.aH y).drop (fn.aH.length - fn.mu.nd)).flatMap (·.2)) fun σ1=>match Bk m σ1 (yj d) ((nf fn.aH y).take (fn.aH.length - fn.mu.nd)) with
     |some (ls,σ2)=>k (σ2.put d (D9 ls))
     |none=>none
    |none=>none)
   |none=>none
  |_=>none
 |none=>none
theorem IL (k:Nat) (l:List bR):wc k (l.map bR.er)=((l.take k).map bR.er,cj ((l.drop k).flatMap (·.2))):=by
 simp only[wc,<-List.map_take,<-List.map_drop]
 congr 1
 induction l.drop k with
 |nil=>rfl
 |cons d l ih=>
  simp only[List.map_cons,List.flatMap_cons,ih,cj,List.map_append,bR.er]
theorem ajU {T:List aJ} {m:Mode} {d:Option Nat} {f:FuncId} {as:List SV} {σ:ah} {k:ah->Option ρ} {r:ρ} (h:Rl T m d f as σ k=some r):
  ∃σ1:ah,tc (de T) m d f (as.map SV.er) σ.er=some σ1.er/\k σ1=some r:=by
 unfold Rl at h
 split at h
 ·rename_i fn hf
  split at h
  ·rename_i qD
   split at h
   ·rename_i fh hc
    have fL:=XX (bX h).1;replace h:=(bX h).2
    obtain⟨ds,its,h1,h2⟩:=Zd h
    split at h2
    ·rename_i x hx
     rw[eN] at h2
     obtain⟨y,hF,h2⟩:=h2
     obtain⟨σ1,h3,h4⟩:=Zm h2
     split at h4
     ·rename_i ls σ2 hs
      refine⟨_,?_,h4⟩
      have e:=Rr m hs
      have hM:fn.MM (cQ fn.args x)=some (((nf fn.aH y).take (fn.aH.length - fn.mu.nd)).map bR.er,cj (((nf fn.aH y).drop (fn.aH.length - fn.mu.nd)).flatMap (·.2))):=by
       unfold aJ.MM
       rw[aJ.BO,hF]
       simp only[Option.map_some]
       rw[<-zt,IL]
      have hh:σ.er.h=cL σ.h:=rfl
      rw[aj4] at h1
      simp only[tc,aJ.UD hf qD,Y9 hc,Zc,if_pos fL,hh,h1,vK hx,hM,h3,e,ah.di,IM]
     ·cases h4
    ·cases h2
   ·cases h
  ·cases h
 ·cases h
def yB:List SC->Option (List TD)
 |[]=>some []
 |.v t x::cs=>match yB cs with
  |some l=>some (⟨t,x⟩::l)
  |none=>none
 |.nil (t::us)::cs=>match yB cs with
  |some l=>some (⟨.list (t::us),([]:List (Ty.DL (t::us)))⟩::l)
  |none=>none
 |_::_=>none
theorem IF:∀{cs:List SC} {l:List TD},yB cs=some l->lV (cs.map SC.er)=some (cj l)
 |[],l,h=>by simp only[yB] at h;injection h with h;subst h;rfl
 |c::cs,l,h=>by
  unfold yB at h
  split at h
  ·rename_i e;cases e
  ·rename_i t x cs' e
   injection e with e1 e2
   subst e1 e2
   split at h
   ·rename_i l' e
    injection h with h
    subst h
    simp only[List.map_cons,lV,SC.er,tN,IF e,cj]
   ·cases h
  ·rename_i t us cs' e
   injection e with e1 e2
   subst e1 e2
   split at h
   ·rename_i l' e
    injection h with h
    subst h
    simp[lV,SC.er,tN,IF e,cj,Ty.er]
   ·cases h
  ·cases h
def Ix (h:Nat->Option SB) (n kk off:Nat):Option (List TD):=
 match kk,off with
 |0,0=>match h n with
  |some (.box cs)=>yB cs
  |_=>none
 |_,_=>none
theorem YQ {h:Nat->Option SB} {n kk sz off:Nat} {l:List TD} (e:Ix h n kk off=some l):mr (cL h) (SV.er (.one (.ptr n kk sz off)))=some (n,cj l):=by
 unfold Ix at e
 split at e
 ·split at e
  ·rename_i cs hn
   simp[SV.er,SC.er,mr,cL,hn,SB.er,IF e]
  ·cases e
 ·cases e
def SV.oF:SV->Option (Nat×Nat×Nat)
 |.one (.ptr n kk _ off)=>some (n,kk,off)
 |_=>none
theorem Yk {v:SV} (h:v.oF=none) (hh:Nat->Option aq):mr hh v.er=none:=by
 cases v with
 |one c=>cases c<;>first|rfl|(simp[SV.oF] at h)
 |agg cs=>rfl
 |bn xs=>rfl
theorem Yl {v:SV} {n kk off:Nat} (h:v.oF=some (n,kk,off)):∃sz,v=.one (.ptr n kk sz off):=by
 cases v with
 |one c=>cases c<;>simp[SV.oF] at h;obtain⟨rfl,rfl,rfl⟩:=h;exact⟨_,rfl⟩
 |agg cs=>simp[SV.oF] at h
 |bn xs=>simp[SV.oF] at h
def DV (σ:ah):List SV->(List bR->List Nat->ah->Option ρ)->Option ρ
 |[],k=>k [] [] σ
 |v::vs,k=>match v.oF with
  |some (n,kk,off)=>match Ix σ.h n kk off with
   |some l=>DV σ vs fun ds ns σ1=>k ((.ptr,l)::ds) (n::ns) σ1
   |none=>none
  |none=>match v.cells? with
   |some (ag,cs)=>yI σ cs fun l _ σ1=>DV σ1 vs fun ds ns σ2=>k ((Nt ag,l)::ds) ns σ2
   |none=>none
theorem QB:∀{vs:List SV} {σ:ah} {k:List bR->List Nat->ah->Option ρ} {r:ρ},DV σ vs k=some r->
  ∃ds ns σ1,σ.er.gV (vs.map SV.er)=some (ds.map bR.er,ns,σ1.er)/\k ds ns σ1=some r
 |[],σ,k,r,h=>⟨[],[],σ,rfl,h⟩
 |v::vs,σ,k,r,h=>by
  simp only[DV] at h
  split at h
  ·rename_i n kk off hv
   obtain⟨sz,rfl⟩:=Yl hv
   split at h
   ·rename_i l hl
    obtain⟨ds,ns,σ1,h1,h2⟩:=QB h
    refine⟨_,_,σ1,?_,h2⟩
    have:=YQ (sz:=sz) hl
    have hh:σ.er.h=cL σ.h:=rfl
    simp only[List.map_cons,St.gV,hh,this,h1,bR.er]
   ·cases h
  ·rename_i hv
   split at h
   ·rename_i ag cs hc
    obtain⟨l,o,σ1,h1,h2⟩:=Ee h
    obtain⟨ds,ns,σ2,h3,h4⟩:=QB h2
    refine⟨_,_,σ2,?_,h4⟩
    simp only[List.map_cons,St.gV,Yk hv,SV.lI hc,h1,h3,bR.er]
    cases ag<;>rfl
   ·cases h
def RH (σ:ah) (ns:List Nat) (out:List TD) (k:ah->Option ρ):Option ρ:=
 match ns,out with
 |[],[]=>k σ
 |[n],out=>match σ.h n with
  |some (.box cs)=>cE cs.length out.length (k (σ.dd n (.box (out.map fun x=>.v x.1 x.2))))
  |_=>none
 |_,_=>none
theorem Jd (out:List TD):(out.map fun x=>SC.v x.1 x.2).map SC.er=(cj out).map .c:=by simp[cj,SC.er]
theorem akm {σ:ah} {ns:List Nat} {out:List TD} {k:ah->Option ρ} {r:ρ} (h:RH σ ns out k=some r):∃σ1,σ.er.qU ns (cj out)=some σ1.er/\k σ1=some r:=by
 unfold RH at h
 split at h
 ·exact⟨σ,rfl,h⟩
 ·rename_i n
  split at h
  ·rename_i cs hn
   have he:=(aW h).1;replace h:=(aW h).2
   refine⟨_,?_,h⟩
   have bk:σ.er.h n=some (.box (cs.map SC.er)):=by simp[ah.er,cL,hn,SB.er]
   simp only[St.qU,bk,List.length_map]
   rw[if_pos (by rw[he,cj,List.length_map]),ah.nY,SB.er,Jd]
  ·cases h
 ·cases h
def bR.oF:List bR->Option (List TD)
 |[(.ptr,cs)]=>some cs
 |_=>none
theorem ajV {rs:List bR} {cs:List TD} (h:bR.oF rs=some cs):rs=[(.ptr,cs)]:=by
 unfold bR.oF at h
 split at h
 ·injection h with h;rw[h]
 ·cases h
def QC (σ:ah) (d:Option Nat) (rs:List bR) (k:ah->Option ρ):Option ρ:=
 match bR.oF rs with
 |some cs=>match d with
  |some q=>match σ.ins q (.box (cs.map fun x=>.v x.1 x.2)) with
   |some σ1=>k (σ1.put d (.one (.ptr q 0 0 0)))
   |none=>none
  |none=>none
 |none=>match Bh rs with
  |some ls=>k (σ.put d (D9 ls))
  |none=>none
theorem ajK {σ:ah} {d:Option Nat} {rs:List bR} {k:ah->Option ρ} {r:ρ} (h:QC σ d rs k=some r):∃σ1,qi σ.er d (rs.map bR.er)=some σ1.er/\k σ1=some r:=by
 unfold QC at h
 split at h
 ·rename_i cs hp
  have:=ajV hp
  subst this
  split at h
  ·rename_i q
   split at h
   ·rename_i σ1 hi
    refine⟨_,?_,h⟩
    have e:=ah.rI hi
    rw[SB.er,Jd] at e
    simp only[List.map_cons,List.map_nil,bR.er,qi,e,ah.di]
    rfl
   ·cases h
  ·cases h
 ·split at h
  ·rename_i ls hs
   refine⟨_,?_,h⟩
   have e:=Ri hs
   have hb:qi σ.er d (rs.map bR.er)=match gz (rs.map bR.er) with
     |some ls=>some (σ.er.put d (lC ls))
     |none=>none:=by
    unfold qi
    split
    ·rename_i cs he
     rw[he] at e
     simp[gz] at e
    ·rfl
   rw[hb,e,ah.di,IM]
  ·cases h
def Rj (T:List aJ) (d:Option Nat) (f:FuncId) (as:List SV) (σ:ah) (k:ah->Option ρ):Option ρ:=
 match aJ.find T f with
 |some fn=>match fn.mu.ii with
  |2=>DV σ as fun ds ns σ1=>match pI fn.args ds with
   |some x=>(fn.F x).ab fun y=>RH σ1 ns (((nf fn.aH y).drop (fn.aH.length - sx fn.args)).flatMap (·.2)) fun σ2=>QC σ2 d ((nf fn.aH y).take (fn.aH.length - sx fn.args)) k
   |none=>none
  |_=>none
 |none=>none
theorem ajS {T:List aJ} {d:Option Nat} {f:FuncId} {as:List SV} {σ:ah} {k:ah->Option ρ} {r:ρ} (h:Rj T d f as σ k=some r):
  ∃σ1:ah,rG (de T) d f (as.map SV.er) σ.er=some σ1.er/\k σ1=some r:=by
 unfold Rj at h
 split at h
 ·rename_i fn hf
  split at h
  ·rename_i qD
   obtain⟨ds,ns,σ1,h1,h2⟩:=QB h
   split at h2
   ·rename_i x hx
    rw[eN] at h2
    obtain⟨y,hF,h2⟩:=h2
    obtain⟨σ2,h3,h4⟩:=akm h2
    obtain⟨gj,h5,h6⟩:=ajK h4
    refine⟨gj,?_,h6⟩
    have hM:fn.MV (cQ fn.args x)=some (((nf fn.aH y).take (fn.aH.length - sx fn.args)).map bR.er,cj (((nf fn.aH y).drop (fn.aH.length - sx fn.args)).flatMap (·.2))):=by
     unfold aJ.MV
     rw[aJ.BO,hF]
     simp only[Option.map_some]
     rw[<-zt,IL]
    simp only[rG,h1,aJ.UE hf qD,vK hx,hM,h3,h5]
   ·cases h2
  ·cases h
 ·cases h
def Rp (σ:ah) (p:SC) (k:ah->Option ρ):Option ρ:=
 match p with
 |.ptr n _ _ _=>match σ.h n with
  |some (.box cs)=>yI σ cs fun l _ σ1=>k (σ1.dd n (.box (l.map fun x=>.v x.1 x.2)))
  |_=>none
 |_=>none
theorem aj0 {σ:ah} {p:SC} {k:ah->Option ρ} {r:ρ} (h:Rp σ p k=some r):∃σ1,σ.er.pf p.er=some σ1.er/\k σ1=some r:=by
 unfold Rp at h
 split at h
 ·rename_i n kk sz off
  split at h
  ·rename_i cs hn
   obtain⟨l,o,σ1,h1,h2⟩:=Ee h
   refine⟨_,?_,h2⟩
   have bk:σ.er.h n=some (.box (cs.map SC.er)):=by simp[ah.er,cL,hn,SB.er]
   simp only[SC.er,St.pf,bk,h1]
   rw[ah.nY,SB.er,Jd]
  ·cases h
 ·cases h
inductive cC where
 |mv (x:cB)
 |pick (c x y:cB)
 |alloc (zs:List SC)
 |box (sz:Nat) (x:cB)
 |build (zs:List SC) (parts:List (Nat×Nat×cB))
 |fg (ts:List Ty) (parts:List cB)
 |load (ag:Bool) (sz:Nat) (x:cB)
 |store (sz:Nat) (x v:cB)
 |ga (x:cB)
 |bin (op:BinOp) (x y:cB)
 |nV (op:BinOp) (x y:cB)
 |un (op:UnOp) (x:cB)
 |conv (k:IntKind) (x:cB)
 |mb (m:Mode) (ts:List Ty) (by_:Nat) (z:Ty.DL ts) (l c:cB)
 |slice (sz:Nat) (x:cB) (lo hi:Option cB)
 |tail (sz:Nat) (x lo:cB)
 |mQ (ag:Bool) (sz:Nat) (x:cB)
 |aB (off:Nat) (x:cB)
 |dZ (sz:Nat) (x i:cB)
 |ext (i:Nat) (x:cB)
 |kj (ag:Bool) (off sz:Nat) (x:cB)
 |kE (f:FuncId) (bD:Bool) (x:cB)
 |len (x:cB)
 |append (fl:Bool) (ts:List Ty) (by_:Nat) (x y:cB)
 |mm (mx:Bool) (x y:cB)
 |call (m:Mode) (f:FuncId) (xs:List cB)
 |lG (f:FuncId) (xs:List cB)
 |copy (x y:cB)
 |ki (t:Ty) (z:t.D) (x:cB)
 |oA (f:FuncId) (xs:List cB)
 |lH (m:Mode) (x:cB) (xs:List cB)
 |fT (m:Mode) (f:FuncId) (xs:List cB)
 |dn (f:FuncId) (xs:List cB)
def cC.er:cC->aC
 |.mv x=>.mv x.er
 |.pick c x y=>.pick c.er x.er y.er
 |.alloc zs=>.alloc (zs.map SC.er)
 |.box sz x=>.box sz x.er
 |.build zs ps=>.build (zs.map SC.er) (ps.map fun p=>(p.1,p.2.1,p.2.2.er))
 |.fg ts ps=>.fg ts.length (ps.map cB.er)
 |.load ag sz x=>.load ag sz x.er
 |.mQ ag sz x=>.mQ ag sz x.er
 |.store sz x v=>.store sz x.er v.er
 |.ga x=>.ga x.er
 |.bin op x y=>.bin op x.er y.er
 |.nV op x y=>.nV op x.er y.er
 |.un op x=>.un op x.er
 |.conv k x=>.conv k x.er
 |.mb m ts by_ z l c=>.mb m ts.length by_ (Ty.aD ts z) l.er c.er
 |.slice sz x lo hi=>.slice sz x.er (lo.map cB.er) (hi.map cB.er)
 |.tail sz x lo=>.tail sz x.er lo.er
 |.aB off x=>.aB off x.er
 |.dZ sz x i=>.dZ sz x.er i.er
 |.ext i x=>.ext i x.er
 |.kj ag off sz x=>.kj ag off sz x.er
 |.kE f bD x=>.kE f bD x.er
 |.len x=>.len x.er
 |.append fl ts by_ x y=>.append fl ts.length by_ x.er y.er
 |.mm b x y=>.mm b x.er y.er
 |.call m f xs=>.call m f (xs.map cB.er)
 |.lG f xs=>.lG f (xs.map cB.er)
 |.copy x y=>.copy 1 x.er y.er
 |.ki t z x=>.ki (t.er z) x.er
 |.oA f xs=>.oA f (xs.map cB.er)
 |.lH m x xs=>.lH m x.er (xs.map cB.er)
 |.fT m f xs=>.fT m f (xs.map cB.er)
 |.dn f xs=>.dn f (xs.map cB.er)
theorem xc (σ:ah) (xs:List cB):(xs.map cB.er).map σ.er.ev=(xs.map σ.ev).map SV.er:=by
 simp[ah.c9]
def Ed (ev:cB->SV):List SC->List (Nat×Nat×cB)->Option (List SC)
 |zs,[]=>some zs
 |zs,(off,sz,x)::ps=>match(ev x).cells? with
  |some (_,cs)=>cE cs.length sz (eB (Nat.ble (off+sz) zs.length) (Ed ev (bW zs off cs) ps))
  |none=>none
theorem Zx {σ:ah}:∀{ps:List (Nat×Nat×cB)} {zs cs:List SC},Ed σ.ev zs ps=some cs->
  oL σ.er.ev (zs.map SC.er) (ps.map fun p=>(p.1,p.2.1,p.2.2.er))=some (cs.map SC.er)
 |[],zs,cs,h=>by simp only[Ed] at h;injection h with h;subst h;rfl
 |(off,sz,x)::ps,zs,cs,h=>by
  simp only[Ed] at h
  split at h
  ·rename_i b TS hc
   have bq:=(aW h).1;replace h:=(aW h).2;subst bq
   have hb:=(bX h).1;replace h:=(bX h).2
   have ih:=Zx h
   rw[Bo] at ih
   have gE:=Nat.le_of_ble_eq_true hb
   simp only[List.map_cons,oL,ah.c9,SV.lI hc,List.length_map,gE,and_self,if_true,ih]
  ·cases h
def Iy (l:List TD):Bool:=l.all fun x=>x.1.dT
theorem ajL (l:List TD):eW (cj l)=Iy l:=by
 simp[eW,cj,Iy,List.all_map,Function.comp_def,Ty.v8]
def RY (σ:ah) (n:Nat) (gr:Bool) (m:Mode) (ts:List Ty) (xs:List (Ty.DL ts)) (kk off:Nat) (e:Ty.DL ts) (vs:List SC) (k:ah->Option ρ):Option ρ:=
 match sub (Ty.gy ts e) off vs.length with
 |none=>none
 |some eR=>yI σ vs fun cs o σ1=>match pH ts (bW (Ty.gy ts e) off cs) with
  |none=>none
  |some e'=>match m with
   |.live=>eB (Iy cs&&Iy eR&&(σ1.h n).isSome) (k (σ1.dd n (.row gr .live ts (db xs kk e'))))
   |.ae=>eB (σ1.h n).isSome (k (σ1.dd n (.row gr (match o with|true=>.ae|false=>.aA) ts (db xs kk e'))))
   |.aA=>eB (σ1.h n).isSome (k (σ1.dd n (.row gr .aA ts (db xs kk e'))))
theorem Uf (h:Nat->Option SB) (n:Nat):(cL h n).isSome=(h n).isSome:=by
 unfold cL;cases h n<;>rfl
theorem aks {σ:ah} {n:Nat} {gr:Bool} {m:Mode} {ts:List Ty} {xs:List (Ty.DL ts)} {kk off:Nat} {e:Ty.DL ts} {vs:List SC} {k:ah->Option ρ} {r:ρ}
  (h:RY σ n gr m ts xs kk off e vs k=some r):
  ∃σ1:ah,mn σ.er n gr m ts.length (List.map (Ty.aD ts) xs) kk off (Ty.aD ts e) (vs.map SC.er)=some σ1.er/\k σ1=some r:=by
 unfold RY at h
 split at h
 ·cases h
 ·rename_i eR ho
  obtain⟨cs,o,σ1,h1,h2⟩:=Ee h
  have hold:sub (Ty.aD ts e) off (vs.map SC.er).length=some (cj eR):=by
   rw[<-Ty.oY]
   simp only[cj]
   rw[sJ,List.length_map,ho]
   rfl
  split at h2
  ·cases h2
  ·rename_i e' he
   have xJ:bW (Ty.aD ts e) off (cj cs)=Ty.aD ts e':=by
    rw[vL he,<-Ty.oY]
    simp only[cj]
    rw[<-Bo]
   have zU:(List.map (Ty.aD ts) xs).set kk (Ty.aD ts e')=List.map (Ty.aD ts) (db xs kk e'):=by
    show _=List.map (Ty.aD ts) (xs.set kk e')
    rw[List.map_set]
   have zV:σ1.er.h n=(σ1.h n).map SB.er:=rfl
   split at h2
   ·have hb:=(bX h2).1;replace h2:=(bX h2).2
    simp only[Bool.and_eq_true] at hb
    refine⟨_,?_,h2⟩
    simp only[mn,hold,h1,if_true,ajL,hb.1.1,hb.1.2,zV,Option.isSome_map,hb.2,and_self,xJ,zU,ah.nY,SB.er]
   ·have hb:=(bX h2).1;replace h2:=(bX h2).2
    refine⟨_,?_,h2⟩
    cases o<;>simp only[mn,hold,h1,zV,Option.isSome_map,hb,xJ,zU,ah.nY,SB.er,reduceCtorEq,if_false,if_true,Bool.false_eq_true,cond_true,cond_false,ite_self]
   ·have hb:=(bX h2).1;replace h2:=(bX h2).2
    refine⟨_,?_,h2⟩
    cases o<;>simp only[mn,hold,h1,zV,Option.isSome_map,hb,xJ,zU,ah.nY,SB.er,reduceCtorEq,if_false,if_true,Bool.false_eq_true,cond_true,cond_false,ite_self]
def uM (us ts:List Ty) (xs:List (Ty.DL us)):Option (List (Ty.DL ts)):=if h:Ty.qk us ts=true then some (Ty.rz h▸xs) else none
theorem Ka {us ts:List Ty} {xs:List (Ty.DL us)} {ys:List (Ty.DL ts)} (h:uM us ts xs=some ys):us.length=ts.length/\List.map (Ty.aD us) xs=List.map (Ty.aD ts) ys/\xs.length=ys.length:=by
 unfold uM at h
 split at h
 ·rename_i he
  have:=Ty.rz he
  subst this
  injection h with h
  rw[<-h]
  exact⟨rfl,rfl,rfl⟩
 ·cases h
def Qz (σ:ah) (ts:List Ty) (v:SV) (k:List (Ty.DL ts)->Mode->ah->Option ρ):Option ρ:=
 match v with
 |.one (.nil _)=>k [] .ae σ
 |.one (.sl a s lo len)=>match σ.h a with
  |some (.row true m us xs)=>cE s ts.length (cE lo 0 (match uM us ts xs with
   |some ys=>(af lo len (aa ys)).ab fun _=>k ys m (σ.del a)
   |none=>none))
  |_=>none
 |_=>none
theorem Lj {lo len l:Nat} {u:Unit} (h:af lo len l=some u):lo=0/\len=l:=by
 unfold af at h
 split at h
 ·rename_i hc;exact hc
 ·cases h
theorem ajI {σ:ah} {ts:List Ty} {v:SV} {k:List (Ty.DL ts)->Mode->ah->Option ρ} {r:ρ} (h:Qz σ ts v k=some r):
  ∃(xs:List (Ty.DL ts)) (m:Mode) (σ1:ah),oU σ.er ts.length v.er=some (List.map (Ty.aD ts) xs,m,σ1.er)/\k xs m σ1=some r:=by
 unfold Qz at h
 split at h
 ·exact⟨[],.ae,σ,rfl,h⟩
 ·rename_i a s lo len
  split at h
  ·rename_i m us xs hn
   have bq:=(aW h).1;replace h:=(aW h).2;subst bq
   have bq:=(aW h).1;replace h:=(aW h).2;subst bq
   split at h
   ·rename_i ys hc
    obtain⟨c1,c2,c3⟩:=Ka hc
    rw[eN] at h
    obtain⟨_,hf,h⟩:=h
    obtain⟨_,hlen⟩:=Lj hf
    replace hlen:len=ys.length:=hlen
    refine⟨ys,m,σ.del a,?_,h⟩
    have bk:σ.er.h a=some (.row true m ts.length (List.map (Ty.aD ts) ys)):=by simp[ah.er,cL,hn,SB.er,c1,c2]
    subst hlen
    simp only[SV.er,SC.er,oU,bk,List.length_map,and_self,if_true,ah.Gq]
   ·cases h
  ·cases h
 ·cases h
theorem YR (ts:List Ty) (xs:List (Ty.DL ts)) (h:Ty.eW ts=true):fB (List.map (Ty.aD ts) xs)=true:=by
 simp only[fB,List.all_eq_true,List.mem_map]
 rintro _ ⟨e,_,rfl⟩
 rw[Ty.Iz]
 exact h
def QA (fl:Bool) (σ:ah) (ts:List Ty) (m:Mode) (v:SV) (k:List (Ty.DL ts)->Mode->ah->Option ρ):Option ρ:=
 match v with
 |.one (.nil _)=>k [] m σ
 |.one (.v (.list us) ys)=>match uM us ts ys with
  |some zs=>match fl with
   |true=>eB (Ty.eW ts) (k zs m σ)
   |false=>match m with
    |.live=>none
    |_=>k zs .aA σ
  |none=>none
 |.one (.sl b s lo len)=>match σ.h b with
  |some (.row _ m' us ys)=>cE s ts.length (match uM us ts ys with
   |some zs=>match fl with
    |true=>eB (Ty.eW ts) ((cv zs lo len).ab fun ws=>k ws m σ)
    |false=>(af lo len (aa zs)).ab fun _=>match m,m' with
     |.ae,.ae=>k zs .ae (σ.del b)
     |.live,.live=>k zs .live (σ.del b)
     |.aA,.aA=>k zs .aA (σ.del b)
     |.ae,.aA=>k zs .aA (σ.del b)
     |.aA,.ae=>k zs .aA (σ.del b)
     |_,_=>none
   |none=>none)
  |_=>none
 |_=>none
theorem ajJ {fl:Bool} {σ:ah} {ts:List Ty} {m:Mode} {v:SV} {k:List (Ty.DL ts)->Mode->ah->Option ρ} {r:ρ} (h:QA fl σ ts m v k=some r):
  ∃(ys:List (Ty.DL ts)) (m2:Mode) (σ1:ah),kQ fl σ.er ts.length m v.er=some (List.map (Ty.aD ts) ys,m2,σ1.er)/\k ys m2 σ1=some r:=by
 unfold QA at h
 split at h
 ·exact⟨[],m,σ,rfl,h⟩
 ·rename_i us ys
  split at h
  ·rename_i zs hc
   obtain⟨e1,e2,e3⟩:=Ka hc
   have uO:Ty.er (.list us) ys=.list ts.length (List.map (Ty.aD ts) zs):=by rw[<-e1,<-e2];rfl
   split at h
   ·have hs:=(bX h).1;replace h:=(bX h).2
    refine⟨zs,m,σ,?_,h⟩
    simp only[SV.er,SC.er,uO,kQ,if_true,Bool.true_and,YR ts zs hs]
   ·split at h
    ·cases h
    ·rename_i hm
     refine⟨zs,.aA,σ,?_,h⟩
     have bI:m≠ .live:=fun e=>hm e
     simp only[SV.er,SC.er,uO,kQ,if_true,Bool.false_and,Bool.false_eq_true,if_false,if_neg bI]
  ·cases h
 ·rename_i b s lo len
  split at h
  ·rename_i gr m' us ys hn
   have bq:=(aW h).1;replace h:=(aW h).2;subst bq
   split at h
   ·rename_i zs hc
    obtain⟨e1,e2,e3⟩:=Ka hc
    have bk:σ.er.h b=some (.row gr m' ts.length (List.map (Ty.aD ts) zs)):=by simp[ah.er,cL,hn,SB.er,e1,e2]
    split at h
    ·have hs:=(bX h).1;replace h:=(bX h).2
     rw[eN] at h
     obtain⟨ws,hw,h⟩:=h
     obtain⟨w1,w2⟩:=Z6 hw
     refine⟨ws,m,σ,?_,h⟩
     simp only[SV.er,SC.er,kQ,bk,List.length_map,w1,w2,and_self,if_true,Bool.true_and,YR ts ws hs]
    ·rw[eN] at h
     obtain⟨_,hf,h⟩:=h
     obtain⟨rfl,hlen⟩:=Lj hf
     replace hlen:len=zs.length:=hlen
     subst hlen
     have zY:List.take zs.length (List.map (Ty.aD ts) zs)=List.map (Ty.aD ts) zs:=by
      rw[List.take_of_length_le];simp
     cases m<;>cases m'<;>first
      |(cases h;done)
      |exact⟨zs,_,σ.del b,by simp[SV.er,SC.er,kQ,bk,ah.Gq],h⟩
   ·cases h
  ·cases h
 ·cases h
def SC.UQ:SC->Bool
 |.fn _ _=>false
 |.bf=>false
 |_=>true
def yF:List SV->Option (List SC)
 |[]=>some []
 |.one c::vs=>match c.UQ,yF vs with
  |true,some cs=>some (c::cs)
  |_,_=>none
 |_::_=>none
theorem Zb:∀{vs:List SV} {cs:List SC},yF vs=some cs->
  (vs.map SV.er).mapM (fun v=>match v with|.one c=>if c.kx=true then none else some c|_=>none)=some (cs.map SC.er)/\(cs.map SC.er).all ai.DC=true
 |[],cs,h=>by simp only[yF] at h;injection h with h;subst h;exact⟨rfl,rfl⟩
 |.one c::vs,cs,h=>by
  simp only[yF] at h
  split at h
  ·rename_i cs' e1 e2
   injection h with h
   subst h
   obtain⟨i1,i2⟩:=Zb e2
   have hc:c.er.kx=false/\c.er.DC=true:=by cases c<;>first|exact⟨rfl,rfl⟩|(simp[SC.UQ] at e1)
   refine⟨?_,by simp[hc.2];simpa using i2⟩
   simp only[List.map_cons,List.mapM_cons,SV.er,hc.1]
   rw[i1]
   rfl
  ·cases h
 |.agg _::_,cs,h=>by simp[yF] at h
 |.bn _::_,cs,h=>by simp[yF] at h
end
end Go.Am
