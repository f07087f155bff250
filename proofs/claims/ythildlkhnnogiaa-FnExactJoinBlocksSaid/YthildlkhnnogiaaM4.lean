/- S3, S4, S4c, S5, S6, AmY, AmZ, S7, MB, B0, B1, B2, MT, Mx, M1, M4: parts of the proof. No condition. -/
import Derived.Test.YthildlkhnnogiaaS2
import Derived.Laws.BitsLemmas
set_option linter.unusedVariables false
set_option linter.unusedSimpArgs false
set_option synthInstance.maxSize 1000
set_option synthInstance.maxHeartbeats 400000
namespace Go.Am
section
def aY:List (List Ty)->Type
 |[]=>Unit
 |ts::l=>match l with
  |[]=>Ty.DL ts
  |us::l'=>Ty.DL ts×aY (us::l')
abbrev ak:=List (K×List Ty)
abbrev ak.aX (s:ak):List (List Ty):=s.map (·.2)
def dB:(as:ak)->aY as.aX->List Dv
 |[],_=>[]
 |[a],x=>[(a.1,Ty.aE a.2 x)]
 |a::b::as,x=>(a.1,Ty.aE a.2 x.1)::dB (b::as) x.2
def ic:(as:ak)->aY as.aX->List ci
 |[],_=>[]
 |[a],x=>[(a.1,Ty.gO a.2 x)]
 |a::b::as,x=>(a.1,Ty.gO a.2 x.1)::ic (b::as) x.2
theorem tz:∀(as:ak) (x:aY as.aX),(ic as x).map ci.er=dB as x
 |[],_=>rfl
 |[a],x=>congrArg (fun l=>[((a.1,l):Dv)]) (Ty.pN a.2 x)
 |a::b::as,x=>by
  have:=tz (b::as) x.2;simp only[ic,dB,List.map_cons,ci.er,Ty.pN,this]
def K.beq:K->K->Bool
 |.one,.one=>true
 |.agg,.agg=>true
 |.ptr,.ptr=>true
 |_,_=>false
theorem K.beq_eq {a b:K} (h:K.beq a b=true):a=b:=by cases a<;>cases b<;>first|rfl|cases h
def KF (ts:List Ty):(l:List (List Ty))->Ty.DL ts->aY l->aY (ts::l)
 |[],x,_=>x
 |_::_,x,y=>(x,y)
theorem Yo (a:K×List Ty):∀(as:ak) (x:Ty.DL a.2) (y:aY (ak.aX as)),dB (a::as) (KF a.2 (ak.aX as) x y)=(a.1,Ty.aE a.2 x)::dB as y
 |[],_,_=>rfl
 |_::_,_,_=>rfl
def mR:(as:ak)->List ci->Option (aY as.aX)
 |[],[]=>some ()
 |a::as,d::ds=>eM (K.beq a.1 d.1) (match rn a.2 d.2,mR as ds with
  |some x,some y=>some (KF a.2 (ak.aX as) x y)
  |_,_=>none)
 |_,_=>none
theorem qg:∀{as:ak} {ds:List ci} {x:aY as.aX},mR as ds=some x->ds.map ci.er=dB as x
 |[],[],x,h=>rfl
 |a::as,d::ds,x,h=>by
  simp only[mR] at h;have h1:=(bZ h).1;replace h2:=(bZ h).2;split at h2
  ·rename_i y z e1 e2;injection h2 with h2;subst h2;rw[Yo,List.map_cons,qg e2,ci.er,<-K.beq_eq h1,<-xv e1]
  ·cases h2
 |[],_::_,x,h=>by simp[mR] at h
 |a::as,[],x,h=>by simp[mR] at h
mutual
theorem Ty.Ys:∀(t:Ty) (x y:t.D),t.er x=t.er y->x=y
 |.int k,x,y,h=>by simp only[Ty.er] at h;injection h
 |.bool,x,y,h=>by simp only[Ty.er] at h;injection h
 |.list ts,x,y,h=>by simp only[Ty.er] at h;injection h with _ h;exact Ty.Yr ts x y h
theorem Ty.Yr:∀(ts:List Ty) (xs ys:List (Ty.DL ts)),List.map (Ty.aE ts) xs=List.map (Ty.aE ts) ys->xs=ys
 |ts,[],[],h=>rfl
 |ts,x::xs,y::ys,h=>by
  simp only[List.map_cons,List.cons.injEq] at h;rw[Ty.KS ts x y h.1,Ty.Yr ts xs ys h.2]
 |ts,[],_::_,h=>by simp at h
 |ts,_::_,[],h=>by simp at h
theorem Ty.KS:∀(ts:List Ty) (x y:Ty.DL ts),Ty.aE ts x=Ty.aE ts y->x=y
 |[],x,y,h=>rfl
 |[t],x,y,h=>by simp only[Ty.aE,List.cons.injEq,and_true] at h;exact Ty.Ys t x y h
 |t::u::ts,x,y,h=>by
  simp only[Ty.aE,List.cons.injEq] at h;exact Prod.ext (Ty.Ys t x.1 y.1 h.1) (Ty.KS (u::ts) x.2 y.2 h.2)
end
theorem Yp:∀(as:ak) (x y:aY as.aX),dB as x=dB as y->x=y
 |[],x,y,h=>rfl
 |[a],x,y,h=>by simp[dB] at h;exact Ty.KS a.2 x y h
 |a::b::as,x,y,h=>by
  simp only[dB,List.cons.injEq,Prod.mk.injEq,true_and] at h;exact Prod.ext (Ty.KS a.2 x.1 y.1 h.1) (Yp (b::as) x.2 y.2 h.2)
structure au where
 id:FuncId
 args:ak
 mu:aK
 ax:ak
 F:aY args.aX->Option (aY ax.aX)
open Classical in
noncomputable def au.M (fn:au) (ds:List Dv):Option (List Dv):=
 if h:∃x,dB fn.args x=ds then(fn.F h.choose).map (dB fn.ax) else none
theorem au.uA (fn:au) (x:aY fn.args.aX):fn.M (dB fn.args x)=(fn.F x).map (dB fn.ax):=by
 have h:∃y,dB fn.args y=dB fn.args x:=⟨x,rfl⟩;unfold au.M;rw[dif_pos h,Yp _ _ _ h.choose_spec]
theorem au.FL {fn:au} {ds rs:List Dv} (h:fn.M ds=some rs):∃x y,ds=dB fn.args x/\fn.F x=some y/\rs=dB fn.ax y:=by
 unfold au.M at h;split at h
 ·rename_i e;rw[Option.map_eq_some_iff] at h;obtain⟨y,h1,h2⟩:=h;exact⟨_,y,e.choose_spec.symm,h1,h2.symm⟩
 ·cases h
def aK.cF:aK->Nat
 |[]=>0
 |s::l=>(s.filter Option.isSome).length+aK.cF l
def xQ (k:Nat) (rs:List Dv):List Dv×List C:=(rs.take k,(rs.drop k).flatMap (·.2))
noncomputable def au.MM (fn:au) (ds:List Dv):Option (List Dv×List C):=(fn.M ds).map (xQ (fn.ax.length - fn.mu.cF))
def aK.fx:aK->Nat
 |[]=>0
 |[[some .aJ]]=>2
 |[some .aJ,some .aJ]::_=>3
 |[some .aJ,some .aJ,some .aJ]::_=>4
 |[some .aJ,some .aJ,some .aJ,some .aJ]::_=>5
 |_=>1
def DF:ak->Bool
 |[]=>false
 |(.ptr,_)::_=>true
 |_::as=>DF as
def rq (as:ak):Nat:=match DF as with
 |true=>1
 |false=>0
noncomputable def au.MV (fn:au) (ds:List Dv):Option (List Dv×List C):=(fn.M ds).map (xQ (fn.ax.length - rq fn.args))
def WB:List Dv->Option (Nat×Nat)
 |[(.one,[.int _ a]),(.one,[.int _ b])]=>some (a.toNat,(b - a).toNat)
 |_=>none
noncomputable def au.MW (fn:au) (ds:List Dv):Option (Nat×Nat):=(fn.M ds).bind WB
def aK.pF (s:aK):Nat:=s.length - 2
noncomputable def au.MX (fn:au) (ds:List Dv):Option (List Dv×List C):=(fn.M ds).map (xQ (fn.ax.length - 1))
noncomputable def cM (T:List au):aQ:=
 ⟨T.filterMap fun fn=>match fn.mu.fx with|0=>some (fn.id,fn.M)|_=>none,T.filterMap fun fn=>match fn.mu.fx with|1=>some (fn.id,fn.mu,fn.MM)|_=>none,
  T.filterMap fun fn=>match fn.mu.fx with|2=>some (fn.id,fn.MV)|_=>none,T.filterMap fun fn=>match fn.mu.fx with|3=>some (fn.id,fn.mu.tl,fn.MW)|_=>none,
  T.filterMap fun fn=>match fn.mu.fx with|4=>some (fn.id,fn.mu.pF,fn.MX)|_=>none,T.filterMap fun fn=>match fn.mu.fx with|5=>some (fn.id,fn.M)|_=>none⟩
def au.find:List au->FuncId->Option au
 |[],_=>none
 |fn::l,f=>match Nat.beq f fn.id with
  |true=>some fn
  |false=>au.find l f
theorem au.QM:∀{T:List au} {f:FuncId} {fn:au},au.find T f=some fn->fn.mu.fx=0->aQ.find (cM T).pure f=some fn.M
 |[],f,fn,h,_=>by simp[au.find] at h
 |g::l,f,fn,h,hm=>by
  simp only[au.find] at h;split at h
  ·rename_i e;injection h with h;subst h;simp only[cM,List.filterMap_cons,hm,aQ.find];rw[if_pos (Nat.eq_of_beq_eq_true e)]
  ·rename_i e;have ih:aQ.find (cM l).pure f=some fn.M:=au.QM h hm;simp only[cM,List.filterMap_cons] at ih⊢;by_cases hg:g.mu.fx=0
   ·simp only[hg,aQ.find];rw[if_neg (fun he=>by rw[he,Nat.beq_refl] at e;cases e)];exact ih
   ·split
    ·exact ih
    ·rename_i z hz;split at hz
     ·rename_i h0;exact absurd h0 hg
     ·cases hz
theorem au.QL:∀{T:List au} {f:FuncId} {fn:au},au.find T f=some fn->fn.mu.fx=1->aQ.nQ (cM T).vH f=some (fn.mu,fn.MM)
 |[],f,fn,h,_=>by simp[au.find] at h
 |g::l,f,fn,h,hm=>by
  simp only[au.find] at h;split at h
  ·rename_i e;injection h with h;subst h;simp only[cM,List.filterMap_cons,hm,aQ.nQ];rw[if_pos (Nat.eq_of_beq_eq_true e)]
  ·rename_i e;have ih:aQ.nQ (cM l).vH f=some (fn.mu,fn.MM):=au.QL h hm;simp only[cM,List.filterMap_cons] at ih⊢;by_cases hg:g.mu.fx=1
   ·simp only[hg,aQ.nQ];rw[if_neg (fun he=>by rw[he,Nat.beq_refl] at e;cases e)];exact ih
   ·split
    ·exact ih
    ·rename_i z hz;split at hz
     ·rename_i h0;exact absurd h0 hg
     ·cases hz
theorem au.YT:∀{T:List au} {f:FuncId} {fn:au},au.find T f=some fn->fn.mu.fx=2->aQ.lZ (cM T).vs f=some fn.MV
 |[],f,fn,h,_=>by simp[au.find] at h
 |g::l,f,fn,h,hm=>by
  simp only[au.find] at h;split at h
  ·rename_i e;injection h with h;subst h;simp only[cM,List.filterMap_cons,hm,aQ.lZ];rw[if_pos (Nat.eq_of_beq_eq_true e)]
  ·rename_i e;have ih:aQ.lZ (cM l).vs f=some fn.MV:=au.YT h hm;simp only[cM,List.filterMap_cons] at ih⊢;by_cases hg:g.mu.fx=2
   ·simp only[hg,aQ.lZ];rw[if_neg (fun he=>by rw[he,Nat.beq_refl] at e;cases e)];exact ih
   ·split
    ·exact ih
    ·rename_i z hz;split at hz
     ·rename_i h0;exact absurd h0 hg
     ·cases hz
def xP (m:Mode) (σ:af):Nat->List TD->Option (List SC×Nat×af)
 |nm,[]=>some ([],nm,σ)
 |nm,⟨t,x⟩::cs=>match t,x with
  |.list ts,xs=>match σ.ins nm (.row m.t7 m ts xs) with
   |some σ1=>match xP m σ1 (nm+1) cs with
    |some (l,gy,σ2)=>some (.sl nm ts.length 0 (aa (α:=Ty.DL ts) xs)::l,gy,σ2)
    |none=>none
   |none=>none
  |.int k,x=>match xP m σ nm cs with
   |some (l,gy,σ2)=>some (.v (.int k) x::l,gy,σ2)
   |none=>none
  |.bool,x=>match xP m σ nm cs with
   |some (l,gy,σ2)=>some (.v .bool x::l,gy,σ2)
   |none=>none
theorem Nq (m:Mode):∀{cs:List TD} {σ σ1:af} {nm gy:Nat} {l:List SC},xP m σ nm cs=some (l,gy,σ1)->
  σ.er.imp m nm (dk cs)=some (l.map SC.er,gy,σ1.er)
 |[],σ,σ1,nm,gy,l,h=>by
  simp only[xP] at h;injection h with h;injection h with h1 h2;injection h2 with h2 h3;subst h1 h2 h3;rfl
 |⟨.list ts,xs⟩::cs,σ,σ2,nm,gy,l,h=>by
  simp only[xP] at h;split at h
  ·rename_i σ1 e1;split at h
   ·rename_i l' HS gN e2;injection h with h;injection h with h1 h2;injection h2 with h2 h3;subst h1 h2 h3;have i1:σ.er.ins nm (.row m.t7 m ts.length (List.map (Ty.aE ts) xs))=some σ1.er:=af.oO e1;have i2:=Nq m e2;simp only[dk] at i2;simp only[dk,List.map_cons,Ty.er,St.imp,i1,i2,SC.er];exact congrArg (fun q=>some (ah.sl nm ts.length 0 q::List.map SC.er l',HS,gN.er)) (List.length_map (Ty.aE ts))
   ·cases h
  ·cases h
 |⟨.int k,x⟩::cs,σ,σ2,nm,gy,l,h=>by
  simp only[xP] at h;split at h
  ·rename_i l' HS gN e2;injection h with h;injection h with h1 h2;injection h2 with h2 h3;subst h1 h2 h3;have i2:=Nq m e2;simp only[dk] at i2;simp only[dk,List.map_cons,Ty.er,St.imp,i2,SC.er]
  ·cases h
 |⟨.bool,x⟩::cs,σ,σ2,nm,gy,l,h=>by
  simp only[xP] at h;split at h
  ·rename_i l' HS gN e2;injection h with h;injection h with h1 h2;injection h2 with h2 h3;subst h1 h2 h3;have i2:=Nq m e2;simp only[dk] at i2;simp only[dk,List.map_cons,Ty.er,St.imp,i2,SC.er]
  ·cases h
def K.isAgg:K->Bool
 |.agg=>true
 |_=>false
def K.vr:K->Bool
 |.ptr=>true
 |_=>false
def zK (m:Mode) (σ:af):Nat->List ci->Option (List (Bool×List SC)×af)
 |_,[]=>some ([],σ)
 |nm,(k,cs)::ds=>match k.vr with
  |true=>none
  |false=>match xP m σ nm cs with
   |some (l,gy,σ1)=>match zK m σ1 gy ds with
    |some (ls,σ2)=>some ((k.isAgg,l)::ls,σ2)
    |none=>none
   |none=>none
theorem Ir (m:Mode):∀{ds:List ci} {σ σ1:af} {nm:Nat} {ls:List (Bool×List SC)},zK m σ nm ds=some (ls,σ1)->
  σ.er.jG m nm (ds.map ci.er)=some (ls.map (fun x=>(x.1,x.2.map SC.er)),σ1.er)
 |[],σ,σ1,nm,ls,h=>by
  simp only[zK] at h;injection h with h;injection h with h1 h2;subst h1 h2;rfl
 |(k,cs)::ds,σ,σ2,nm,ls,h=>by
  simp only[zK] at h;split at h
  ·cases h
  ·rename_i hk;split at h
   ·rename_i l gy σ1 e1;split at h
    ·rename_i HL gN e2;injection h with h;injection h with h1 h2;subst h1 h2;have i1:=Nq m e1;have i2:=Ir m e2;have i2':σ1.er.jG m gy (List.map ci.er ds)=some (HL.map (fun x=>(x.1,x.2.map SC.er)),gN.er):=i2;cases k with
     |ptr=>cases hk
     |one=>simp only[List.map_cons,ci.er,St.jG,i1,i2'];rfl
     |agg=>simp only[List.map_cons,ci.er,St.jG,i1,i2'];rfl
    ·cases h
   ·cases h
def zO:List (Bool×List SC)->SV
 |[(ag,cs)]=>Cc ag cs
 |l=>.bK l
theorem B4 (l:List (Bool×List SC)):(zO l).er=mr (l.map fun x=>(x.1,x.2.map SC.er)):=by
 match l with
 |[]=>rfl
 |[(ag,cs)]=>exact Fo ag cs
 |_::_::_=>rfl
section
variable {ρ:Type}
def Nj (T:List au) (m:Mode) (d:Option Nat) (f:FuncId) (as:List SV) (σ:af) (k:af->Option ρ):Option ρ:=
 match au.find T f with
 |some fn=>match fn.mu.fx with
  |0=>Fi σ.h as fun ds=>match mR fn.args ds with
   |some x=>(fn.F x).ae fun rs=>match zK m σ (jJ d) (ic fn.ax rs) with
    |some (ls,σ1)=>k (σ1.put d (zO ls))
    |none=>none
   |none=>none
  |_=>none
 |none=>none
theorem afE {T:List au} {m:Mode} {d:Option Nat} {f:FuncId} {as:List SV} {σ:af} {k:af->Option ρ} {r:ρ} (h:Nj T m d f as σ k=some r):
  ∃σ1:af,wz (cM T) m d f (as.map SV.er) σ.er=some σ1.er/\k σ1=some r:=by
 unfold Nj at h;split at h
 ·rename_i fn hf;split at h
  ·rename_i u7;obtain⟨ds,h1,h2⟩:=NV h;split at h2
   ·rename_i x hx;rw[ed] at h2;obtain⟨rs,hF,h2⟩:=h2;split at h2
    ·rename_i ls σ1 hs;refine⟨_,?_,h2⟩;have e:=Ir m hs;rw[tz] at e;have hv:lm σ.er.h (as.map SV.er)=some (ds.map ci.er):=h1;simp only[wz,hv,au.QM hf u7,qg hx,au.uA,hF,Option.map_some,e,af.dY,B4]
    ·cases h2
   ·cases h2
  ·cases h
 ·cases h
def BW:List ci->Option (List (Bool×List SC))
 |[]=>some []
 |(k,cs)::ds=>match k.vr with
  |true=>none
  |false=>match BW ds with
   |some ls=>some ((k.isAgg,cs.map fun x=>SC.v x.1 x.2)::ls)
   |none=>none
theorem Ni:∀{ds:List ci} {ls:List (Bool×List SC)},BW ds=some ls->kt (ds.map ci.er)=some (ls.map fun x=>(x.1,x.2.map SC.er))
 |[],ls,h=>by simp only[BW] at h;injection h with h;subst h;rfl
 |(k,cs)::ds,ls,h=>by
  simp only[BW] at h;split at h
  ·cases h
  ·rename_i hk;split at h
   ·rename_i HL e;injection h with h;subst h;have i2:=Ni e;have ec:(dk cs).map ah.c=(cs.map fun x=>SC.v x.1 x.2).map SC.er:=by simp[dk,SC.er]
    cases k with
    |ptr=>cases hk
    |one=>simp only[List.map_cons,ci.er,kt];rw[show kt (List.map ci.er ds)=_ from i2];simp only;rw[ec];rfl
    |agg=>simp only[List.map_cons,ci.er,kt];rw[show kt (List.map ci.er ds)=_ from i2];simp only;rw[ec];rfl
   ·cases h
def Vw (T:List au) (d:Option Nat) (f:FuncId) (as:List SV) (σ:af) (k:af->Option ρ):Option ρ:=
 match au.find T f with
 |some fn=>match fn.mu.fx with
  |0=>Fi σ.h as fun ds=>match mR fn.args ds with
   |some x=>(fn.F x).ae fun rs=>match BW (ic fn.ax rs) with
    |some ls=>k (σ.put d (zO ls))
    |none=>none
   |none=>none
  |_=>none
 |none=>none
theorem as6 {T:List au} {d:Option Nat} {f:FuncId} {as:List SV} {σ:af} {k:af->Option ρ} {r:ρ} (h:Vw T d f as σ k=some r):
  ∃v:SV,C7 (cM T) f (as.map SV.er) σ.er.h=some v.er/\k (σ.put d v)=some r:=by
 unfold Vw at h;split at h
 ·rename_i fn hf;split at h
  ·rename_i u7;obtain⟨ds,h1,h2⟩:=NV h;split at h2
   ·rename_i x hx;rw[ed] at h2;obtain⟨rs,hF,h2⟩:=h2;split at h2
    ·rename_i ls hs;refine⟨_,?_,h2⟩;have e:=Ni hs;rw[tz] at e;have hv:lm σ.er.h (as.map SV.er)=some (ds.map ci.er):=h1;simp only[C7,hv,au.QM hf u7,qg hx,au.uA,hF,Option.map_some,e,B4]
    ·cases h2
   ·cases h2
  ·cases h
 ·cases h
def Ty.uO:Ty->Bool
 |.list ts=>Ty.fG ts
 |_=>true
def Wt:Mode->List Ty->Bool
 |.aN,ts=>Ty.fG ts
 |.live,ts=>ts.all Ty.uO
 |.aJ,_=>false
theorem ue (ts:List Ty) (xs:List (Ty.DL ts)) (h:Ty.fG ts=true):eP (List.map (Ty.aE ts) xs)=true:=by
 simp only[eP,List.all_eq_true,List.mem_map];rintro e ⟨x,_,rfl⟩;rw[Ty.Ij];exact h
theorem X8 (t:Ty) (x:t.D) (h:Ty.uO t=true):C.uO (t.er x)=true:=by
 cases t with
 |int k=>rfl
 |bool=>rfl
 |list ts=>exact ue ts x h
theorem X7:∀(ts:List Ty) (x:Ty.DL ts),ts.all Ty.uO=true->(Ty.aE ts x).all C.uO=true
 |[],_,_=>rfl
 |[t],x,h=>by
  simp only[List.all_cons,List.all_nil,Bool.and_true] at h;simp only[Ty.aE,List.all_cons,List.all_nil,Bool.and_true];exact X8 t x h
 |t::u::ts,x,h=>by
  simp only[List.all_cons (a:=t),Bool.and_eq_true] at h;simp only[Ty.aE,List.all_cons (a:=Ty.er t x.1),Bool.and_eq_true];exact⟨X8 t x.1 h.1,X7 (u::ts) x.2 h.2⟩
theorem YY (m:Mode) (ts:List Ty) (xs:List (Ty.DL ts)) (h:Wt m ts=true):uR m (List.map (Ty.aE ts) xs)=true:=by
 cases m with
 |aJ=>cases h
 |aN=>exact ue ts xs h
 |live=>
  simp only[uR,List.all_eq_true,List.mem_map];rintro e ⟨x,_,rfl⟩;have:=X7 ts x h;simpa[List.all_eq_true] using this
def Mode.Hy:Mode->Bool
 |.live=>true
 |_=>false
def Mode.aaZ:Mode->Bool
 |.aN=>true
 |_=>false
def VL (h:Nat->Option SB) (md:Mode) (c:SC) (k:dD->(t:Ty)->t.D->Option ρ):Option ρ:=
 match c with
 |.nil ts=>match ts with
  |[]=>none
  |t::us=>eM md.own (k (.nil (us.length+1)) (.list (t::us)) ([]:List (Ty.DL (t::us))))
 |.sl n sz lo len=>match h n with
  |some (.row gr m ts xs)=>eM (m.own&&((!md.Hy||m.Hy)&&(Wt md ts&&(!m.Hy|| !gr)))) (cv ts.length sz ((bn lo len (aa xs)).ae fun _=>k (.row n) (.list ts) xs))
  |_=>none
 |.bC n kk aB off sz len=>match h n with
  |some (.row false .live ts xs)=>eM md.aaZ (cv ts.length aB ((cK xs kk).ae fun e=>match(Ty.gO ts e)[off]? with
   |some ⟨.list us,ys⟩=>eM (Ty.fG us) (k (.nest n kk off) (.list us) ys)
   |_=>none))
  |_=>none
 |_=>none
theorem atq {h:Nat->Option SB} {md:Mode} {c:SC} {k:dD->(t:Ty)->t.D->Option ρ} {r:ρ} (hx:VL h md c k=some r):
  ∃(it:dD) (t:Ty) (x:t.D),t6 (dd h) md c.er=some (it,t.er x)/\k it t x=some r:=by
 unfold VL at hx;split at hx
 ·split at hx
  ·cases hx
  ·rename_i t us;have hm:=(bZ hx).1;replace hx:=(bZ hx).2;refine⟨_,.list (t::us),[],?_,hx⟩;have bP:md≠ .aJ:=by rintro rfl;cases hm
   simp[SC.er,t6,Ty.er,bP]
 ·rename_i n sz lo len;split at hx
  ·rename_i gr m ts xs hn;have hm:=(bZ hx).1;replace hx:=(bZ hx).2;have bg:=(aO hx).1;replace hx:=(aO hx).2;subst bg;rw[ed] at hx;obtain⟨_,hf,hx⟩:=hx;have Rv:lo=0/\len=aa xs:=by
    unfold bn at hf;split at hf
    ·assumption
    ·cases hf
   obtain⟨rfl,rfl⟩:=Rv;simp only[Bool.and_eq_true] at hm;have bP:m≠ .aJ:=by rintro rfl;cases hm.1
   have wU:md=.live->m=.live:=by
    rintro rfl;have:=hm.2.1;cases m<;>first|rfl|(simp[Mode.Hy] at this)
   refine⟨_,.list ts,xs,?_,hx⟩;simp only[SC.er,t6,dd,hn,Option.map_some,SB.er,Ty.er];rw[if_pos ⟨bP,wU,trivial,trivial,(List.length_map (Ty.aE ts)).symm,YY md ts xs hm.2.2.1,fun hl=>by
    have:=hm.2.2.2;subst hl;simpa[Mode.Hy] using this⟩]
  ·cases hx
 ·rename_i n kk aB off sz len;split at hx
  ·rename_i ts xs hn;have hm:=(bZ hx).1;replace hx:=(bZ hx).2;have bg:=(aO hx).1;replace hx:=(aO hx).2;subst bg;rw[ed] at hx;obtain⟨e,he,hx⟩:=hx
   replace he:xs[kk]? =some e:=he
   split at hx
   ·rename_i us ys hd;have hs:=(bZ hx).1;replace hx:=(bZ hx).2;refine⟨_,.list us,ys,?_,hx⟩;have Lw:md=.aN:=by cases md<;>first|rfl|(simp[Mode.aaZ] at hm)
    have iV:=KI hd;simp only[SC.er,t6,dd,hn,Option.map_some,SB.er,List.getElem?_map,he,Option.bind_some,iV,Ty.er,Lw,and_self,if_true];rw[if_pos (ue us ys hs)]
   ·cases hx
  ·cases hx
 ·cases hx
def SC.nm:SC->List Nat
 |.sl n _ _ _=>[n]
 |.bC n _ _ _ _ _=>[n]
 |_=>[]
theorem SC.aqE (c:SC):c.er.eV.toList=c.nm:=by cases c<;>rfl
def B2:List (Option Mode)->List SC->List Nat
 |some _::fs,c::cs=>c.nm++B2 fs cs
 |none::fs,_::cs=>B2 fs cs
 |_,_=>[]
theorem NA:∀(fs:List (Option Mode)) (cs:List SC),nB fs (cs.map SC.er)=B2 fs cs
 |some m::fs,c::cs=>by simp only[List.map_cons,nB,B2,SC.aqE,NA fs cs]
 |none::fs,c::cs=>by simp only[List.map_cons,nB,B2,NA fs cs]
 |[],cs=>by cases cs<;>rfl
 |some m::fs,[]=>rfl
 |none::fs,[]=>rfl
def zL:aK->List (Bool×List SC)->List Nat
 |s::sig,a::as=>B2 s a.2++zL sig as
 |_,_=>[]
theorem Nz:∀(sig:aK) (as:List (Bool×List SC)),ph sig (as.map fun x=>(x.1,x.2.map SC.er))=zL sig as
 |s::sig,a::as=>by simp only[List.map_cons,ph,zL,NA,Nz sig as]
 |[],as=>by cases as<;>rfl
 |s::sig,[]=>rfl
def E4 (h:Nat->Option SB) (ns:List Nat):Nat->Option SB:=fun n=>match ns.contains n with|true=>none|false=>h n
theorem Np (h:Nat->Option SB) (ns:List Nat):dd (E4 h ns)=dM (dd h) ns:=by
 funext n;simp only[dd,E4,dM];cases hc:ns.contains n<;>simp[hc]
def vR (h h0:Nat->Option SB):List (Option Mode)->List SC->(List TD->List (dD×Mode)->Option ρ)->Option ρ
 |[],cs,k=>Ca h0 cs fun l=>k l []
 |none::fs,c::cs,k=>xS h0 c fun t x=>vR h h0 fs cs fun l its=>k (⟨t,x⟩::l) its
 |some md::fs,c::cs,k=>VL h md c fun it t x=>vR h h0 fs cs fun l its=>k (⟨t,x⟩::l) ((it,md)::its)
 |_::_,[],_=>none
theorem Ny {h h0:Nat->Option SB}:∀{fs:List (Option Mode)} {cs:List SC} {k:List TD->List (dD×Mode)->Option ρ} {r:ρ},vR h h0 fs cs k=some r->
  ∃l its,j7 (dd h) (dd h0) fs (cs.map SC.er)=some (dk l,its)/\k l its=some r
 |[],cs,k,r,hx=>by
  simp only[vR] at hx;obtain⟨l,h1,h2⟩:=IF hx;exact⟨l,[],by simp only[j7,h1],h2⟩
 |none::fs,c::cs,k,r,hx=>by
  simp only[vR] at hx;obtain⟨t,x,h1,h2⟩:=B9 hx;obtain⟨l,its,h3,h4⟩:=Ny h2;exact⟨⟨t,x⟩::l,its,by simp only[List.map_cons,j7,h1,h3,dk],h4⟩
 |some md::fs,c::cs,k,r,hx=>by
  simp only[vR] at hx;obtain⟨it,t,x,h1,h2⟩:=atq hx;obtain⟨l,its,h3,h4⟩:=Ny h2;exact⟨⟨t,x⟩::l,(it,md)::its,by simp only[List.map_cons,j7,h1,h3,dk],h4⟩
 |none::fs,[],k,r,hx=>by simp[vR] at hx
 |some md::fs,[],k,r,hx=>by simp[vR] at hx
def Ei:Bool->K
 |true=>.agg
 |false=>.one
def E7 (h h0:Nat->Option SB):aK->List (Bool×List SC)->(List ci->List (dD×Mode)->Option ρ)->Option ρ
 |_,[],k=>k [] []
 |sig,(ag,cs)::as,k=>vR h h0 sig.hd cs fun l its=>E7 h h0 sig.tl as fun ds pY=>k ((Ei ag,l)::ds) (its++pY)
theorem NB {h h0:Nat->Option SB}:∀{as:List (Bool×List SC)} {sig:aK} {k:List ci->List (dD×Mode)->Option ρ} {r:ρ},E7 h h0 sig as k=some r->
  ∃ds its,mS (dd h) (dd h0) sig (as.map fun x=>(x.1,x.2.map SC.er))=some (ds.map ci.er,its)/\k ds its=some r
 |[],sig,k,r,hx=>⟨[],[],by simp only[List.map_nil,mS],hx⟩
 |(ag,cs)::as,sig,k,r,hx=>by
  simp only[E7] at hx;obtain⟨l,its,h1,h2⟩:=Ny hx;obtain⟨ds,pY,h3,h4⟩:=NB h2;refine⟨_,_,?_,h4⟩;simp only[List.map_cons,mS,h1,h3,ci.er];cases ag<;>rfl
def B0:List SV->Option (List (Bool×List SC))
 |[]=>some []
 |v::vs=>match v.cells?,B0 vs with
  |some x,some xs=>some (x::xs)
  |_,_=>none
theorem Nv:∀{as:List SV} {dc:List (Bool×List SC)},B0 as=some dc->rk (as.map SV.er)=some (dc.map fun x=>(x.1,x.2.map SC.er))
 |[],dc,h=>by simp only[B0] at h;injection h with h;subst h;rfl
 |v::vs,dc,h=>by
  simp only[B0] at h;split at h
  ·rename_i x xs e1 e2;injection h with h;subst h;obtain⟨b,cs⟩:=x;simp only[List.map_cons,rk,SV.kK e1,Nv e2]
  ·cases h
def Il (ts:List Ty) (e:Ty.DL ts) (off:Nat) (x:TD):Option (Ty.DL ts):=rn ts ((Ty.gO ts e).set off x)
theorem VD {ts:List Ty} {e e':Ty.DL ts} {off:Nat} {x:TD} (h:Il ts e off x=some e'):Ty.aE ts e'=(Ty.aE ts e).set off (x.1.er x.2):=by
 have:=xv h;rw[this,dk,List.map_set,<-Ty.pN ts e];rfl
def VR (σ:af) (it:dD) (x:TD) (k:af->Option ρ):Option ρ:=
 match it with
 |.nil _=>k σ
 |.row n=>match x with
  |⟨.list ts,xs⟩=>match σ.h n with
   |some (.row gr m us _)=>cv us.length ts.length (k (σ.eE n (.row gr m ts xs)))
   |_=>none
  |_=>none
 |.nest n kk off=>match σ.h n with
  |some (.row gr m us xs)=>(cK xs kk).ae fun e=>match Il us e off x with
   |some e'=>k (σ.eE n (.row gr m us (cg xs kk e')))
   |none=>none
  |_=>none
theorem atz {σ:af} {it:dD} {x:TD} {k:af->Option ρ} {r:ρ} (hx:VR σ it x k=some r):∃σ1,σ.er.pk it (x.1.er x.2)=some σ1.er/\k σ1=some r:=by
 unfold VR at hx;split at hx
 ·exact⟨σ,rfl,hx⟩
 ·rename_i n;split at hx
  ·rename_i ts xs;split at hx
   ·rename_i gr m us ys hn;have bg:=(aO hx).1;replace hx:=(aO hx).2;refine⟨_,?_,hx⟩;have bu:σ.er.h n=some (.row gr m us.length (List.map (Ty.aE us) ys)):=by simp[af.er,dd,hn,SB.er]
    simp only[St.pk,Ty.er,bu,bg,if_true,af.pO,SB.er]
   ·cases hx
  ·cases hx
 ·rename_i n kk off;split at hx
  ·rename_i gr m us xs hn;rw[ed] at hx;obtain⟨e,he,hx⟩:=hx
   replace he:xs[kk]? =some e:=he
   split at hx
   ·rename_i e' hs;refine⟨_,?_,hx⟩;have bu:σ.er.h n=some (.row gr m us.length (List.map (Ty.aE us) xs)):=by simp[af.er,dd,hn,SB.er]
    simp only[St.pk,bu,List.getElem?_map,he,Option.map_some,af.pO,SB.er,cg,List.map_set,VD hs]
   ·cases hx
  ·cases hx
def zN (σ:af):List (dD×Mode)->List TD->(af->Option ρ)->Option ρ
 |[],[],k=>k σ
 |it::its,x::xs,k=>VR σ it.1 x fun σ1=>zN σ1 its xs k
 |_,_,_=>none
theorem NE:∀{its:List (dD×Mode)} {xs:List TD} {σ:af} {k:af->Option ρ} {r:ρ},zN σ its xs k=some r->∃σ1,σ.er.oy its (dk xs)=some σ1.er/\k σ1=some r
 |[],[],σ,k,r,hx=>⟨σ,rfl,hx⟩
 |it::its,x::xs,σ,k,r,hx=>by
  simp only[zN] at hx;obtain⟨σ1,h1,h2⟩:=atz hx;obtain⟨σ2,h3,h4⟩:=NE h2;refine⟨σ2,?_,h4⟩;simp only[dk] at h3;simp only[dk,List.map_cons,St.oy,h1,h3]
 |[],_::_,σ,k,r,hx=>by simp[zN] at hx
 |_::_,[],σ,k,r,hx=>by simp[zN] at hx
def EB:List Nat->Bool
 |[]=>true
 |n::l=> !(l.contains n)&&EB l
theorem MF:∀{l:List Nat},EB l=true->l.Nodup
 |[],_=>List.nodup_nil
 |n::l,h=>by
  simp only[EB,Bool.and_eq_true,Bool.not_eq_true'] at h;rw[List.nodup_cons];refine⟨fun hm=>?_,MF h.2⟩;have:l.contains n=true:=by simpa using hm
  rw[this] at h;cases h.1
def Vx (T:List au) (m:Mode) (d:Option Nat) (f:FuncId) (as:List SV) (σ:af) (k:af->Option ρ):Option ρ:=
 match au.find T f with
 |some fn=>match fn.mu.fx with
  |1=>match B0 as with
   |some dc=>eM (EB (zL fn.mu dc)) (E7 σ.h (E4 σ.h (zL fn.mu dc)) fn.mu dc fun ds its=>match mR fn.args ds with
    |some x=>(fn.F x).ae fun y=>zN σ its (((ic fn.ax y).drop (fn.ax.length - fn.mu.cF)).flatMap (·.2)) fun σ1=>match zK m σ1 (jJ d) ((ic fn.ax y).take (fn.ax.length - fn.mu.cF)) with
     |some (ls,σ2)=>k (σ2.put d (zO ls))
     |none=>none
    |none=>none)
   |none=>none
  |_=>none
 |none=>none
def VO (h:Nat->Option SB) (s:List (Option Mode)) (v:SV):Option (K×List SC):=
 match v with
 |.one (.ptr n k _ off)=>match h n with
  |some (.box cs)=>match Nat.beq k 0&&(Nat.beq off 0&&TR s cs.length) with
   |true=>some (.ptr,cs)
   |false=>none
  |_=>none
 |v=>match v.cells? with
  |some (ag,cs)=>some (Ei ag,cs)
  |none=>none
theorem aqH {v:SV} (h:∀n k z off,v≠ .one (.ptr n k z off)):∀n k z off,v.er≠ .one (.ptr n k z off):=by
 intro n k z off e;cases v with
 |one c=>
  cases c with
  |ptr n' k' z' lL=>exact h n' k' z' lL rfl
  |_=>simp[SV.er,SC.er] at e
 |agg cs=>simp[SV.er] at e
 |bK xs=>simp[SV.er] at e
theorem atv {h:Nat->Option SB} {s:List (Option Mode)} {v:SV} {x:K×List SC} (hx:VO h s v=some x):zw (dd h) s v.er=some (x.1,x.2.map SC.er):=by
 unfold VO at hx;split at hx
 ·rename_i n k z off;split at hx
  ·rename_i cs hn;split at hx
   ·rename_i hc;injection hx with hx;subst hx;simp only[Bool.and_eq_true] at hc;have h1:=Nat.eq_of_beq_eq_true hc.1;have h2:=Nat.eq_of_beq_eq_true hc.2.1;subst h1 h2;simp only[SV.er,SC.er,zw,dd,hn,Option.map_some,SB.er,List.length_map];rw[if_pos ⟨trivial,trivial,hc.2.2⟩]
   ·cases hx
  ·cases hx
 ·rename_i v aD;split at hx
  ·rename_i ag cs hv;injection hx with hx;subst hx;have gk:=SV.kK hv;have cW:∀u:aj,(∀n k z off,u≠ .one (.ptr n k z off))->u.cells?=some (ag,cs.map SC.er)->zw (dd h) s u=some (Ei ag,cs.map SC.er):=by
    intro u hu hc;unfold zw;split
    ·rename_i n k z off;exact absurd rfl (hu n k z off)
    ·rw[hc];cases ag<;>rfl
   exact cW _ (aqH fun n k z off e=>aD n k z off e) gk
  ·cases hx
def Ix (h:Nat->Option SB):aK->List SV->Option (List (K×List SC))
 |_,[]=>some []
 |sig,v::vs=>match VO h sig.hd v,Ix h sig.tl vs with
  |some x,some xs=>some (x::xs)
  |_,_=>none
theorem af2 {h:Nat->Option SB}:∀{as:List SV} {sig:aK} {dc:List (K×List SC)},Ix h sig as=some dc->zx (dd h) sig (as.map SV.er)=some (dc.map fun x=>(x.1,x.2.map SC.er))
 |[],sig,dc,hx=>by simp only[Ix] at hx;injection hx with hx;subst hx;rfl
 |v::vs,sig,dc,hx=>by
  simp only[Ix] at hx;split at hx
  ·rename_i x xs e1 e2;injection hx with hx;subst hx;simp only[List.map_cons,zx,atv e1,af2 e2]
  ·cases hx
def IA:aK->List (K×List SC)->List Nat
 |s::sig,a::as=>B2 s a.2++IA sig as
 |_,_=>[]
theorem af8:∀(sig:aK) (as:List (K×List SC)),zA sig (as.map fun x=>(x.1,x.2.map SC.er))=IA sig as
 |s::sig,a::as=>by simp only[List.map_cons,zA,IA,NA,af8 sig as]
 |[],as=>by cases as<;>rfl
 |s::sig,[]=>rfl
def NF (h h0:Nat->Option SB):aK->List (K×List SC)->(List ci->List (dD×Mode)->Option ρ)->Option ρ
 |_,[],k=>k [] []
 |sig,(kk,cs)::as,k=>vR h h0 sig.hd cs fun l its=>NF h h0 sig.tl as fun ds pY=>k ((kk,l)::ds) (its++pY)
theorem agb {h h0:Nat->Option SB}:∀{as:List (K×List SC)} {sig:aK} {k:List ci->List (dD×Mode)->Option ρ} {r:ρ},NF h h0 sig as k=some r->
  ∃ds its,sR (dd h) (dd h0) sig (as.map fun x=>(x.1,x.2.map SC.er))=some (ds.map ci.er,its)/\k ds its=some r
 |[],sig,k,r,hx=>⟨[],[],by simp only[List.map_nil,sR],hx⟩
 |(kk,cs)::as,sig,k,r,hx=>by
  simp only[NF] at hx;obtain⟨l,its,h1,h2⟩:=Ny hx;obtain⟨ds,pY,h3,h4⟩:=agb h2;exact⟨_,_,by simp only[List.map_cons,sR,h1,h3,ci.er],h4⟩
def Vz (T:List au) (m:Mode) (d:Option Nat) (f:FuncId) (as:List SV) (σ:af) (k:af->Option ρ):Option ρ:=
 match au.find T f with
 |some fn=>match fn.mu.fx with
  |1=>match Ix σ.h fn.mu as with
   |some dc=>eM (EB (IA fn.mu dc)) (NF σ.h (E4 σ.h (IA fn.mu dc)) fn.mu dc fun ds its=>match mR fn.args ds with
    |some x=>(fn.F x).ae fun y=>zN σ its (((ic fn.ax y).drop (fn.ax.length - fn.mu.cF)).flatMap (·.2)) fun σ1=>match zK m σ1 (jJ d) ((ic fn.ax y).take (fn.ax.length - fn.mu.cF)) with
     |some (ls,σ2)=>k (σ2.put d (zO ls))
     |none=>none
    |none=>none)
   |none=>none
  |_=>none
 |none=>none
theorem B3 (k:Nat) (l:List ci):xQ k (l.map ci.er)=((l.take k).map ci.er,dk ((l.drop k).flatMap (·.2))):=by
 simp only[xQ,<-List.map_take,<-List.map_drop];congr 1;induction l.drop k with
 |nil=>rfl
 |cons d l ih=>
  simp only[List.map_cons,List.flatMap_cons,ih,dk,List.map_append,ci.er]
theorem as7 {T:List au} {m:Mode} {d:Option Nat} {f:FuncId} {as:List SV} {σ:af} {k:af->Option ρ} {r:ρ} (h:Vx T m d f as σ k=some r):
  ∃σ1:af,rZ (cM T) m d f (as.map SV.er) σ.er=some σ1.er/\k σ1=some r:=by
 unfold Vx at h;split at h
 ·rename_i fn hf;split at h
  ·rename_i u7;split at h
   ·rename_i dc hc;have fB:=MF (bZ h).1;replace h:=(bZ h).2;obtain⟨ds,its,h1,h2⟩:=NB h;split at h2
    ·rename_i x hx;rw[ed] at h2;obtain⟨y,hF,h2⟩:=h2;obtain⟨σ1,h3,h4⟩:=NE h2;split at h4
     ·rename_i ls σ2 hs;refine⟨_,?_,h4⟩;have e:=Ir m hs;have hM:fn.MM (dB fn.args x)=some (((ic fn.ax y).take (fn.ax.length - fn.mu.cF)).map ci.er,dk (((ic fn.ax y).drop (fn.ax.length - fn.mu.cF)).flatMap (·.2))):=by
       unfold au.MM;rw[au.uA,hF];simp only[Option.map_some];rw[<-tz,B3]
      have hh:σ.er.h=dd σ.h:=rfl;rw[Np] at h1;simp only[rZ,au.QL hf u7,Nv hc,Nz,if_pos fB,hh,h1,qg hx,hM,h3,e,af.dY,B4]
     ·cases h4
    ·cases h2
   ·cases h
  ·cases h
 ·cases h
theorem as9 {T:List au} {m:Mode} {d:Option Nat} {f:FuncId} {as:List SV} {σ:af} {k:af->Option ρ} {r:ρ} (h:Vz T m d f as σ k=some r):
  ∃σ1:af,wA (cM T) m d f (as.map SV.er) σ.er=some σ1.er/\k σ1=some r:=by
 unfold Vz at h;split at h
 ·rename_i fn hf;split at h
  ·rename_i u7;split at h
   ·rename_i dc hc;have fB:=MF (bZ h).1;replace h:=(bZ h).2;obtain⟨ds,its,h1,h2⟩:=agb h;split at h2
    ·rename_i x hx;rw[ed] at h2;obtain⟨y,hF,h2⟩:=h2;obtain⟨σ1,h3,h4⟩:=NE h2;split at h4
     ·rename_i ls σ2 hs;refine⟨_,?_,h4⟩;have e:=Ir m hs;have hM:fn.MM (dB fn.args x)=some (((ic fn.ax y).take (fn.ax.length - fn.mu.cF)).map ci.er,dk (((ic fn.ax y).drop (fn.ax.length - fn.mu.cF)).flatMap (·.2))):=by
       unfold au.MM;rw[au.uA,hF];simp only[Option.map_some];rw[<-tz,B3]
      have hh:σ.er.h=dd σ.h:=rfl;rw[Np] at h1;simp only[wA,au.QL hf u7,hh,af2 hc,af8,if_pos fB,h1,qg hx,hM,h3,e,af.dY,B4]
     ·cases h4
    ·cases h2
   ·cases h
  ·cases h
 ·cases h
def zJ:List SC->Option (List TD)
 |[]=>some []
 |.v t x::cs=>match zJ cs with
  |some l=>some (⟨t,x⟩::l)
  |none=>none
 |.nil (t::us)::cs=>match zJ cs with
  |some l=>some (⟨.list (t::us),([]:List (Ty.DL (t::us)))⟩::l)
  |none=>none
 |_::_=>none
theorem Iq:∀{cs:List SC} {l:List TD},zJ cs=some l->kR (cs.map SC.er)=some (dk l)
 |[],l,h=>by simp only[zJ] at h;injection h with h;subst h;rfl
 |c::cs,l,h=>by
  unfold zJ at h;split at h
  ·rename_i e;cases e
  ·rename_i t x cs' e;injection e with e1 e2;subst e1 e2;split at h
   ·rename_i l' e;injection h with h;subst h;simp only[List.map_cons,kR,SC.er,pV,Iq e,dk]
   ·cases h
  ·rename_i t us cs' e;injection e with e1 e2;subst e1 e2;split at h
   ·rename_i l' e;injection h with h;subst h;simp[kR,SC.er,pV,Iq e,dk,Ty.er]
   ·cases h
  ·cases h
def Nf (h:Nat->Option SB) (n kk off:Nat):Option (List TD):=
 match kk,off with
 |0,0=>match h n with
  |some (.box cs)=>zJ cs
  |_=>none
 |_,_=>none
theorem aek {h:Nat->Option SB} {n kk sz off:Nat} {l:List TD} (e:Nf h n kk off=some l):m4 (dd h) (SV.er (.one (.ptr n kk sz off)))=some (n,dk l):=by
 unfold Nf at e;split at e
 ·split at e
  ·rename_i cs hn;simp[SV.er,SC.er,m4,dd,hn,SB.er,Iq e]
  ·cases e
 ·cases e
def SV.rv:SV->Option (Nat×Nat×Nat)
 |.one (.ptr n kk _ off)=>some (n,kk,off)
 |_=>none
theorem adC {v:SV} (h:v.rv=none) (hh:Nat->Option aq):m4 hh v.er=none:=by
 cases v with
 |one c=>cases c<;>first|rfl|(simp[SV.rv] at h)
 |agg cs=>rfl
 |bK xs=>rfl
theorem adD {v:SV} {n kk off:Nat} (h:v.rv=some (n,kk,off)):∃sz,v=.one (.ptr n kk sz off):=by
 cases v with
 |one c=>cases c<;>simp[SV.rv] at h;obtain⟨rfl,rfl,rfl⟩:=h;exact⟨_,rfl⟩
 |agg cs=>simp[SV.rv] at h
 |bK xs=>simp[SV.rv] at h
def Ii (σ:af):List SV->(List ci->List Nat->af->Option ρ)->Option ρ
 |[],k=>k [] [] σ
 |v::vs,k=>match v.rv with
  |some (n,kk,off)=>match Nf σ.h n kk off with
   |some l=>Ii σ vs fun ds ns σ1=>k ((.ptr,l)::ds) (n::ns) σ1
   |none=>none
  |none=>match v.cells? with
   |some (ag,cs)=>B7 σ cs fun l _ σ1=>Ii σ1 vs fun ds ns σ2=>k ((Ei ag,l)::ds) ns σ2
   |none=>none
theorem Vs:∀{vs:List SV} {σ:af} {k:List ci->List Nat->af->Option ρ} {r:ρ},Ii σ vs k=some r->
  ∃ds ns σ1,σ.er.iQ (vs.map SV.er)=some (ds.map ci.er,ns,σ1.er)/\k ds ns σ1=some r
 |[],σ,k,r,h=>⟨[],[],σ,rfl,h⟩
 |v::vs,σ,k,r,h=>by
  simp only[Ii] at h;split at h
  ·rename_i n kk off hv;obtain⟨sz,rfl⟩:=adD hv;split at h
   ·rename_i l hl;obtain⟨ds,ns,σ1,h1,h2⟩:=Vs h;refine⟨_,_,σ1,?_,h2⟩;have:=aek (sz:=sz) hl;have hh:σ.er.h=dd σ.h:=rfl;simp only[List.map_cons,St.iQ,hh,this,h1,ci.er]
   ·cases h
  ·rename_i hv;split at h
   ·rename_i ag cs hc;obtain⟨l,o,σ1,h1,h2⟩:=IE h;obtain⟨ds,ns,σ2,h3,h4⟩:=Vs h2;refine⟨_,_,σ2,?_,h4⟩;simp only[List.map_cons,St.iQ,adC hv,SV.kK hc,h1,h3,ci.er];cases ag<;>rfl
   ·cases h
def VQ (σ:af) (ns:List Nat) (out:List TD) (k:af->Option ρ):Option ρ:=
 match ns,out with
 |[],[]=>k σ
 |[n],out=>match σ.h n with
  |some (.box cs)=>cv cs.length out.length (k (σ.eE n (.box (out.map fun x=>.v x.1 x.2))))
  |_=>none
 |_,_=>none
theorem N9 (out:List TD):(out.map fun x=>SC.v x.1 x.2).map SC.er=(dk out).map .c:=by simp[dk,SC.er]
theorem aty {σ:af} {ns:List Nat} {out:List TD} {k:af->Option ρ} {r:ρ} (h:VQ σ ns out k=some r):∃σ1,σ.er.sP ns (dk out)=some σ1.er/\k σ1=some r:=by
 unfold VQ at h;split at h
 ·exact⟨σ,rfl,h⟩
 ·rename_i n;split at h
  ·rename_i cs hn;have he:=(aO h).1;replace h:=(aO h).2;refine⟨_,?_,h⟩;have bu:σ.er.h n=some (.box (cs.map SC.er)):=by simp[af.er,dd,hn,SB.er]
   simp only[St.sP,bu,List.length_map];rw[if_pos (by rw[he,dk,List.length_map]),af.pO,SB.er,N9]
  ·cases h
 ·cases h
def ci.rv:List ci->Option (List TD)
 |[(.ptr,cs)]=>some cs
 |_=>none
theorem atd {rs:List ci} {cs:List TD} (h:ci.rv rs=some cs):rs=[(.ptr,cs)]:=by
 unfold ci.rv at h;split at h
 ·injection h with h;rw[h]
 ·cases h
def Vt (σ:af) (d:Option Nat) (rs:List ci) (k:af->Option ρ):Option ρ:=
 match ci.rv rs with
 |some cs=>match d with
  |some q=>match σ.ins q (.box (cs.map fun x=>.v x.1 x.2)) with
   |some σ1=>k (σ1.put d (.one (.ptr q 0 0 0)))
   |none=>none
  |none=>none
 |none=>match BW rs with
  |some ls=>k (σ.put d (zO ls))
  |none=>none
theorem as0 {σ:af} {d:Option Nat} {rs:List ci} {k:af->Option ρ} {r:ρ} (h:Vt σ d rs k=some r):∃σ1,rT σ.er d (rs.map ci.er)=some σ1.er/\k σ1=some r:=by
 unfold Vt at h;split at h
 ·rename_i cs hp;have:=atd hp;subst this;split at h
  ·rename_i q;split at h
   ·rename_i σ1 hi;refine⟨_,?_,h⟩;have e:=af.oO hi;rw[SB.er,N9] at e;simp only[List.map_cons,List.map_nil,ci.er,rT,e,af.dY];rfl
   ·cases h
  ·cases h
 ·split at h
  ·rename_i ls hs;refine⟨_,?_,h⟩;have e:=Ni hs;have hb:rT σ.er d (rs.map ci.er)=match kt (rs.map ci.er) with
     |some ls=>some (σ.er.put d (mr ls))
     |none=>none:=by
    unfold rT;split
    ·rename_i cs he;rw[he] at e;simp[kt] at e
    ·rfl
   rw[hb,e,af.dY,B4]
  ·cases h
def Vv (T:List au) (d:Option Nat) (f:FuncId) (as:List SV) (σ:af) (k:af->Option ρ):Option ρ:=
 match au.find T f with
 |some fn=>match fn.mu.fx with
  |2=>Ii σ as fun ds ns σ1=>match mR fn.args ds with
   |some x=>(fn.F x).ae fun y=>VQ σ1 ns (((ic fn.ax y).drop (fn.ax.length - rq fn.args)).flatMap (·.2)) fun σ2=>Vt σ2 d ((ic fn.ax y).take (fn.ax.length - rq fn.args)) k
   |none=>none
  |_=>none
 |none=>none
theorem as5 {T:List au} {d:Option Nat} {f:FuncId} {as:List SV} {σ:af} {k:af->Option ρ} {r:ρ} (h:Vv T d f as σ k=some r):
  ∃σ1:af,rY (cM T) d f (as.map SV.er) σ.er=some σ1.er/\k σ1=some r:=by
 unfold Vv at h;split at h
 ·rename_i fn hf;split at h
  ·rename_i u7;obtain⟨ds,ns,σ1,h1,h2⟩:=Vs h;split at h2
   ·rename_i x hx;rw[ed] at h2;obtain⟨y,hF,h2⟩:=h2;obtain⟨σ2,h3,h4⟩:=aty h2;obtain⟨gN,h5,h6⟩:=as0 h4;refine⟨gN,?_,h6⟩;have hM:fn.MV (dB fn.args x)=some (((ic fn.ax y).take (fn.ax.length - rq fn.args)).map ci.er,dk (((ic fn.ax y).drop (fn.ax.length - rq fn.args)).flatMap (·.2))):=by
     unfold au.MV;rw[au.uA,hF];simp only[Option.map_some];rw[<-tz,B3]
    simp only[rY,h1,au.YT hf u7,qg hx,hM,h3,h5]
   ·cases h2
  ·cases h
 ·cases h
def au.nc (k:Nat):List au->FuncId->Option au
 |[],_=>none
 |fn::l,f=>match Nat.beq f fn.id&&Nat.beq fn.mu.fx k with
  |true=>some fn
  |false=>au.nc k l f
theorem au.YQ:∀{T:List au} {f:FuncId} {fn:au},au.nc 2 T f=some fn->aQ.lZ (cM T).vs f=some fn.MV
 |[],f,fn,h=>by simp[au.nc] at h
 |g::l,f,fn,h=>by
  simp only[au.nc] at h;split at h
  ·rename_i e;injection h with h;subst h;rw[Bool.and_eq_true] at e;have hm:=Nat.eq_of_beq_eq_true e.2;simp only[cM,List.filterMap_cons,hm,aQ.lZ];rw[if_pos (Nat.eq_of_beq_eq_true e.1)]
  ·rename_i e;have ih:aQ.lZ (cM l).vs f=some fn.MV:=au.YQ h;simp only[cM,List.filterMap_cons] at ih⊢;by_cases hg:g.mu.fx=2
   ·simp only[hg,aQ.lZ];rw[if_neg (fun he=>by rw[he,hg,Nat.beq_refl] at e;cases e)];exact ih
   ·split
    ·exact ih
    ·rename_i z hz;split at hz
     ·rename_i h0;exact absurd h0 hg
     ·cases hz
theorem au.YR:∀{T:List au} {f:FuncId} {fn:au},au.nc 3 T f=some fn->aQ.tB (cM T).ws f=some (fn.mu.tl,fn.MW)
 |[],f,fn,h=>by simp[au.nc] at h
 |g::l,f,fn,h=>by
  simp only[au.nc] at h;split at h
  ·rename_i e;injection h with h;subst h;rw[Bool.and_eq_true] at e;have hm:=Nat.eq_of_beq_eq_true e.2;simp only[cM,List.filterMap_cons,hm,aQ.tB];rw[if_pos (Nat.eq_of_beq_eq_true e.1)]
  ·rename_i e;have ih:aQ.tB (cM l).ws f=some (fn.mu.tl,fn.MW):=au.YR h;simp only[cM,List.filterMap_cons] at ih⊢;by_cases hg:g.mu.fx=3
   ·simp only[hg,aQ.tB];rw[if_neg (fun he=>by rw[he,hg,Nat.beq_refl] at e;cases e)];exact ih
   ·split
    ·exact ih
    ·rename_i z hz;split at hz
     ·rename_i h0;exact absurd h0 hg
     ·cases hz
theorem au.YS:∀{T:List au} {f:FuncId} {fn:au},au.nc 4 T f=some fn->aQ.tC (cM T).xs f=some (fn.mu.pF,fn.MX)
 |[],f,fn,h=>by simp[au.nc] at h
 |g::l,f,fn,h=>by
  simp only[au.nc] at h;split at h
  ·rename_i e;injection h with h;subst h;rw[Bool.and_eq_true] at e;have hm:=Nat.eq_of_beq_eq_true e.2;simp only[cM,List.filterMap_cons,hm,aQ.tC];rw[if_pos (Nat.eq_of_beq_eq_true e.1)]
  ·rename_i e;have ih:aQ.tC (cM l).xs f=some (fn.mu.pF,fn.MX):=au.YS h;simp only[cM,List.filterMap_cons] at ih⊢;by_cases hg:g.mu.fx=4
   ·simp only[hg,aQ.tC];rw[if_neg (fun he=>by rw[he,hg,Nat.beq_refl] at e;cases e)];exact ih
   ·split
    ·exact ih
    ·rename_i z hz;split at hz
     ·rename_i h0;exact absurd h0 hg
     ·cases hz
theorem au.YP:∀{T:List au} {f:FuncId} {fn:au},au.nc 5 T f=some fn->aQ.find (cM T).ns f=some fn.M
 |[],f,fn,h=>by simp[au.nc] at h
 |g::l,f,fn,h=>by
  simp only[au.nc] at h;split at h
  ·rename_i e;injection h with h;subst h;rw[Bool.and_eq_true] at e;have hm:=Nat.eq_of_beq_eq_true e.2;simp only[cM,List.filterMap_cons,hm,aQ.find];rw[if_pos (Nat.eq_of_beq_eq_true e.1)]
  ·rename_i e;have ih:aQ.find (cM l).ns f=some fn.M:=au.YP h;simp only[cM,List.filterMap_cons] at ih⊢;by_cases hg:g.mu.fx=5
   ·simp only[hg,aQ.find];rw[if_neg (fun he=>by rw[he,hg,Nat.beq_refl] at e;cases e)];exact ih
   ·split
    ·exact ih
    ·rename_i z hz;split at hz
     ·rename_i h0;exact absurd h0 hg
     ·cases hz
def Wb (T:List ci) (i:Nat):Bool:=match T[i]? with
 |some (.one,[⟨.list [.int .i64],_⟩])=>true
 |_=>false
theorem atQ {ds:List ci} {i:Nat} (h:Wb ds i=true):∃ys,(ds.map ci.er)[i]? =some (.one,[.list 1 ys]):=by
 unfold Wb at h;split at h
 ·rename_i x e;exact⟨_,by rw[List.getElem?_map,e];rfl⟩
 ·cases h
def sdI (a:Int):ci:=(.one,[⟨.int .i64,a⟩])
def VC (T:List au) (m:Mode) (d:Option Nat) (f:FuncId) (as:List SV) (σ:af) (k:af->Option ρ):Option ρ:=
 match au.nc 4 T f with
 |some fn=>match as[fn.mu.pF]? with
  |some (.one (.sl n s lo len))=>match σ.h n with
   |some (.row _ _ ts xs)=>cv s 1 (cv ts.length 1 ((cK xs lo).ae fun _=>(cr xs lo len).ae fun _=>match B0 (as.set fn.mu.pF (.one (.sl n 1 0 (aa xs)))) with
    |some dc=>eM (EB (zL (zY fn.mu.pF) dc)) (E7 σ.h (E4 σ.h (zL (zY fn.mu.pF) dc)) (zY fn.mu.pF) dc fun ds its=>eM (Wb ds fn.mu.pF) (match mR fn.args (sdI (aA lo)::sdI (aA (aI lo len))::ds) with
     |some x=>(fn.F x).ae fun y=>zN σ its (((ic fn.ax y).drop (fn.ax.length - 1)).flatMap (·.2)) fun σ1=>match zK m σ1 (jJ d) ((ic fn.ax y).take (fn.ax.length - 1)) with
      |some (ls,σ2)=>k (σ2.put d (zO ls))
      |none=>none
     |none=>none))
    |none=>none))
   |_=>none
  |_=>none
 |none=>none
theorem atc {T:List au} {m:Mode} {d:Option Nat} {f:FuncId} {as:List SV} {σ:af} {k:af->Option ρ} {r:ρ} (h:VC T m d f as σ k=some r):
  ∃σ1:af,wB (cM T) m d f (as.map SV.er) σ.er=some σ1.er/\k σ1=some r:=by
 unfold VC at h;split at h
 ·rename_i fn hf;split at h
  ·rename_i n s lo len ha;split at h
   ·rename_i gr mo ts xs eH;have hs1:=(aO h).1
    replace h:=(aO h).2
    have ht1:=(aO h).1
    replace h:=(aO h).2
    rw[ed] at h;obtain⟨el,he,h⟩:=h;rw[ed] at h;obtain⟨wl,hw,h⟩:=h;subst hs1;have qO:lo<xs.length:=(List.getElem?_eq_some_iff.1 (show xs[lo]? =some el from he)).1
    have gG:lo+len<=xs.length:=by
     unfold cr at hw;split at hw
     ·rename_i hc;exact hc
     ·cases hw
    split at h
    ·rename_i dc hc;have fB:=MF (bZ h).1;replace h:=(bZ h).2;obtain⟨ds,its,h1,h2⟩:=NB h;have jl:=atQ (bZ h2).1;replace h2:=(bZ h2).2;obtain⟨ys,nu⟩:=jl;split at h2
     ·rename_i x hx;rw[ed] at h2;obtain⟨y,hF,h2⟩:=h2;obtain⟨σ1,h3,h4⟩:=NE h2;split at h4
      ·rename_i ls σ2 hs;refine⟨_,?_,h4⟩;have e:=Ir m hs;have hM:fn.MX (dB fn.args x)=some (((ic fn.ax y).take (fn.ax.length - 1)).map ci.er,dk (((ic fn.ax y).drop (fn.ax.length - 1)).flatMap (·.2))):=by
        unfold au.MX;rw[au.uA,hF];simp only[Option.map_some];rw[<-tz,B3]
       have hh:σ.er.h=dd σ.h:=rfl;have bu:σ.er.h n=some (.row gr mo ts.length (List.map (Ty.aE ts) xs)):=by simp[af.er,dd,eH,SB.er]
       have eJ:dI lo::dI (lo+len)::ds.map ci.er=dB fn.args x:=qg hx;have xb:xM fn.mu.pF lo (lo+len) fn.MX (ds.map ci.er)=some (((ic fn.ax y).take (fn.ax.length - 1)).map ci.er,dk (((ic fn.ax y).drop (fn.ax.length - 1)).flatMap (·.2))):=by
        unfold xM;rw[nu];simp only
        rw[eJ,hM]
       have hxr:Fy σ.er.h (.one (.sl n 1 lo len))=some (n,lo,len,xs.length):=by
        unfold Fy;simp only[bu];rw[if_pos ⟨trivial,ht1,by rw[List.length_map];exact qO,by rw[List.length_map];exact gG⟩,List.length_map]
       have tH:(as.map SV.er)[fn.mu.pF]? =some (.one (.sl n 1 lo len)):=by
        rw[List.getElem?_map,ha];rfl
       have vd:(as.map SV.er).set fn.mu.pF (.one (.sl n 1 0 xs.length))=(as.set fn.mu.pF (.one (.sl n 1 0 (aa xs)))).map SV.er:=by
        rw[List.map_set];rfl
       rw[Np] at h1;unfold wB;rw[au.YS hf];simp only[tH,hxr,vd];unfold rZ;simp only[aQ.nQ,if_true,Nv hc,Nz,if_pos fB,hh,h1,xb,h3,e,af.dY,B4]
      ·cases h4
     ·cases h2
    ·cases h
   ·cases h
  ·cases h
 ·cases h
def IB:List SV->Option (List ci)
 |[]=>some []
 |v::vs=>match v.cells? with
  |some (ag,cs)=>match zJ cs with
   |some l=>match IB vs with
    |some ds=>some ((Ei ag,l)::ds)
    |none=>none
   |none=>none
  |none=>none
theorem agc:∀{vs:List SV} {ds:List ci},IB vs=some ds->BM (vs.map SV.er)=some (ds.map ci.er)
 |[],ds,h=>by simp only[IB] at h;injection h with h;subst h;rfl
 |v::vs,ds,h=>by
  simp only[IB] at h;split at h
  ·rename_i ag cs hc;split at h
   ·rename_i l hl;split at h
    ·rename_i uP hd;injection h with h;subst h;simp only[List.map_cons,BM,SV.kK hc,Iq hl,agc hd,ci.er];cases ag<;>rfl
    ·cases h
   ·cases h
  ·cases h
def VA (T:List au) (d:Option Nat) (f:FuncId) (as:List SV) (σ:af) (k:af->Option ρ):Option ρ:=
 match au.nc 2 T f with
 |some fn=>match IB as with
  |some ds=>match mR fn.args ds with
   |some x=>(fn.F x).ae fun y=>match((ic fn.ax y).drop (fn.ax.length - rq fn.args)).flatMap (·.2) with
    |[]=>match BW ((ic fn.ax y).take (fn.ax.length - rq fn.args)) with
     |some ls=>k (σ.put d (zO ls))
     |none=>none
    |_=>none
   |none=>none
  |none=>none
 |none=>none
theorem ata {T:List au} {d:Option Nat} {f:FuncId} {as:List SV} {σ:af} {k:af->Option ρ} {r:ρ} (h:VA T d f as σ k=some r):
  ∃v:SV,Au (cM T) f (as.map SV.er)=some v.er/\k (σ.put d v)=some r:=by
 unfold VA at h;split at h
 ·rename_i fn hf;split at h
  ·rename_i ds hd;split at h
   ·rename_i x hx;rw[ed] at h;obtain⟨y,hF,h⟩:=h;split at h
    ·rename_i ho;split at h
     ·rename_i ls hs;refine⟨_,?_,h⟩;have hM:fn.MV (dB fn.args x)=some (((ic fn.ax y).take (fn.ax.length - rq fn.args)).map ci.er,[]):=by
       unfold au.MV;rw[au.uA,hF];simp only[Option.map_some];rw[<-tz,B3,ho];rfl
      simp only[Au,agc hd,au.YQ hf,qg hx,hM,Ni hs,B4]
     ·cases h
    ·cases h
   ·cases h
  ·cases h
 ·cases h
def VB (T:List au) (d:Option Nat) (f:FuncId) (as:List SV) (σ:af) (k:af->Option ρ):Option ρ:=
 match au.nc 3 T f with
 |some fn=>match fn.mu.fx with
  |3=>match B0 as with
   |some dc=>match zL fn.mu.tl dc with
    |[n]=>E7 σ.h (E4 σ.h [n]) fn.mu.tl dc fun ds its=>match its with
     |[(.row n',_)]=>cv n' n (match σ.h n with
      |some (.row _ _ ts xs)=>match mR fn.args ds with
       |some x=>(fn.F x).ae fun y=>match ic fn.ax y with
        |[(.one,[⟨.int _,a⟩]),(.one,[⟨.int _,b⟩])]=>(jN a b (aa xs)).ae fun p=>k (σ.put d (.one (.sl n ts.length p.1 p.2)))
        |_=>none
       |none=>none
      |_=>none)
     |_=>none
    |_=>none
   |none=>none
  |_=>none
 |none=>none
theorem atb {T:List au} {d:Option Nat} {f:FuncId} {as:List SV} {σ:af} {k:af->Option ρ} {r:ρ} (h:VB T d f as σ k=some r):
  ∃v:SV,qE (cM T) f (as.map SV.er) σ.er.h=some v.er/\k (σ.put d v)=some r:=by
 unfold VB at h;split at h
 ·rename_i fn hf;split at h
  ·rename_i u7;split at h
   ·rename_i dc hc;split at h
    ·rename_i n hn;obtain⟨ds,its,h1,h2⟩:=NB h;split at h2
     ·rename_i n' md;have he:=(aO h2).1;replace h2:=(aO h2).2;subst he;split at h2
      ·rename_i gr mo ts xs eH;split at h2
       ·rename_i x hx;rw[ed] at h2;obtain⟨y,hF,h2⟩:=h2;split at h2
        ·rename_i ka a kb b hy;rw[ed] at h2;obtain⟨p,hs,h2⟩:=h2;refine⟨_,?_,h2⟩;unfold jN at hs;split at hs
         ·rename_i cV;injection hs with hs;subst hs;have hM:fn.MW (dB fn.args x)=some (Int.toNat a,Int.toNat (@HSub.hSub Int Int Int instHSub b a)):=by
           unfold au.MW;rw[au.uA,hF];simp only[Option.map_some,Option.bind_some];rw[<-tz,hy];rfl
          have hh:σ.er.h=dd σ.h:=rfl;have bu:σ.er.h n'=some (.row gr mo ts.length (List.map (Ty.aE ts) xs)):=by simp[af.er,dd,eH,SB.er]
          rw[Np] at h1;simp only[qE,au.YR hf,Nv hc,Nz,hn,hh,h1,qg hx,hM];rw[hh] at bu;simp only[bu,if_true];rfl
         ·cases hs
        ·cases h2
       ·cases h2
      ·cases h2
     ·cases h2
    ·cases h
   ·cases h
  ·cases h
 ·cases h
def VF (σ:af) (p:SC) (k:af->Option ρ):Option ρ:=
 match p with
 |.ptr n _ _ _=>match σ.h n with
  |some (.box cs)=>B7 σ cs fun l _ σ1=>k (σ1.eE n (.box (l.map fun x=>.v x.1 x.2)))
  |_=>none
 |_=>none
theorem atg {σ:af} {p:SC} {k:af->Option ρ} {r:ρ} (h:VF σ p k=some r):∃σ1,σ.er.uT p.er=some σ1.er/\k σ1=some r:=by
 unfold VF at h;split at h
 ·rename_i n kk sz off;split at h
  ·rename_i cs hn;obtain⟨l,o,σ1,h1,h2⟩:=IE h;refine⟨_,?_,h2⟩;have bu:σ.er.h n=some (.box (cs.map SC.er)):=by simp[af.er,dd,hn,SB.er]
   simp only[SC.er,St.uT,bu,h1];rw[af.pO,SB.er,N9]
  ·cases h
 ·cases h
inductive dA where
 |mv (x:cQ)
 |pick (c x y:cQ)
 |alloc (zs:List SC)
 |box (sz:Nat) (x:cQ)
 |build (zs:List SC) (parts:List (Nat×Nat×cQ))
 |fI (ts:List Ty) (parts:List cQ)
 |load (ag:Bool) (sz:Nat) (x:cQ)
 |store (sz:Nat) (x v:cQ)
 |qi (x:cQ)
 |bin (op:BinOp) (x y:cQ)
 |nI (op:BinOp) (x y:cQ)
 |un (op:UnOp) (x:cQ)
 |conv (k:IntKind) (x:cQ)
 |iK (m:Mode) (ts:List Ty) (by_:Nat) (z:Ty.DL ts) (l c:cQ)
 |slice (sz:Nat) (x:cQ) (lo hi:Option cQ)
 |tail (sz:Nat) (x lo:cQ)
 |rj (ag:Bool) (sz:Nat) (x:cQ)
 |nP (off:Nat) (x:cQ)
 |nw (sz:Nat) (x i:cQ)
 |ext (i:Nat) (x:cQ)
 |sb (ag:Bool) (off sz:Nat) (x:cQ)
 |rC (f:FuncId) (gu:Bool) (x:cQ)
 |len (x:cQ)
 |append (fl:Bool) (ts:List Ty) (by_:Nat) (x y:cQ)
 |mm (mx:Bool) (x y:cQ)
 |call (m:Mode) (f:FuncId) (xs:List cQ)
 |oK (f:FuncId) (xs:List cQ)
 |copy (x y:cQ)
 |mG (t:Ty) (z:t.D) (x:cQ)
 |sM (f:FuncId) (xs:List cQ)
 |oL (m:Mode) (x:cQ) (xs:List cQ)
 |gU (m:Mode) (f:FuncId) (xs:List cQ)
 |km (f:FuncId) (xs:List cQ)
 |m6 (f:FuncId) (xs:List cQ)
 |m5 (f:FuncId) (xs:List cQ)
 |nJ (m:Mode) (f:FuncId) (xs:List cQ)
 |pM (m:Mode) (f:FuncId) (x:cQ) (xs:List cQ)
def dA.er:dA->aT
 |.mv x=>.mv x.er
 |.pick c x y=>.pick c.er x.er y.er
 |.alloc zs=>.alloc (zs.map SC.er)
 |.box sz x=>.box sz x.er
 |.build zs ps=>.build (zs.map SC.er) (ps.map fun p=>(p.1,p.2.1,p.2.2.er))
 |.fI ts ps=>.fI ts.length (ps.map cQ.er)
 |.load ag sz x=>.load ag sz x.er
 |.rj ag sz x=>.rj ag sz x.er
 |.store sz x v=>.store sz x.er v.er
 |.qi x=>.qi x.er
 |.bin op x y=>.bin op x.er y.er
 |.nI op x y=>.nI op x.er y.er
 |.un op x=>.un op x.er
 |.conv k x=>.conv k x.er
 |.iK m ts by_ z l c=>.iK m ts.length by_ (Ty.aE ts z) l.er c.er
 |.slice sz x lo hi=>.slice sz x.er (lo.map cQ.er) (hi.map cQ.er)
 |.tail sz x lo=>.tail sz x.er lo.er
 |.nP off x=>.nP off x.er
 |.nw sz x i=>.nw sz x.er i.er
 |.ext i x=>.ext i x.er
 |.sb ag off sz x=>.sb ag off sz x.er
 |.rC f gu x=>.rC f gu x.er
 |.len x=>.len x.er
 |.append fl ts by_ x y=>.append fl ts.length by_ x.er y.er
 |.mm b x y=>.mm b x.er y.er
 |.call m f xs=>.call m f (xs.map cQ.er)
 |.oK f xs=>.oK f (xs.map cQ.er)
 |.copy x y=>.copy 1 x.er y.er
 |.mG t z x=>.mG (t.er z) x.er
 |.sM f xs=>.sM f (xs.map cQ.er)
 |.oL m x xs=>.oL m x.er (xs.map cQ.er)
 |.gU m f xs=>.gU m f (xs.map cQ.er)
 |.km f xs=>.km f (xs.map cQ.er)
 |.m6 f xs=>.m6 f (xs.map cQ.er)
 |.m5 f xs=>.m5 f (xs.map cQ.er)
 |.nJ m f xs=>.nJ m f (xs.map cQ.er)
 |.pM m f x xs=>.pM m f x.er (xs.map cQ.er)
theorem tA (σ:af) (xs:List cQ):(xs.map cQ.er).map σ.er.ev=(xs.map σ.ev).map SV.er:=by
 simp[af.dT]
def ID (ev:cQ->SV):List SC->List (Nat×Nat×cQ)->Option (List SC)
 |zs,[]=>some zs
 |zs,(off,sz,x)::ps=>match(ev x).cells? with
  |some (_,cs)=>cv cs.length sz (eM (Nat.ble (off+sz) zs.length) (ID ev (dq zs off cs) ps))
  |none=>none
theorem agp {σ:af}:∀{ps:List (Nat×Nat×cQ)} {zs cs:List SC},ID σ.ev zs ps=some cs->
  rF σ.er.ev (zs.map SC.er) (ps.map fun p=>(p.1,p.2.1,p.2.2.er))=some (cs.map SC.er)
 |[],zs,cs,h=>by simp only[ID] at h;injection h with h;subst h;rfl
 |(off,sz,x)::ps,zs,cs,h=>by
  simp only[ID] at h;split at h
  ·rename_i b XY hc;have bg:=(aO h).1;replace h:=(aO h).2;subst bg;have hb:=(bZ h).1;replace h:=(bZ h).2;have ih:=agp h;rw[Fb] at ih;have gG:=Nat.le_of_ble_eq_true hb;simp only[List.map_cons,rF,af.dT,SV.kK hc,List.length_map,gG,and_self,if_true,ih]
  ·cases h
def Ng (l:List TD):Bool:=l.all fun x=>x.1.fk
theorem as1 (l:List TD):fG (dk l)=Ng l:=by
 simp[fG,dk,Ng,List.all_map,Function.comp_def,Ty.xN]
def V2 (σ:af) (n:Nat) (gr:Bool) (m:Mode) (ts:List Ty) (xs:List (Ty.DL ts)) (kk off:Nat) (e:Ty.DL ts) (vs:List SC) (k:af->Option ρ):Option ρ:=
 match sub (Ty.gO ts e) off vs.length with
 |none=>none
 |some ii=>B7 σ vs fun cs o σ1=>match rn ts (dq (Ty.gO ts e) off cs) with
  |none=>none
  |some e'=>match m with
   |.live=>eM (Ng cs&&Ng ii&&(σ1.h n).isSome&& !gr) (k (σ1.eE n (.row gr .live ts (cg xs kk e'))))
   |.aN=>eM (σ1.h n).isSome (k (σ1.eE n (.row gr (match o with|true=>.aN|false=>.aJ) ts (cg xs kk e'))))
   |.aJ=>eM (σ1.h n).isSome (k (σ1.eE n (.row gr .aJ ts (cg xs kk e'))))
theorem Yq (h:Nat->Option SB) (n:Nat):(dd h n).isSome=(h n).isSome:=by
 unfold dd;cases h n<;>rfl
theorem atE {σ:af} {n:Nat} {gr:Bool} {m:Mode} {ts:List Ty} {xs:List (Ty.DL ts)} {kk off:Nat} {e:Ty.DL ts} {vs:List SC} {k:af->Option ρ} {r:ρ}
  (h:V2 σ n gr m ts xs kk off e vs k=some r):
  ∃σ1:af,oA σ.er n gr m ts.length (List.map (Ty.aE ts) xs) kk off (Ty.aE ts e) (vs.map SC.er)=some σ1.er/\k σ1=some r:=by
 unfold V2 at h;split at h
 ·cases h
 ·rename_i ii ho;obtain⟨cs,o,σ1,h1,h2⟩:=IE h;have hold:sub (Ty.aE ts e) off (vs.map SC.er).length=some (dk ii):=by
   rw[<-Ty.pN];simp only[dk];rw[s8,List.length_map,ho];rfl
  split at h2
  ·cases h2
  ·rename_i e' he;have w6:dq (Ty.aE ts e) off (dk cs)=Ty.aE ts e':=by
    rw[xv he,<-Ty.pN];simp only[dk];rw[<-Fb]
   have vd:(List.map (Ty.aE ts) xs).set kk (Ty.aE ts e')=List.map (Ty.aE ts) (cg xs kk e'):=by
    show _=List.map (Ty.aE ts) (xs.set kk e');rw[List.map_set]
   have DX:σ1.er.h n=(σ1.h n).map SB.er:=rfl;split at h2
   ·have hb:=(bZ h2).1;replace h2:=(bZ h2).2;simp only[Bool.and_eq_true,Bool.not_eq_true'] at hb;refine⟨_,?_,h2⟩;simp only[oA,hold,h1,if_true,as1,hb.1.1.1,hb.1.1.2,DX,Option.isSome_map,hb.1.2,hb.2,and_self,w6,vd,af.pO,SB.er]
   ·have hb:=(bZ h2).1;replace h2:=(bZ h2).2;refine⟨_,?_,h2⟩;cases o<;>simp only[oA,hold,h1,DX,Option.isSome_map,hb,w6,vd,af.pO,SB.er,reduceCtorEq,if_false,if_true,Bool.false_eq_true,cond_true,cond_false,ite_self]
   ·have hb:=(bZ h2).1;replace h2:=(bZ h2).2;refine⟨_,?_,h2⟩;cases o<;>simp only[oA,hold,h1,DX,Option.isSome_map,hb,w6,vd,af.pO,SB.er,reduceCtorEq,if_false,if_true,Bool.false_eq_true,cond_true,cond_false,ite_self]
def yw (us ts:List Ty) (xs:List (Ty.DL us)):Option (List (Ty.DL ts)):=if h:Ty.tu us ts=true then some (Ty.tv h▸xs) else none
theorem P7 {us ts:List Ty} {xs:List (Ty.DL us)} {ys:List (Ty.DL ts)} (h:yw us ts xs=some ys):us.length=ts.length/\List.map (Ty.aE us) xs=List.map (Ty.aE ts) ys/\xs.length=ys.length:=by
 unfold yw at h;split at h
 ·rename_i he;have:=Ty.tv he;subst this;injection h with h;rw[<-h];exact⟨rfl,rfl,rfl⟩
 ·cases h
def Vp (σ:af) (ts:List Ty) (v:SV) (k:List (Ty.DL ts)->Mode->af->Option ρ):Option ρ:=
 match v with
 |.one (.nil _)=>k [] .aN σ
 |.one (.sl a s lo len)=>match σ.h a with
  |some (.row true m us xs)=>cv s ts.length (cv lo 0 (match yw us ts xs with
   |some ys=>(bn lo len (aa ys)).ae fun _=>k ys m (σ.del a)
   |none=>none))
  |_=>none
 |_=>none
theorem Lc {lo len l:Nat} {u:Unit} (h:bn lo len l=some u):lo=0/\len=l:=by
 unfold bn at h;split at h
 ·rename_i hc;exact hc
 ·cases h
theorem asX {σ:af} {ts:List Ty} {v:SV} {k:List (Ty.DL ts)->Mode->af->Option ρ} {r:ρ} (h:Vp σ ts v k=some r):
  ∃(xs:List (Ty.DL ts)) (m:Mode) (σ1:af),rR σ.er ts.length v.er=some (List.map (Ty.aE ts) xs,m,σ1.er)/\k xs m σ1=some r:=by
 unfold Vp at h;split at h
 ·exact⟨[],.aN,σ,rfl,h⟩
 ·rename_i a s lo len;split at h
  ·rename_i m us xs hn;have bg:=(aO h).1;replace h:=(aO h).2;subst bg;have bg:=(aO h).1;replace h:=(aO h).2;subst bg;split at h
   ·rename_i ys hc;obtain⟨c1,c2,c3⟩:=P7 hc;rw[ed] at h;obtain⟨_,hf,h⟩:=h;obtain⟨_,hlen⟩:=Lc hf
    replace hlen:len=ys.length:=hlen
    refine⟨ys,m,σ.del a,?_,h⟩;have bu:σ.er.h a=some (.row true m ts.length (List.map (Ty.aE ts) ys)):=by simp[af.er,dd,hn,SB.er,c1,c2]
    subst hlen;simp only[SV.er,SC.er,rR,bu,List.length_map,and_self,if_true,af.Ax]
   ·cases h
  ·cases h
 ·cases h
theorem afy (ts:List Ty) (xs:List (Ty.DL ts)) (h:Ty.fG ts=true):eP (List.map (Ty.aE ts) xs)=true:=by
 simp only[eP,List.all_eq_true,List.mem_map];rintro _ ⟨e,_,rfl⟩;rw[Ty.Ij];exact h
def Vq (fl:Bool) (σ:af) (ts:List Ty) (m:Mode) (v:SV) (k:List (Ty.DL ts)->Mode->af->Option ρ):Option ρ:=
 match v with
 |.one (.nil _)=>k [] m σ
 |.one (.v (.list us) ys)=>match yw us ts ys with
  |some zs=>match fl with
   |true=>eM (Ty.fG ts) (k zs m σ)
   |false=>match m with
    |.live=>none
    |_=>k zs .aJ σ
  |none=>none
 |.one (.sl b s lo len)=>match σ.h b with
  |some (.row gr m' us ys)=>cv s ts.length (match yw us ts ys with
   |some zs=>match fl with
    |true=>eM (Ty.fG ts) ((cr zs lo len).ae fun ws=>k ws m σ)
    |false=>(bn lo len (aa zs)).ae fun _=>match m,m' with
     |.aN,.aN=>k zs .aN (σ.del b)
     |.live,.live=>eM gr (k zs .live (σ.del b))
     |.aJ,.aJ=>k zs .aJ (σ.del b)
     |.aN,.aJ=>k zs .aJ (σ.del b)
     |.aJ,.aN=>k zs .aJ (σ.del b)
     |_,_=>none
   |none=>none)
  |_=>none
 |_=>none
theorem asY {fl:Bool} {σ:af} {ts:List Ty} {m:Mode} {v:SV} {k:List (Ty.DL ts)->Mode->af->Option ρ} {r:ρ} (h:Vq fl σ ts m v k=some r):
  ∃(ys:List (Ty.DL ts)) (m2:Mode) (σ1:af),mD fl σ.er ts.length m v.er=some (List.map (Ty.aE ts) ys,m2,σ1.er)/\k ys m2 σ1=some r:=by
 unfold Vq at h;split at h
 ·exact⟨[],m,σ,rfl,h⟩
 ·rename_i us ys;split at h
  ·rename_i zs hc;obtain⟨e1,e2,e3⟩:=P7 hc;have nM:Ty.er (.list us) ys=.list ts.length (List.map (Ty.aE ts) zs):=by rw[<-e1,<-e2];rfl
   split at h
   ·have hs:=(bZ h).1;replace h:=(bZ h).2;refine⟨zs,m,σ,?_,h⟩;simp only[SV.er,SC.er,nM,mD,if_true,Bool.true_and,afy ts zs hs]
   ·split at h
    ·cases h
    ·rename_i hm;refine⟨zs,.aJ,σ,?_,h⟩;have bP:m≠ .live:=fun e=>hm e;simp only[SV.er,SC.er,nM,mD,if_true,Bool.false_and,Bool.false_eq_true,if_false,if_neg bP]
  ·cases h
 ·rename_i b s lo len;split at h
  ·rename_i gr m' us ys hn;have bg:=(aO h).1;replace h:=(aO h).2;subst bg;split at h
   ·rename_i zs hc;obtain⟨e1,e2,e3⟩:=P7 hc;have bu:σ.er.h b=some (.row gr m' ts.length (List.map (Ty.aE ts) zs)):=by simp[af.er,dd,hn,SB.er,e1,e2]
    split at h
    ·have hs:=(bZ h).1;replace h:=(bZ h).2;rw[ed] at h;obtain⟨ws,hw,h⟩:=h;obtain⟨w1,w2⟩:=aha hw;refine⟨ws,m,σ,?_,h⟩;simp only[SV.er,SC.er,mD,bu,List.length_map,w1,w2,and_self,if_true,Bool.true_and,afy ts ws hs]
    ·rw[ed] at h;obtain⟨_,hf,h⟩:=h;obtain⟨rfl,hlen⟩:=Lc hf
     replace hlen:len=zs.length:=hlen
     subst hlen;have mN:List.take zs.length (List.map (Ty.aE ts) zs)=List.map (Ty.aE ts) zs:=by
      rw[List.take_of_length_le];simp
     cases m<;>cases m'<;>first
      |(cases h;done)
      |exact⟨zs,_,σ.del b,by simp[SV.er,SC.er,mD,bu,af.Ax],h⟩
      |exact⟨zs,_,σ.del b,by have hg:=(bZ h).1;subst hg;simp[SV.er,SC.er,mD,bu,af.Ax],(bZ h).2⟩
   ·cases h
  ·cases h
 ·cases h
def SC.Y5:SC->Bool
 |.fn _ _=>false
 |.bq=>false
 |_=>true
def B1:List SV->Option (List SC)
 |[]=>some []
 |.one c::vs=>match c.Y5,B1 vs with
  |true,some cs=>some (c::cs)
  |_,_=>none
 |_::_=>none
theorem afW:∀{vs:List SV} {cs:List SC},B1 vs=some cs->
  (vs.map SV.er).mapM (fun v=>match v with|.one c=>if c.j4=true then none else some c|_=>none)=some (cs.map SC.er)/\(cs.map SC.er).all ah.MG=true
 |[],cs,h=>by simp only[B1] at h;injection h with h;subst h;exact⟨rfl,rfl⟩
 |.one c::vs,cs,h=>by
  simp only[B1] at h;split at h
  ·rename_i cs' e1 e2;injection h with h;subst h;obtain⟨i1,i2⟩:=afW e2;have hc:c.er.j4=false/\c.er.MG=true:=by cases c<;>first|exact⟨rfl,rfl⟩|(simp[SC.Y5] at e1)
   refine⟨?_,by simp[hc.2];simpa using i2⟩;simp only[List.map_cons,List.mapM_cons,SV.er,hc.1];rw[i1];rfl
  ·cases h
 |.agg _::_,cs,h=>by simp[B1] at h
 |.bK _::_,cs,h=>by simp[B1] at h
end
end
theorem an5 {α β:Type} (f:α->β) {l:List α} {i:Nat} {e:α} (h:l[i]? =some e):(l.map f)[i]? =some (f e):=by rw[List.getElem?_map,h];rfl
section
variable {ρ:Type}
def ML:Bool->Mode
 |true=>.aN
 |false=>.aJ
theorem aqU (o:Bool):(if o=true then Mode.aN else .aJ)=ML o:=by cases o<;>rfl
def MJ (σ:af) (d:Int) (o:Option cQ):Option Int:=
 match o with
 |none=>some d
 |some q=>(σ.ev q).dZ
theorem MK {σ:af} {d l:Int} {o:Option cQ} (h:MJ σ d o=some l):(match o.map cQ.er with|none=>some d|some q=>(σ.er.ev q).dZ)=some l:=by
 cases o with
 |none=>exact h
 |some q=>simp only[Option.map_some,af.dT];exact SV.zb h
def vU (gu:Bool) (n:Int) (c:SC):List SC:=match gu with
 |true=>[.v (.int .i64) n,.v (.int .i64) (1:Int),c]
 |false=>[.v (.int .i64) (1:Int),.v (.int .i64) n,c]
theorem VZ (gu:Bool) (n:Int) (c:SC):(vU gu n c).map SC.er=BR gu n c.er:=by cases gu<;>rfl
def BV:List SC->Option (List TD)
 |[]=>some []
 |.v t x::l=>match t.fk with
  |true=>match BV l with
   |some ds=>some (⟨t,x⟩::ds)
   |none=>none
  |false=>none
 |_::_=>none
theorem afD:∀{vs:List SC} {ds:List TD},BV vs=some ds->mH (vs.map SC.er)=some (dk ds)
 |[],ds,h=>by simp only[BV] at h;injection h with h;subst h;rfl
 |c::vs,ds,h=>by
  cases c with
  |v t x=>
   simp only[BV] at h;split at h
   ·rename_i hs;split at h
    ·rename_i l hl;injection h with h;subst h;simp only[List.map_cons,SC.er,mH,Ty.xN,hs,if_true,afD hl,dk,Option.map_some]
    ·cases h
   ·cases h
  |_=>simp[BV] at h
def V1 (us:List Ty) (e:Ty.DL us) (off s i:Nat) (vs:List SC) (k:Ty.DL us->Option ρ):Option ρ:=
 match(Ty.gO us e)[off]? with
 |some ⟨.list ts,ys⟩=>cv ts.length s (cv vs.length s (eM (Ty.fG ts) ((cK (α:=Ty.DL ts) ys i).ae fun _=>match BV vs with
  |some ds=>match rn ts ds with
   |some el=>match Il us e off ⟨.list ts,cg (α:=Ty.DL ts) ys i el⟩ with
    |some e'=>k e'
    |none=>none
   |none=>none
  |none=>none)))
 |_=>none
theorem ate {us ts:List Ty} {xs:List (Ty.DL us)} {kk off i:Nat} {e e':Ty.DL us} {vs:List SC} {ds:List TD} {el y0:Ty.DL ts} (ys:List (Ty.DL ts)) (he:xs[kk]? =some e) (hd:(Ty.gO us e)[off]? =some ⟨.list ts,ys⟩)
  (ja:vs.length=ts.length) (hs:Ty.fG ts=true) (hy:ys[i]? =some y0) (jl:BV vs=some ds) (lD:rn ts ds=some el) (w6:Il us e off ⟨.list ts,cg ys i el⟩=some e'):
  xO (List.map (Ty.aE us) xs) kk off ts.length i (vs.map SC.er)=some (List.map (Ty.aE us) (cg xs kk e')):=by
 have iV:(Ty.aE us e)[off]? =some (.list ts.length (List.map (Ty.aE ts) ys)):=KI hd;have hx:(List.map (Ty.aE us) xs)[kk]? =some (Ty.aE us e):=by rw[List.getElem?_map,he];rfl
 have hi:i<(List.map (Ty.aE ts) ys).length:=by rw[List.length_map];exact(List.getElem?_eq_some_iff.1 hy).1
 have aaB:Ty.aE us e'=(Ty.aE us e).set off (.list ts.length (List.map (Ty.aE ts) (cg ys i el))):=VD w6;unfold xO;rw[hx,Option.bind_some,iV];simp only
 rw[if_pos ⟨trivial,by simpa using ja,hi,ue ts ys hs⟩,afD jl,List.getD_eq_getElem?_getD,hx];simp only[Option.map_some,Option.getD_some];unfold cg at aaB⊢;rw[List.map_set,aaB,List.map_set,xv lD]
theorem atD {us:List Ty} {xs:List (Ty.DL us)} {kk:Nat} {e:Ty.DL us} {off s i:Nat} {vs:List SC} {k:Ty.DL us->Option ρ} {r:ρ} (he:xs[kk]? =some e) (h:V1 us e off s i vs k=some r):
  ∃e',xO (List.map (Ty.aE us) xs) kk off s i (vs.map SC.er)=some (List.map (Ty.aE us) (cg xs kk e'))/\k e'=some r:=by
 unfold V1 at h;split at h
 ·rename_i ts ys hd;have yL:=(aO h).1;replace h:=(aO h).2;have tJ:=(aO h).1;replace h:=(aO h).2;have hs:=(bZ h).1;replace h:=(bZ h).2;rw[ed] at h;obtain⟨y0,hy,h⟩:=h;split at h
  ·rename_i ds jl;split at h
   ·rename_i el lD;split at h
    ·rename_i e' w6;subst yL;exact⟨e',ate ys he hd tJ hs hy jl lD w6,h⟩
    ·cases h
   ·cases h
  ·cases h
 ·cases h
def fm (T:List au) (d:Option Nat) (op:dA) (σ:af) (k:af->Option ρ):Option ρ:=
 match op with
 |.mv x=>k (σ.put d (σ.ev x))
 |.pick c x y=>match σ.ev c with
  |.one (.v .bool b)=>match σ.ev x,σ.ev y with
   |.one (.v t x'),.one (.v u y')=>match Ty.cast u t y' with
    |some z=>k (σ.put d (.one (.v t (aw b x' z))))
    |none=>aw b (k (σ.put d (σ.ev x))) (k (σ.put d (σ.ev y)))
   |_,_=>aw b (k (σ.put d (σ.ev x))) (k (σ.put d (σ.ev y)))
  |_=>none
 |.alloc zs=>match d with
  |some n=>match σ.ins n (.box zs) with
   |some σ1=>k (σ1.put d (.one (.ptr n 0 0 0)))
   |none=>none
  |none=>none
 |.box sz x=>match d,(σ.ev x).cells? with
  |some n,some (_,cs)=>cv cs.length sz (match σ.ins n (.box cs) with
   |some σ1=>k (σ1.put d (.one (.ptr n 0 0 0)))
   |none=>none)
  |_,_=>none
 |.build zs parts=>match ID σ.ev zs parts with
  |some cs=>k (σ.put d (.agg cs))
  |none=>none
 |.fI ts parts=>match d with
  |some n=>NQ ts σ (parts.map σ.ev) fun es o σ1=>match σ1.ins n (.row true (ML o) ts es) with
   |some σ2=>k (σ2.put d (.one (.sl n ts.length 0 es.length)))
   |none=>none
  |none=>none
 |.load ag sz x=>match σ.ev x with
  |.one p=>Iv σ.h p sz fun cs=>k (σ.put d (Cc ag cs))
  |_=>none
 |.rj ag sz x=>match σ.ev x with
  |.one p=>VF σ p fun σ1=>Iv σ1.h p sz fun cs=>k (σ1.put d (Cc ag cs))
  |_=>none
 |.store sz x v=>match σ.ev x,(σ.ev v).cells? with
  |.one (.ptr n kk aB off),some (_,vs)=>cv vs.length sz (match σ.h n with
   |some (.box cs)=>cv kk 0 (eM (Nat.ble (off+sz) cs.length) (k (σ.eE n (.box (dq cs off vs)))))
   |some (.row gr m ts xs)=>cv aB ts.length ((cK xs kk).ae fun e=>V2 σ n gr m ts xs kk off e vs k)
   |none=>none)
  |.one (.db n kk aB off s i),some (_,vs)=>cv vs.length sz (match σ.h n with
   |some (.row false .live us xs)=>cv aB us.length ((cK xs kk).ae fun e=>V1 us e off s i vs fun e'=>k (σ.eE n (.row false .live us (cg xs kk e'))))
   |_=>none)
  |_,_=>none
 |.qi x=>match σ.ev x with
  |.one (.ptr n kk sz off)=>eM (σ.h n).isSome (k (σ.put d (.one (.ptr n kk sz off))))
  |.one (.dg ts x off)=>k (σ.put d (.one (.dg ts x off)))
  |.one (.cH ts x off j n s len)=>k (σ.put d (.one (.cH ts x off j n s len)))
  |_=>none
 |.bin op x y=>P1 op (σ.ev x) (σ.ev y) fun t z=>k (σ.put d (.one (.v t z)))
 |.nI op x y=>P0 op (σ.ev x) (σ.ev y) fun t z=>k (σ.put d (.one (.v t z)))
 |.un op x=>Wv op (σ.ev x) fun t z=>k (σ.put d (.one (.v t z)))
 |.conv kd x=>match σ.ev x with
  |.one (.v (.int _) n)=>k (σ.put d (.one (.v (.int kd) (aii kd n))))
  |_=>none
 |.iK m ts by_ z l c=>match d,(σ.ev l).dZ,(σ.ev c).dZ with
  |some n,some a,some b=>(lc a b by_).ae fun len=>match σ.ins n (.row true m ts (dG len z)) with
   |some σ1=>k (σ1.put d (.one (.sl n ts.length 0 len)))
   |none=>none
  |_,_,_=>none
 |.slice sz x lo hi=>
  match σ.ev x,MJ σ 0 lo with
  |.one (.sl n s l0 len),some l=>
   match MJ σ (aA len) hi with
   |some h=>cv s sz (eM (σ.h n).isSome ((jN l h len).ae fun p=>k (σ.put d (.one (.sl n s (aI l0 p.1) p.2)))))
   |none=>none
  |.one (.v (.list ts) xs),some l=>
   match MJ σ (aA (aa (α:=Ty.DL ts) xs)) hi with
   |some h=>cv ts.length sz ((jN l h (aa (α:=Ty.DL ts) xs)).ae fun p=>k (σ.put d (.one (.v (.list ts) (iM (α:=Ty.DL ts) xs p.1 p.2)))))
   |none=>none
  |_,_=>none
 |.tail sz x lo=>match d,σ.ev x,(σ.ev lo).dZ with
  |some n,.one (.sl a s l0 len),some l=>match σ.h a with
   |some (.row true m ts xs)=>cv s ts.length (cv ts.length sz (cv l0 0 ((bn l0 len (aa xs)).ae fun _=>(jN l (aA (aa xs)) (aa xs)).ae fun p=>
    match(σ.del a).ins n (.row true m ts (iM xs p.1 p.2)) with
    |some σ1=>k (σ1.put d (.one (.sl n sz 0 p.2)))
    |none=>none)))
   |_=>none
  |_,_,_=>none
 |.nP off x=>match σ.ev x with
  |.one (.ptr n kk sz o)=>eM (σ.h n).isSome (k (σ.put d (.one (.ptr n kk sz (o+off)))))
  |.one (.dg ts x o)=>k (σ.put d (.one (.dg ts x (o+off))))
  |.one (.cH ts x o j n s len)=>k (σ.put d (.one (.cH ts x (o+off) j n s len)))
  |_=>none
 |.nw sz x i=>match σ.ev x,(σ.ev i).dZ with
  |.one (.sl n s lo len),some j=>cv s sz (eM (σ.h n).isSome ((eY j len).ae fun q=>k (σ.put d (.one (.ptr n (aI lo q) s 0)))))
  |.one (.v (.list ts) xs),some j=>cv ts.length sz ((dm (α:=Ty.DL ts) xs j).ae fun e=>k (σ.put d (.one (.dg ts e 0))))
  |.one (.bC n kk aB off s len),some j=>xS σ.h (.bC n kk aB off s len) fun t x=>match t,x with
   |.list ts,ys=>cv ts.length sz ((eY j (aa (α:=Ty.DL ts) ys)).ae fun q=>k (σ.put d (.one (.db n kk aB off sz q))))
   |_,_=>none
  |_,_=>none
 |.ext i x=>match σ.ev x with
  |.bK xs=>match xs[i]? with
   |some (ag,cs)=>k (σ.put d (Cc ag cs))
   |none=>none
  |_=>none
 |.sb ag off sz x=>match σ.ev x with
  |.agg cs=>match sub cs off sz with
   |some l=>k (σ.put d (Cc ag l))
   |none=>none
  |_=>none
 |.rC f gu x=>match σ.ev x with
  |.one (.sl n sz lo len)=>eM (σ.h n).isSome (k (σ.put d (.agg (vU gu (aA len) (.sl n sz lo len)))))
  |.one (.v (.list ts) xs)=>k (σ.put d (.agg (vU gu (aA (aa (α:=Ty.DL ts) xs)) (.v (.list ts) xs))))
  |.one (.nil ts)=>k (σ.put d (.agg (vU gu (0:Int) (.nil ts))))
  |_=>none
 |.len x=>match σ.ev x with
  |.one (.sl n sz lo len)=>eM (σ.h n).isSome (k (σ.put d (.one (.v (.int .i64) (aA len)))))
  |.one (.v (.list ts) xs)=>k (σ.put d (.one (.v (.int .i64) (aA (aa (α:=Ty.DL ts) xs)))))
  |.one (.nil ts)=>k (σ.put d (.one (.v (.int .i64) (0:Int))))
  |.one (.bC n kk aB off sz len)=>xS σ.h (.bC n kk aB off sz len) fun t x=>match t,x with
   |.list ts,ys=>k (σ.put d (.one (.v (.int .i64) (aA (aa (α:=Ty.DL ts) ys)))))
   |_,_=>none
  |_=>none
 |.append fl ts by_ x y=>match d with
  |none=>none
  |some n=>Vp σ ts (σ.ev x) fun xs m σ1=>Vq fl σ1 ts m (σ.ev y) fun ys m2 σ2=>
   (ku (aI (aa xs) (aa ys)) by_).ae fun _=>match σ2.ins n (.row true m2 ts (dQ xs ys)) with
    |some gN=>k (gN.put d (.one (.sl n ts.length 0 (aI (aa xs) (aa ys)))))
    |none=>none
 |.mm mx x y=>match σ.ev x,σ.ev y with
  |.one (.v (.int kd) a),.one (.v (.int kd') b)=>match mx with
   |true=>k (σ.put d (.one (.v (.int kd) (Tk a b))))
   |false=>k (σ.put d (.one (.v (.int kd) (Et a b))))
  |_,_=>none
 |.call m f xs=>Nj T m d f (xs.map σ.ev) σ k
 |.oK f xs=>Vw T d f (xs.map σ.ev) σ k
 |.copy x y=>match σ.ev x,σ.ev y with
  |.one (.sl n s lo len),.one c=>match σ.h n with
   |some (.row gr m ts xs)=>cv s 1 (cv ts.length 1 (eM (m.own&&Ty.fG ts) (xS σ.h c fun u ys=>match u,ys with
    |.list us,ys=>match Ty.cast (.list us) (.list ts) ys with
     |some zs=>(Aq (α:=Ty.DL ts) xs lo len (List.take (α:=Ty.DL ts) len zs)).ae fun av=>k ((σ.eE n (.row gr m ts av)).put d (.one (.v (.int .i64) (aA (Nat.min (aa (α:=Ty.DL ts) zs) len)))))
     |none=>none
    |_,_=>none)))
   |_=>none
  |_,_=>none
 |.mG t z x=>match σ.ev x with
  |.one (.sl n s lo len)=>match σ.h n with
   |some (.row gr m ts xs)=>cv s 1 (eM (m.own&&t.fk) (match rn ts [⟨t,z⟩] with
    |some e=>(Aq (α:=Ty.DL ts) xs lo len (dG len e)).ae fun av=>k ((σ.eE n (.row gr m ts av)).put d (.bK []))
    |none=>none))
   |_=>none
  |_=>none
 |.sM f xs=>match B1 (xs.map σ.ev) with
  |some cs=>k (σ.put d (.one (.fn f cs)))
  |none=>none
 |.oL m x xs=>match σ.ev x with
  |.one (.fn f cP)=>Nj T m d f (xs.map σ.ev++cP.map .one) σ k
  |_=>none
 |.gU m f xs=>Vx T m d f (xs.map σ.ev) σ k
 |.km f xs=>Vv T d f (xs.map σ.ev) σ k
 |.m6 f xs=>VB T d f (xs.map σ.ev) σ k
 |.m5 f xs=>VA T d f (xs.map σ.ev) σ k
 |.nJ m f xs=>VC T m d f (xs.map σ.ev) σ k
 |.pM m f x xs=>match σ.ev x with
  |.one (.fn g cP)=>cv g f (Vz T m d f (xs.map σ.ev++cP.map .one) σ k)
  |_=>none
theorem Gw {σ:af} {n:Nat} {b:SB} (h:σ.h n=some b):σ.er.h n=some b.er:=by simp[af.er,dd,h]
theorem Dq {σ:af} {n:Nat} (h:(σ.h n).isSome=true):(σ.er.h n).isSome=true:=by
 simp only[af.er,Yq,h]
theorem Wz (t:Ty) (x:t.D):(SV.one (.v t x)).er=.one (.c (t.er x)):=rfl
theorem XX {ts:List Ty} {xs av ys:List (Ty.DL ts)} {lo len:Nat} (h:Aq xs lo len ys=some av):lo+len<=xs.length/\List.map (Ty.aE ts) av=dq (List.map (Ty.aE ts) xs) lo (List.map (Ty.aE ts) ys):=by
 unfold Aq at h;split at h
 ·rename_i hc;injection h with h;subst h;exact⟨hc,Fb (Ty.aE ts) xs ys lo⟩
 ·cases h
theorem Ty.ahU {t u:Ty} {x:t.D} {y:u.D} (h:Ty.cast t u x=some y):t.er x=u.er y:=by
 unfold Ty.cast at h;split at h
 ·rename_i he;have:=Ty.beq_eq he;subst this;injection h with h;rw[<-h]
 ·cases h
theorem afI {T:List au} {d:Option Nat} {op:dA} {σ:af} {k:af->Option ρ} {r:ρ} (h:fm T d op σ k=some r):
  ∃σ1:af,exec (cM T) d op.er σ.er=some σ1.er/\k σ1=some r:=by
 cases op with
 |mv x=>exact⟨_,by simp only[dA.er,exec,af.dY,af.dT],h⟩
 |pick c x y=>
  simp only[fm] at h;split at h
  ·rename_i b hc;have dt:σ.er.ev c.er=.one (.c (.bool b)):=by rw[af.dT,hc];rfl
   have cW:∀σ1:af,σ1.er=σ.er.put d (cond b (σ.ev x).er (σ.ev y).er)->exec (cM T) d (dA.er (.pick c x y)) σ.er=some σ1.er:=by
    intro σ1 e;simp only[dA.er,exec,dt,af.dT,e];cases b<;>rfl
   have gen:aw b (k (σ.put d (σ.ev x))) (k (σ.put d (σ.ev y)))=some r->∃σ1:af,exec (cM T) d (dA.er (.pick c x y)) σ.er=some σ1.er/\k σ1=some r:=by
    intro h;cases hb:(b:Bool) with
    |true=>rw[hb] at h;exact⟨_,cW _ (by rw[af.dY,hb];rfl),h⟩
    |false=>rw[hb] at h;exact⟨_,cW _ (by rw[af.dY,hb];rfl),h⟩
   split at h
   ·rename_i t x' u y' ex ey;split at h
    ·rename_i z hz;refine⟨_,cW _ ?_,h⟩;rw[af.dY,ex,ey,Wz,Wz,Wz,Ty.P8 hz];cases (b:Bool)<;>rfl
    ·exact gen h
   ·exact gen h
  ·cases h
 |alloc zs=>
  simp only[fm] at h;split at h
  ·rename_i n;split at h
   ·rename_i σ1 e;have:=af.oO e;exact⟨_,by simp only[dA.er,exec];rw[show aq.box (zs.map SC.er)=(SB.box zs).er from rfl,this,af.dY];rfl,h⟩
   ·cases h
  ·cases h
 |box sz x=>
  simp only[fm] at h;split at h
  ·rename_i n b cs hc;have bg:=(aO h).1;replace h:=(aO h).2;subst bg;split at h
   ·rename_i σ1 e;have:=af.oO e;refine⟨_,?_,h⟩;simp only[dA.er,exec,af.dT,SV.kK hc,List.length_map,if_true];rw[show aq.box (cs.map SC.er)=(SB.box cs).er from rfl,this,af.dY];rfl
   ·cases h
  ·cases h
 |build zs parts=>
  simp only[fm] at h;split at h
  ·rename_i cs hc;exact⟨_,by simp only[dA.er,exec,agp hc,af.dY];rfl,h⟩
  ·cases h
 |fI ts parts=>
  simp only[fm] at h;split at h
  ·rename_i n;obtain⟨es,o,σ1,h1,h2⟩:=ags h;split at h2
   ·rename_i σ2 e;have i:=af.oO e;refine⟨_,?_,h2⟩;simp only[dA.er,exec,tA,h1,af.dY];have:(SB.row true (ML o) ts es).er=aq.row true (ML o) ts.length (List.map (Ty.aE ts) es):=rfl;rw[aqU,<-this,i,List.length_map];rfl
   ·cases h2
  ·cases h
 |load ag sz x=>
  simp only[fm] at h;split at h
  ·rename_i p hp;obtain⟨l,h1,h2⟩:=VH h;have bB:σ.er.ev x.er=.one p.er:=by rw[af.dT,hp];rfl
   have iU:loadAt σ.er.h p.er sz=some (l.map SC.er):=h1;exact⟨_,by simp only[dA.er,exec,bB,iU,af.dY,Fo],h2⟩
  ·cases h
 |rj ag sz x=>
  simp only[fm] at h;split at h
  ·rename_i p hp;obtain⟨σ1,h0,h⟩:=atg h;obtain⟨l,h1,h2⟩:=VH h;have bB:σ.er.ev x.er=.one p.er:=by rw[af.dT,hp];rfl
   have iU:loadAt σ1.er.h p.er sz=some (l.map SC.er):=h1;exact⟨_,by simp only[dA.er,exec,bB,h0,iU,af.dY,Fo],h2⟩
  ·cases h
 |store sz x v=>
  simp only[fm] at h;split at h
  ·rename_i n kk aB off b vs hp hc;have bg:=(aO h).1;replace h:=(aO h).2;subst bg;have bB:σ.er.ev x.er=.one (.ptr n kk aB off):=by rw[af.dT,hp];rfl
   have dt:(σ.er.ev v.er).cells?=some (b,vs.map SC.er):=by rw[af.dT];exact SV.kK hc
   split at h
   ·rename_i cs hn;have bg:=(aO h).1;replace h:=(aO h).2;subst bg;have hb:=(bZ h).1;replace h:=(bZ h).2;have gG:=Nat.le_of_ble_eq_true hb;refine⟨_,?_,h⟩;simp only[dA.er,exec,bB,dt,List.length_map,if_true,Gw hn,SB.er,gG,and_self,af.pO,<-Fb]
   ·rename_i gr m ts xs hn;have bg:=(aO h).1;replace h:=(aO h).2;subst bg;rw[ed] at h;obtain⟨e,he,h⟩:=h
    replace he:xs[kk]? =some e:=he
    obtain⟨σ1,s1,s2⟩:=atE h;refine⟨σ1,?_,s2⟩;have iV:(List.map (Ty.aE ts) xs)[kk]? =some (Ty.aE ts e):=by rw[List.getElem?_map,he];rfl
    simp only[dA.er,exec,bB,dt,List.length_map,if_true,Gw hn,SB.er,iV,s1]
   ·cases h
  ·rename_i n kk aB off s i b vs hp hc;have bg:=(aO h).1;replace h:=(aO h).2;subst bg;have bB:σ.er.ev x.er=.one (.db n kk aB off s i):=by rw[af.dT,hp];rfl
   have dt:(σ.er.ev v.er).cells?=some (b,vs.map SC.er):=by rw[af.dT];exact SV.kK hc
   split at h
   ·rename_i gr us xs hn;have bg:=(aO h).1;replace h:=(aO h).2;subst bg;rw[ed] at h;obtain⟨e,he,h⟩:=h
    replace he:xs[kk]? =some e:=he
    obtain⟨e',s1,s2⟩:=atD he h;refine⟨_,?_,s2⟩;simp only[dA.er,exec,bB,dt,List.length_map,if_true,Gw hn,SB.er,s1,af.pO]
   ·cases h
  ·cases h
 |qi x=>
  simp only[fm] at h;split at h
  ·rename_i n kk sz off hp;have hb:=(bZ h).1;replace h:=(bZ h).2;have bB:σ.er.ev x.er=.one (.ptr n kk sz off):=by rw[af.dT,hp];rfl
   exact⟨_,by simp only[dA.er,exec,bB,Dq hb,if_true,af.dY];rfl,h⟩
  ·rename_i ts y off hp;have bB:σ.er.ev x.er=.one (.dg (Ty.aE ts y) off):=by rw[af.dT,hp];rfl
   exact⟨_,by simp only[dA.er,exec,bB,af.dY];rfl,h⟩
  ·rename_i ts y off j n s len hp;have bB:σ.er.ev x.er=.one (.cH (Ty.aE ts y) off j n s len):=by rw[af.dT,hp];rfl
   exact⟨_,by simp only[dA.er,exec,bB,af.dY];rfl,h⟩
  ·cases h
 |bin op x y=>
  simp only[fm] at h;obtain⟨t,z,h1,h2⟩:=ahM h;exact⟨_,by simp only[dA.er,exec,af.dT,h1,af.dY];rfl,h2⟩
 |nI op x y=>
  simp only[fm] at h;obtain⟨t,z,h1,h2⟩:=ahK h;exact⟨_,by simp only[dA.er,exec,af.dT,h1,af.dY];rfl,h2⟩
 |un op x=>
  simp only[fm] at h;obtain⟨t,z,h1,h2⟩:=at6 h;exact⟨_,by simp only[dA.er,exec,af.dT,h1,af.dY];rfl,h2⟩
 |conv kd x=>
  simp only[fm] at h;split at h
  ·rename_i k' n hp;have bB:σ.er.ev x.er=.one (.c (.int k' n)):=by rw[af.dT,hp];rfl
   exact⟨_,by simp only[dA.er,exec,bB,af.dY];rfl,h⟩
  ·cases h
 |iK m ts by_ z l c=>
  simp only[fm] at h;split at h
  ·rename_i n a b ha hb;rw[ed] at h;obtain⟨len,hm,h⟩:=h;unfold lc at hm;split at hm
   ·rename_i cV;injection hm with hm;subst hm;split at h
    ·rename_i σ1 e;have i:=af.oO e;have tH:(σ.er.ev l.er).dZ=some a:=by rw[af.dT];exact SV.zb ha
     have aL:(σ.er.ev c.er).dZ=some b:=by rw[af.dT];exact SV.zb hb
     refine⟨_,?_,h⟩;have hz:(Ty.aE ts z).length=ts.length:=Ty.Dp ts z;have eH:(SB.row true m ts (dG a.toNat z)).er=aq.row true m ts.length (List.replicate a.toNat (Ty.aE ts z)):=by simp[SB.er,dG,List.map_replicate]
     have Rm:a<=b/\0<=a/\b.toNat*by_<=dX/\(Ty.aE ts z).length=ts.length:=⟨cV.1,cV.2.1,cV.2.2,hz⟩;simp only[dA.er,exec,tH,aL,if_pos Rm,<-eH,i,af.dY];rfl
    ·cases h
   ·cases hm
  ·cases h
 |slice sz x lo hi=>
  simp only[fm] at h;split at h
  ·rename_i n s l0 len l hp el;have bB:σ.er.ev x.er=.one (.sl n s l0 len):=by rw[af.dT,hp];rfl
   split at h
   ·rename_i hh eh;have bg:=(aO h).1;replace h:=(aO h).2;subst bg;have hb:=(bZ h).1;replace h:=(bZ h).2;rw[ed] at h;obtain⟨p,hs,h⟩:=h;unfold jN at hs;split at hs
    ·rename_i cV;injection hs with hs;subst hs;refine⟨_,?_,h⟩;have wK:s=s/\0<=l/\l<=hh/\hh<=len/\(σ.er.h n).isSome=true:=⟨rfl,cV.1,cV.2.1,cV.2.2,Dq hb⟩;have e1:=MK el;have e2:=MK eh;rw[af.dY];cases lo with
     |none=>
      simp only[Option.map_none,Option.some.injEq] at e1;subst e1;cases hi with
      |none=>
       simp only[Option.map_none,Option.some.injEq] at e2;subst e2;simp only[dA.er,exec,bB,Option.map_none];exact if_pos ⟨trivial,wK.2⟩
      |some q=>
       simp only[Option.map_some] at e2;simp only[dA.er,exec,bB,Option.map_none,Option.map_some,e2];exact if_pos ⟨trivial,wK.2⟩
     |some q0=>
      simp only[Option.map_some] at e1;cases hi with
      |none=>
       simp only[Option.map_none,Option.some.injEq] at e2;subst e2;simp only[dA.er,exec,bB,Option.map_none,Option.map_some,e1];exact if_pos ⟨trivial,wK.2⟩
      |some q=>
       simp only[Option.map_some] at e2;simp only[dA.er,exec,bB,Option.map_some,e1,e2];exact if_pos ⟨trivial,wK.2⟩
    ·cases hs
   ·cases h
  ·rename_i ts xs l hp el;have bB:σ.er.ev x.er=.one (.c (.list ts.length (List.map (Ty.aE ts) xs))):=by rw[af.dT,hp];rfl
   split at h
   ·rename_i hh eh;have bg:=(aO h).1;replace h:=(aO h).2;subst bg;rw[ed] at h;obtain⟨p,hs,h⟩:=h;unfold jN at hs;split at hs
    ·rename_i cV;injection hs with hs;subst hs;refine⟨_,?_,h⟩;have wK:ts.length=ts.length/\0<=l/\l<=hh/\hh<=(List.map (Ty.aE ts) xs).length:=⟨rfl,cV.1,cV.2.1,Int.le_trans cV.2.2 (Int.le_of_eq (congrArg _ (List.length_map (Ty.aE ts)).symm))⟩;have e1:=MK el;have e2:(match hi.map cQ.er with|none=>some (((List.map (Ty.aE ts) xs).length:Nat):Int)|some q=>(σ.er.ev q).dZ)=some hh:=by rw[show(List.map (Ty.aE ts) xs).length=List.length (α:=Ty.DL ts) xs from List.length_map (Ty.aE ts)];exact MK eh
     rw[af.dY];have Lw:List.map (Ty.aE ts) (List.take (hh - l).toNat (List.drop (α:=Ty.DL ts) l.toNat xs))=((List.map (Ty.aE ts) xs).drop l.toNat).take (hh - l).toNat:=by
      rw[List.map_take];exact congrArg (List.take (hh - l).toNat) List.map_drop
     refine Eq.trans ?_ (congrArg (fun q=>some (σ.er.put d (aj.one (.c (.list ts.length q))))) Lw.symm);cases lo with
     |none=>
      simp only[Option.map_none,Option.some.injEq] at e1;subst e1;cases hi with
      |none=>
       simp only[Option.map_none,Option.some.injEq] at e2;subst e2;simp only[dA.er,exec,bB,Option.map_none];exact if_pos ⟨trivial,wK.2⟩
      |some q=>
       simp only[Option.map_some] at e2;simp only[dA.er,exec,bB,Option.map_none,Option.map_some,e2];exact if_pos ⟨trivial,wK.2⟩
     |some q0=>
      simp only[Option.map_some] at e1;cases hi with
      |none=>
       simp only[Option.map_none,Option.some.injEq] at e2;subst e2;simp only[dA.er,exec,bB,Option.map_none,Option.map_some,e1];exact if_pos ⟨trivial,wK.2⟩
      |some q=>
       simp only[Option.map_some] at e2;simp only[dA.er,exec,bB,Option.map_some,e1,e2];exact if_pos ⟨trivial,wK.2⟩
    ·cases hs
   ·cases h
  ·cases h
 |tail sz x lo=>
  simp only[fm] at h;split at h
  ·rename_i n a0 s l0 len l hp hl;have bB:σ.er.ev x.er=.one (.sl a0 s l0 len):=by rw[af.dT,hp];rfl
   have eQ:(σ.er.ev lo.er).dZ=some l:=by rw[af.dT];exact SV.zb hl
   split at h
   ·rename_i m ts xs hn;have bg:=(aO h).1;replace h:=(aO h).2;subst bg;have bg:=(aO h).1;replace h:=(aO h).2;subst bg;have bg:=(aO h).1;replace h:=(aO h).2;subst bg;rw[ed] at h;obtain⟨_,hf,h⟩:=h;obtain⟨_,hlen⟩:=Lc hf;rw[ed] at h;obtain⟨p,hs,h⟩:=h;unfold jN at hs;split at hs
    ·rename_i cV;injection hs with hs;subst hs;simp only at h;split at h
     ·rename_i σ1 e1;refine⟨_,?_,h⟩;have DS:len=xs.length:=hlen;have aal:0<=l/\l<=(xs.length:Int):=⟨cV.1,cV.2.1⟩;have bu:σ.er.h a0=some (.row true m ts.length (List.map (Ty.aE ts) xs)):=by simp[af.er,dd,hn,SB.er]
      have i1:=af.oO e1;have e2:(aA (aa xs) - l).toNat=xs.length - l.toNat:=by simp only[aA,aa];omega
      have e3:iM xs l.toNat (aA (aa xs) - l).toNat=xs.drop l.toNat:=by rw[e2];unfold iM;rw[List.take_of_length_le (by simp)]
      rw[e3] at i1;simp only[SB.er,af.Ax,List.map_drop] at i1;simp only[dA.er,exec,bB,eQ,bu,List.length_map,DS,aal.1,aal.2,and_self,if_true,i1,af.dY,SV.er,SC.er,e2]
     ·cases h
    ·cases hs
   ·cases h
  ·cases h
 |nP off x=>
  simp only[fm] at h;split at h
  ·rename_i n kk sz o hp;have hb:=(bZ h).1;replace h:=(bZ h).2;have bB:σ.er.ev x.er=.one (.ptr n kk sz o):=by rw[af.dT,hp];rfl
   exact⟨_,by simp only[dA.er,exec,bB,Dq hb,if_true,af.dY];rfl,h⟩
  ·rename_i ts y o hp;have bB:σ.er.ev x.er=.one (.dg (Ty.aE ts y) o):=by rw[af.dT,hp];rfl
   exact⟨_,by simp only[dA.er,exec,bB,af.dY];rfl,h⟩
  ·rename_i ts y o j n s len hp;have bB:σ.er.ev x.er=.one (.cH (Ty.aE ts y) o j n s len):=by rw[af.dT,hp];rfl
   exact⟨_,by simp only[dA.er,exec,bB,af.dY];rfl,h⟩
  ·cases h
 |nw sz x i=>
  simp only[fm] at h;split at h
  ·rename_i n s lo len j hp hi;have bg:=(aO h).1;replace h:=(aO h).2;subst bg;have hb:=(bZ h).1;replace h:=(bZ h).2;rw[ed] at h;obtain⟨q,hq,h⟩:=h;unfold eY at hq;split at hq
   ·rename_i cV;injection hq with hq;subst hq;have bB:σ.er.ev x.er=.one (.sl n s lo len):=by rw[af.dT,hp];rfl
    have hi':(σ.er.ev i.er).dZ=some j:=by rw[af.dT];exact SV.zb hi
    refine⟨_,?_,h⟩;have Rm:s=s/\0<=j/\j<len/\(σ.er.h n).isSome=true:=⟨rfl,cV.1,cV.2,Dq hb⟩;simp only[dA.er,exec,bB,hi',af.dY];exact if_pos ⟨trivial,Rm.2⟩
   ·cases hq
  ·rename_i ts xs j hp hi;have bg:=(aO h).1;replace h:=(aO h).2;subst bg;rw[ed] at h;obtain⟨e,he,h⟩:=h;unfold dm at he;split at he
   ·rename_i cV;have bB:σ.er.ev x.er=.one (.c (.list ts.length (List.map (Ty.aE ts) xs))):=by rw[af.dT,hp];rfl
    have hi':(σ.er.ev i.er).dZ=some j:=by rw[af.dT];exact SV.zb hi
    have iV:(List.map (Ty.aE ts) xs)[j.toNat]? =some (Ty.aE ts e):=an5 (Ty.aE ts) he;refine⟨_,?_,h⟩;simp only[dA.er,exec,bB,hi',cV,and_self,if_true,iV,af.dY];rfl
   ·cases he
  ·rename_i n kk aB off s len j hp hi;obtain⟨t,y,h1,h2⟩:=B9 h;have bB:σ.er.ev x.er=.one (.bC n kk aB off s len):=by rw[af.dT,hp];rfl
   have hi':(σ.er.ev i.er).dZ=some j:=by rw[af.dT];exact SV.zb hi
   have iU:cO σ.er.h (.bC n kk aB off s len)=some (t.er y):=h1;split at h2
   ·rename_i ts ys;have bg:=(aO h2).1;replace h2:=(aO h2).2;subst bg;rw[ed] at h2;obtain⟨q,hq,h2⟩:=h2;unfold eY at hq;split at hq
    ·rename_i cV;injection hq with hq;subst hq;refine⟨_,?_,h2⟩;simp only[dA.er,exec,bB,hi',iU,Ty.er,af.dY];exact if_pos ⟨trivial,cV.1,by rw[show(List.map (Ty.aE ts) ys).length=aa (α:=Ty.DL ts) ys from List.length_map (Ty.aE ts)];exact cV.2⟩
    ·cases hq
   ·cases h2
  ·cases h
 |ext i x=>
  simp only[fm] at h;split at h
  ·rename_i xs hp;split at h
   ·rename_i ag cs hg;have bB:σ.er.ev x.er=.bK (xs.map fun x=>(x.1,x.2.map SC.er)):=by rw[af.dT,hp];rfl
    refine⟨_,?_,h⟩;simp only[dA.er,exec,bB,List.getElem?_map,hg,Option.map_some,af.dY,Fo]
   ·cases h
  ·cases h
 |sb ag off sz x=>
  simp only[fm] at h;split at h
  ·rename_i cs hp;have bB:σ.er.ev x.er=.agg (cs.map SC.er):=by rw[af.dT,hp];rfl
   split at h
   ·rename_i l hl;exact⟨_,by simp only[dA.er,exec,bB,s8,hl,Option.map_some,af.dY,Fo],h⟩
   ·cases h
  ·cases h
 |rC f gu x=>
  simp only[fm] at h;split at h
  ·rename_i n sz lo len hp;have hb:=(bZ h).1;replace h:=(bZ h).2;have bB:σ.er.ev x.er=.one (.sl n sz lo len):=by rw[af.dT,hp];rfl
   refine⟨_,?_,h⟩;simp only[dA.er,exec,bB,Dq hb,if_true,af.dY];rw[show(SV.agg (vU gu (aA len) (.sl n sz lo len))).er=.agg ((vU gu (aA len) (.sl n sz lo len)).map SC.er) from rfl,VZ]
   rfl
  ·rename_i ts xs hp;have bB:σ.er.ev x.er=.one (.c (.list ts.length (List.map (α:=Ty.DL ts) (Ty.aE ts) xs))):=by rw[af.dT,hp];rfl
   refine⟨_,?_,h⟩;simp only[dA.er,exec,bB,af.dY];rw[show(SV.agg (vU gu (aA (aa (α:=Ty.DL ts) xs)) (.v (.list ts) xs))).er=.agg ((vU gu (aA (aa (α:=Ty.DL ts) xs)) (.v (.list ts) xs)).map SC.er) from rfl,VZ]
   congr 3;congr 1;exact congrArg Int.ofNat (List.length_map (as:=(xs:List (Ty.DL ts))) (Ty.aE ts))
  ·rename_i ts hp;have bB:σ.er.ev x.er=.one (.nil ts.length):=by rw[af.dT,hp];rfl
   refine⟨_,?_,h⟩;simp only[dA.er,exec,bB,af.dY];rw[show(SV.agg (vU gu (0:Int) (.nil ts))).er=.agg ((vU gu (0:Int) (.nil ts)).map SC.er) from rfl,VZ]
   rfl
  ·cases h
 |len x=>
  simp only[fm] at h;split at h
  ·rename_i n sz lo len hp;have hb:=(bZ h).1;replace h:=(bZ h).2;have bB:σ.er.ev x.er=.one (.sl n sz lo len):=by rw[af.dT,hp];rfl
   exact⟨_,by simp only[dA.er,exec,bB,Dq hb,if_true,af.dY];rfl,h⟩
  ·rename_i ts xs hp;have bB:σ.er.ev x.er=.one (.c (.list ts.length (List.map (Ty.aE ts) xs))):=by rw[af.dT,hp];rfl
   exact⟨_,by simp only[dA.er,exec,bB,af.dY];exact congrArg (fun q:Nat=>some (σ.er.put d (aj.one (.c (.int .i64 (q:Int)))))) (List.length_map (Ty.aE ts)),h⟩
  ·rename_i ts hp;have bB:σ.er.ev x.er=.one (.nil ts.length):=by rw[af.dT,hp];rfl
   exact⟨_,by simp only[dA.er,exec,bB,af.dY];rfl,h⟩
  ·rename_i n kk aB off sz len hp;obtain⟨t,y,h1,h2⟩:=B9 h;have bB:σ.er.ev x.er=.one (.bC n kk aB off sz len):=by rw[af.dT,hp];rfl
   have iU:cO σ.er.h (.bC n kk aB off sz len)=some (t.er y):=h1;split at h2
   ·rename_i ts ys;exact⟨_,by simp only[dA.er,exec,bB,iU,Ty.er,af.dY];exact congrArg (fun q:Nat=>some (σ.er.put d (aj.one (.c (.int .i64 (q:Int)))))) (List.length_map (Ty.aE ts)),h2⟩
   ·cases h2
  ·cases h
 |append fl ts by_ x y=>
  simp only[fm] at h;split at h
  ·cases h
  ·rename_i n;obtain⟨xs,m,σ1,h1,h2⟩:=asX h;obtain⟨ys,m2,σ2,h3,h4⟩:=asY h2;rw[ed] at h4;obtain⟨_,hf,h4⟩:=h4;unfold ku at hf;split at hf
   ·rename_i hb;split at h4
    ·rename_i gN e;have i:=af.oO e;refine⟨_,?_,h4⟩
     replace hb:(xs.length+ys.length)*by_<=dX:=hb
     have eH:(SB.row true m2 ts (dQ xs ys)).er=aq.row true m2 ts.length (List.map (Ty.aE ts) xs++List.map (Ty.aE ts) ys):=by simp[SB.er,dQ]
     simp only[dA.er,exec,af.dT,h1,h3,List.length_map,hb,if_true,<-eH,i,af.dY];rfl
    ·cases h4
   ·cases hf
 |mm mx x y=>
  simp only[fm] at h;split at h
  ·rename_i kd a kd' b ex ey;have Yt:σ.er.ev x.er=.one (.c (.int kd a)):=by rw[af.dT,ex];rfl
   have YH:σ.er.ev y.er=.one (.c (.int kd' b)):=by rw[af.dT,ey];rfl
   split at h
   ·refine⟨_,?_,h⟩;rw[af.dY];simp only[dA.er,exec,Yt,YH,if_true];by_cases gi:LT.lt (α:=Int) a b
    ·exact(if_pos gi).trans (congrArg (fun q:Int=>some (σ.er.put d (aj.one (.c (.int kd q))))) (if_pos gi:Tk a b=b).symm)
    ·exact(if_neg gi).trans (congrArg (fun q:Int=>some (σ.er.put d (aj.one (.c (.int kd q))))) (if_neg gi:Tk a b=a).symm)
   ·refine⟨_,?_,h⟩;rw[af.dY];simp only[dA.er,exec,Yt,YH,Bool.false_eq_true,if_false];by_cases gi:LT.lt (α:=Int) b a
    ·exact(if_pos gi).trans (congrArg (fun q:Int=>some (σ.er.put d (aj.one (.c (.int kd q))))) (if_pos gi:Et a b=b).symm)
    ·exact(if_neg gi).trans (congrArg (fun q:Int=>some (σ.er.put d (aj.one (.c (.int kd q))))) (if_neg gi:Et a b=a).symm)
  ·cases h
 |call m f xs=>
  simp only[fm] at h;obtain⟨σ1,h1,h2⟩:=afE h;exact⟨σ1,by simp only[dA.er,exec,tA];exact h1,h2⟩
 |copy x y=>
  simp only[fm] at h;split at h
  ·rename_i n s lo len c hp hq;split at h
   ·rename_i gr m ts xs hn;have bg:=(aO h).1;replace h:=(aO h).2;subst bg;have ht:=(aO h).1;replace h:=(aO h).2;have hb:=(bZ h).1;replace h:=(bZ h).2;simp only[Bool.and_eq_true] at hb;obtain⟨u,ys,h1,h2⟩:=B9 h;split at h2
    ·rename_i us ys;split at h2
     ·rename_i zs hz;rw[ed] at h2;obtain⟨av,hc,h2⟩:=h2;refine⟨_,?_,h2⟩;have bB:σ.er.ev x.er=.one (.sl n 1 lo len):=by rw[af.dT,hp];rfl
      have fc:σ.er.ev y.er=.one c.er:=by rw[af.dT,hq];rfl
      have xd:Ty.er (.list us) ys=Ty.er (.list ts) zs:=by
       have:=Ty.ahU hz;exact this
      have iU:cO σ.er.h c.er=some (.list ts.length (List.map (Ty.aE ts) zs)):=by
       have:cO σ.er.h c.er=some (Ty.er (.list us) ys):=h1;rw[this,xd];rfl
      obtain⟨c1,c2⟩:=XX hc;have iW:m≠ .aJ:=by rintro rfl;exact absurd hb.1 (by simp[Mode.own])
      simp only[dA.er,exec,bB,fc,Gw hn,SB.er,iU];rw[if_pos ⟨trivial,trivial,ht,ht,iW,ue ts xs hb.2,ue ts zs hb.2,by rw[List.length_map];exact c1⟩];rw[af.dY,af.pO];simp only[SB.er,c2,ht];rw[show List.map (Ty.aE ts) (List.take (α:=Ty.DL ts) len zs)=List.take len (List.map (Ty.aE ts) zs) from List.map_take,show(List.map (Ty.aE ts) zs).length=aa (α:=Ty.DL ts) zs from List.length_map _]
      rfl
     ·cases h2
    ·cases h2
   ·cases h
  ·cases h
 |mG t z x=>
  simp only[fm] at h;split at h
  ·rename_i n s lo len hp;split at h
   ·rename_i gr m ts xs hn;have bg:=(aO h).1;replace h:=(aO h).2;subst bg;have hb:=(bZ h).1;replace h:=(bZ h).2;simp only[Bool.and_eq_true] at hb;split at h
    ·rename_i e he;rw[ed] at h;obtain⟨av,hc,h⟩:=h;refine⟨_,?_,h⟩;have bB:σ.er.ev x.er=.one (.sl n 1 lo len):=by rw[af.dT,hp];rfl
     have lD:Ty.aE ts e=[t.er z]:=xv he;have hlen:ts.length=1:=by
      have:=congrArg List.length lD;rw[Ty.Dp] at this;exact this
     have iZ:Ty.fG ts=true:=by
      have:=Ty.Ij ts e;rw[lD] at this;simp only[Am.fG,List.all_cons,List.all_nil,Bool.and_true,Ty.xN,hb.2] at this;exact this.symm
     obtain⟨c1,c2⟩:=XX hc;have iW:m≠ .aJ:=by rintro rfl;exact absurd hb.1 (by simp[Mode.own])
     simp only[dA.er,exec,bB,Gw hn,SB.er];rw[if_pos ⟨trivial,hlen,by rw[Ty.xN];exact hb.2,iW,ue ts xs iZ,by rw[List.length_map];exact c1⟩];rw[af.dY,af.pO];simp only[SB.er,c2,hlen,dG,List.map_replicate,lD];rfl
    ·cases h
   ·cases h
  ·cases h
 |oK f xs=>
  simp only[fm] at h;obtain⟨v,h1,h2⟩:=as6 h;refine⟨_,?_,h2⟩;simp only[dA.er,exec,tA];rw[h1];simp only[af.dY]
 |sM f xs=>
  simp only[fm] at h;split at h
  ·rename_i cs hc;obtain⟨h1,h2⟩:=afW hc;refine⟨_,?_,h⟩;simp only[dA.er,exec,tA];split
   ·rename_i cs' e;have e2:some cs'=some (cs.map SC.er):=e.symm.trans h1;injection e2 with e2;subst e2;rw[if_pos h2,af.dY];simp only[SV.er,SC.er,SC.Ay]
   ·rename_i e;have e2:none=some (cs.map SC.er):=e.symm.trans h1;cases e2
  ·cases h
 |gU m f xs=>
  simp only[fm] at h;obtain⟨σ1,h1,h2⟩:=as7 h;exact⟨σ1,by simp only[dA.er,exec,tA];exact h1,h2⟩
 |km f xs=>
  simp only[fm] at h;obtain⟨σ1,h1,h2⟩:=as5 h;exact⟨σ1,by simp only[dA.er,exec,tA];exact h1,h2⟩
 |m5 f xs=>
  simp only[fm] at h;obtain⟨v,h1,h2⟩:=ata h;exact⟨σ.put d v,by simp only[dA.er,exec,tA,h1,af.dY],h2⟩
 |nJ m f xs=>
  simp only[fm] at h;obtain⟨σ1,h1,h2⟩:=atc h;exact⟨σ1,by simp only[dA.er,exec,tA];exact h1,h2⟩
 |pM m f x xs=>
  simp only[fm] at h;split at h
  ·rename_i g cP hp;have bg:=(aO h).1;replace h:=(aO h).2;subst bg;have bB:σ.er.ev x.er=.one (.fn g (cP.map SC.er)):=by rw[af.dT,hp];simp only[SV.er,SC.er,SC.Ay]
   obtain⟨σ1,h1,h2⟩:=as9 h;refine⟨σ1,?_,h2⟩;simp only[dA.er,exec,bB,tA,if_true];rw[List.map_append] at h1;simp only[List.map_map] at h1⊢;exact h1
  ·cases h
 |m6 f xs=>
  simp only[fm] at h;obtain⟨v,h1,h2⟩:=atb h;exact⟨σ.put d v,by simp only[dA.er,exec,tA,h1,af.dY],h2⟩
 |oL m x xs=>
  simp only[fm] at h;split at h
  ·rename_i f cP hp;have bB:σ.er.ev x.er=.one (.fn f (cP.map SC.er)):=by rw[af.dT,hp];simp only[SV.er,SC.er,SC.Ay]
   obtain⟨σ1,h1,h2⟩:=afE h;refine⟨σ1,?_,h2⟩;simp only[dA.er,exec,bB,tA];rw[List.map_append] at h1;simp only[List.map_map] at h1⊢;exact h1
  ·cases h
structure dE where
 dst:Option Nat
 op:dA
 guard:Option (Nat×Bool)
def dE.er (o:dE):bQ:=⟨o.dst,o.op.er,o.guard⟩
def af.lit (σ:af) (n:Nat) (b:Bool):af:={σ with env:=az σ.env n (.one (.v .bool b))}
theorem af.Gv {σ:af} {n:Nat} {b:Bool} (h:σ.env n=.one (.v .bool b)):(σ.lit n b).er=σ.er:=by
 have:az σ.env n (.one (.v .bool b))=σ.env:=by
  funext s;simp only[kg];split
  ·rename_i hs;subst hs;exact h.symm
  ·rfl
 simp only[af.lit,this]
def pt (T:List au):List dE->af->(af->Option ρ)->Option ρ
 |[],σ,k=>k σ
 |o::os,σ,k=>match o.guard with
  |none=>fm T o.dst o.op σ fun σ1=>pt T os σ1 k
  |some (s,mA)=>match σ.env s with
   |.one (.v .bool b)=>aw b
    (match mA with
     |true=>fm T o.dst o.op (σ.lit s true) fun σ1=>pt T os σ1 k
     |false=>pt T os ((σ.lit s true).put o.dst (.bK [])) k)
    (match mA with
     |true=>pt T os ((σ.lit s false).put o.dst (.bK [])) k
     |false=>fm T o.dst o.op (σ.lit s false) fun σ1=>pt T os σ1 k)
   |.bK []=>pt T os (σ.put o.dst (.bK [])) k
   |_=>none
theorem Io {T:List au}:∀{os:List dE} {σ:af} {k:af->Option ρ} {r:ρ},pt T os σ k=some r->
  ∃σ1:af,fv (cM T) (os.map dE.er) σ.er=some σ1.er/\k σ1=some r
 |[],σ,k,r,h=>⟨σ,rfl,h⟩
 |o::os,σ,k,r,h=>by
  obtain⟨d,op,g⟩:=o;have run:∀lv:af,lv.er=σ.er->ef (cM T) (dE.er ⟨d,op,g⟩) σ.er=exec (cM T) d op.er σ.er->fm T d op lv (fun σ1=>pt T os σ1 k)=some r->
    ∃σ1:af,fv (cM T) ((⟨d,op,g⟩::os).map dE.er) σ.er=some σ1.er/\k σ1=some r:=by
   intro lv h0 he hs;obtain⟨σ1,h1,h2⟩:=afI hs;obtain⟨σ2,h3,h4⟩:=Io h2;rw[h0] at h1;exact⟨σ2,by simp only[List.map_cons,fv,he,h1,h3],h4⟩
  have BZ:∀lv:af,lv.er=σ.er->ef (cM T) (dE.er ⟨d,op,g⟩) σ.er=some (σ.er.put d (.bK []))->pt T os (lv.put d (.bK [])) k=some r->
    ∃σ1:af,fv (cM T) ((⟨d,op,g⟩::os).map dE.er) σ.er=some σ1.er/\k σ1=some r:=by
   intro lv h0 he hs;obtain⟨σ2,h3,h4⟩:=Io hs;rw[af.dY,h0] at h3;exact⟨σ2,by simp only[List.map_cons,fv,he];exact h3,h4⟩
  cases g with
  |none=>exact run σ rfl rfl h
  |some g=>
   obtain⟨s,mA⟩:=g;simp only[pt] at h;split at h
   ·rename_i b hs;have jm:σ.er.env s=.one (.c (.bool b)):=by show(σ.env s).er=_;rw[hs];rfl
    cases hb:(b:Bool) with
    |true=>
     have h0:(σ.lit s true).er=σ.er:=af.Gv (by rw[hs,hb]);rw[hb] at h;simp only[Ql] at h;cases mA with
     |true=>exact run _ h0 (by simp[ef,dE.er,jm,hb]) h
     |false=>exact BZ _ h0 (by simp[ef,dE.er,jm,hb]) h
    |false=>
     have h0:(σ.lit s false).er=σ.er:=af.Gv (by rw[hs,hb]);rw[hb] at h;simp only[KC] at h;cases mA with
     |true=>exact BZ _ h0 (by simp[ef,dE.er,jm,hb]) h
     |false=>exact run _ h0 (by simp[ef,dE.er,jm,hb]) h
   ·rename_i hs;have jm:σ.er.env s=.bK []:=by show(σ.env s).er=_;rw[hs];rfl
    exact BZ σ rfl (by simp[ef,dE.er,jm]) h
   ·cases h
def qq (T:List au) (ps:List (Nat×Nat)):List dE->List (Option FP)->af->(af->Option ρ)->Option ρ
 |[],dP,σ,k=>eM (sO ps dP) (k σ)
 |o::os,dP,σ,k=>match o.guard with
  |none=>fm T o.dst o.op σ fun σ1=>qq T ps os (dP++[o.er.fp σ.er]) σ1 k
  |some (s,mA)=>match σ.env s with
   |.one (.v .bool b)=>aw b
    (match mA with
     |true=>fm T o.dst o.op (σ.lit s true) fun σ1=>qq T ps os (dP++[o.er.fp (σ.lit s true).er]) σ1 k
     |false=>qq T ps os (dP++[o.er.fp (σ.lit s true).er]) ((σ.lit s true).put o.dst (.bK [])) k)
    (match mA with
     |true=>qq T ps os (dP++[o.er.fp (σ.lit s false).er]) ((σ.lit s false).put o.dst (.bK [])) k
     |false=>fm T o.dst o.op (σ.lit s false) fun σ1=>qq T ps os (dP++[o.er.fp (σ.lit s false).er]) σ1 k)
   |.bK []=>qq T ps os (dP++[o.er.fp σ.er]) (σ.put o.dst (.bK [])) k
   |_=>none
theorem Nk {T:List au} {ps:List (Nat×Nat)}:∀{os:List dE} {dP:List (Option FP)} {σ:af} {k:af->Option ρ} {r:ρ},qq T ps os dP σ k=some r->
  ∃(σ1:af) (fs:List (Option FP)),lY (cM T) (os.map dE.er) dP σ.er=some (fs,σ1.er)/\sO ps fs=true/\k σ1=some r
 |[],dP,σ,k,r,h=>⟨σ,dP,rfl,(bZ h).1,(bZ h).2⟩
 |o::os,dP,σ,k,r,h=>by
  obtain⟨d,op,g⟩:=o;have run:∀lv:af,lv.er=σ.er->ef (cM T) (dE.er ⟨d,op,g⟩) σ.er=exec (cM T) d op.er σ.er->fm T d op lv (fun σ1=>qq T ps os (dP++[(dE.er ⟨d,op,g⟩).fp lv.er]) σ1 k)=some r->
    ∃(σ1:af) (fs:List (Option FP)),lY (cM T) ((⟨d,op,g⟩::os).map dE.er) dP σ.er=some (fs,σ1.er)/\sO ps fs=true/\k σ1=some r:=by
   intro lv h0 he hs;obtain⟨σ1,h1,h2⟩:=afI hs;obtain⟨σ2,fs,h3,h4⟩:=Nk h2;rw[h0] at h1 h3;exact⟨σ2,fs,by simp only[List.map_cons,lY,he,h1,h3],h4⟩
  have BZ:∀lv:af,lv.er=σ.er->ef (cM T) (dE.er ⟨d,op,g⟩) σ.er=some (σ.er.put d (.bK []))->qq T ps os (dP++[(dE.er ⟨d,op,g⟩).fp lv.er]) (lv.put d (.bK [])) k=some r->
    ∃(σ1:af) (fs:List (Option FP)),lY (cM T) ((⟨d,op,g⟩::os).map dE.er) dP σ.er=some (fs,σ1.er)/\sO ps fs=true/\k σ1=some r:=by
   intro lv h0 he hs;obtain⟨σ2,fs,h3,h4⟩:=Nk hs;rw[af.dY,h0] at h3;exact⟨σ2,fs,by simp only[List.map_cons,lY,he];exact h3,h4⟩
  cases g with
  |none=>exact run σ rfl rfl h
  |some g=>
   obtain⟨s,mA⟩:=g;simp only[qq] at h;split at h
   ·rename_i b hs;have jm:σ.er.env s=.one (.c (.bool b)):=by show(σ.env s).er=_;rw[hs];rfl
    cases hb:(b:Bool) with
    |true=>
     have h0:(σ.lit s true).er=σ.er:=af.Gv (by rw[hs,hb]);rw[hb] at h;simp only[Ql] at h;cases mA with
     |true=>exact run _ h0 (by simp[ef,dE.er,jm,hb]) h
     |false=>exact BZ _ h0 (by simp[ef,dE.er,jm,hb]) h
    |false=>
     have h0:(σ.lit s false).er=σ.er:=af.Gv (by rw[hs,hb]);rw[hb] at h;simp only[KC] at h;cases mA with
     |true=>exact BZ _ h0 (by simp[ef,dE.er,jm,hb]) h
     |false=>exact run _ h0 (by simp[ef,dE.er,jm,hb]) h
   ·rename_i hs;have jm:σ.er.env s=.bK []:=by show(σ.env s).er=_;rw[hs];rfl
    exact BZ σ rfl (by simp[ef,dE.er,jm]) h
   ·cases h
end
def SC.iD (n:Nat):SC->SC
 |.bC m k aB off sz len=>match Nat.beq m n with
  |true=>.bq
  |false=>.bC m k aB off sz len
 |.db m k aB off sz i=>match Nat.beq m n with
  |true=>.bq
  |false=>.db m k aB off sz i
 |x=>x
def SC.cut (n:Nat):SC->SC
 |.fn f cP=>.fn f (cP.map (SC.iD n))
 |.bC m k aB off sz len=>SC.iD n (.bC m k aB off sz len)
 |.db m k aB off sz i=>SC.iD n (.db m k aB off sz i)
 |.v t x=>.v t x
 |.nil ts=>.nil ts
 |.ptr m k sz off=>.ptr m k sz off
 |.dg ts x off=>.dg ts x off
 |.sl m sz lo len=>.sl m sz lo len
 |.cH ts x off j m sz len=>.cH ts x off j m sz len
 |.bq=>.bq
theorem SC.Qo (n:Nat) (c:SC):(c.iD n).er=c.er.iD n:=by
 cases c with
 |bC m k aB off sz len=>simp only[SC.iD,SC.er,ah.iD];cases Nat.beq m n<;>rfl
 |db m k aB off sz i=>simp only[SC.iD,SC.er,ah.iD];cases Nat.beq m n<;>rfl
 |_=>rfl
theorem SC.yA (n:Nat) (c:SC):(c.cut n).er=c.er.cut n:=by
 cases c with
 |fn f cP=>
  simp only[SC.cut,SC.er,ah.cut,SC.Ay,List.map_map];congr 1;exact List.map_congr_left fun c _=>SC.Qo n c
 |bC m k aB off sz len=>exact SC.Qo n (.bC m k aB off sz len)
 |db m k aB off sz i=>exact SC.Qo n (.db m k aB off sz i)
 |_=>rfl
theorem Qp (n:Nat) (cs:List SC):(cs.map (SC.cut n)).map SC.er=(cs.map SC.er).map (ah.cut n):=by
 simp only[List.map_map];exact List.map_congr_left fun c _=>SC.yA n c
def SV.cut (n:Nat):SV->SV
 |.one c=>.one (c.cut n)
 |.agg cs=>.agg (cs.map (SC.cut n))
 |.bK xs=>.bK (xs.map fun x=>(x.1,x.2.map (SC.cut n)))
theorem SV.yA (n:Nat) (v:SV):(v.cut n).er=v.er.cut n:=by
 cases v with
 |one c=>simp only[SV.cut,SV.er,aj.cut,SC.yA]
 |agg cs=>simp only[SV.cut,SV.er,aj.cut,Qp]
 |bK xs=>
  simp only[SV.cut,SV.er,aj.cut,List.map_map];congr 1;exact List.map_congr_left fun x _=>by simp only[Function.comp];rw[Qp]
def SB.cut (n:Nat):SB->SB
 |.box cs=>.box (cs.map (SC.cut n))
 |.row gr m ts xs=>.row gr m ts xs
theorem SB.yA (n:Nat) (b:SB):(b.cut n).er=b.er.cut n:=by
 cases b with
 |box cs=>simp only[SB.cut,SB.er,aq.cut,Qp]
 |row gr m ts xs=>rfl
def af.cut (σ:af) (n:Nat):af:={σ with env:=fun s=>(σ.env s).cut n,h:=fun m=>match σ.h m with|some b=>some (b.cut n)|none=>none}
theorem af.yA (σ:af) (n:Nat):(σ.cut n).er=σ.er.cut n:=by
 simp only[af.cut,af.er,St.cut];congr 1
 ·funext s;exact SV.yA n (σ.env s)
 ·funext m;simp only[dd];cases σ.h m with
  |none=>rfl
  |some b=>simp only[Option.map_some,SB.yA]
def af.sY (σ:af) (s:Nat) (v:SV):af:={σ with env:=az σ.env s v}
theorem af.afG (σ:af) (s:Nat) (v:SV):(σ.sY s v).er=σ.er.sY s v.er:=by
 simp only[af.sY,af.er,St.sY,wD]
section
variable {ρ:Type}
structure FU where
 ia:Nat
 sz:Nat
 by_:Nat
 mx:cQ
 ml:cQ
 my:cQ
 d:Nat
def FU.er (s:FU):qy:=⟨s.ia,s.sz,s.by_,s.mx.er,s.ml.er,s.my.er,s.d⟩
def E8 (sp:FU) (σ:af) (k:af->Option ρ):Option ρ:=
 match σ.ev sp.mx,σ.ev sp.ml,σ.ev sp.my with
 |.one (.ptr n kk rs off),.one (.bC n' vw mw lL _ _),.one yc=>
  cv n' n (cv mw rs (cv lL off (cv (off+1) rs (eM (!(Nat.ble aH n)) ((kE vw kk).ae fun _=>match σ.h n with
   |some (.row true .live ts xs)=>cv ts.length rs ((cK xs kk).ae fun e=>match(Ty.gO ts e)[off]? with
    |some ⟨.list us,ls⟩=>cv us.length sp.sz (eM (Ty.fG us) (xS σ.h yc fun t y=>match t,y with
     |.list vs,ys=>match Ty.cast (.list vs) (.list us) ys with
      |some zs=>(ku (aI (aa (α:=Ty.DL us) ls) (aa (α:=Ty.DL us) zs)) sp.by_).ae fun _=>match Il ts e off ⟨.list us,dQ (α:=Ty.DL us) ls zs⟩ with
       |some e'=>k ((σ.cut n).eE n (.row true .live ts (cg xs kk e')))
       |none=>none
      |none=>none
     |_,_=>none))
    |_=>none)
   |_=>none)))))
 |_,_,_=>none
theorem Vo {a b:Nat} {u:Unit} (h:kE a b=some u):a=b:=by
 unfold kE at h;split at h
 ·assumption
 ·cases h
theorem afX {sp:FU} {σ:af} {k:af->Option ρ} {r:ρ} (h:E8 sp σ k=some r):∃σ1:af,zr sp.er σ.er=some σ1.er/\k σ1=some r:=by
 unfold E8 at h;split at h
 ·rename_i n kk rs off n' vw mw lL s0 vD yc e1 e2 e3;have bg:=(aO h).1;replace h:=(aO h).2;subst bg;have bg:=(aO h).1;replace h:=(aO h).2;subst bg;have bg:=(aO h).1;replace h:=(aO h).2;subst bg;have nY:=(aO h).1;replace h:=(aO h).2;have hp:=(bZ h).1;replace h:=(bZ h).2;rw[ed] at h;obtain⟨_,hk,h⟩:=h;have hk:=Vo hk;subst hk;have nt:n'<aH:=by
   rcases Nat.lt_or_ge n' aH with h1|h1
   ·exact h1
   ·rw[Nat.ble_eq_true_of_le h1] at hp;cases hp
  split at h
  ·rename_i ts xs hn;have Bd:=(aO h).1;replace h:=(aO h).2;rw[ed] at h;obtain⟨e,he,h⟩:=h
   replace he:xs[vw]? =some e:=he
   split at h
   ·rename_i us ls hd;have kP:=(aO h).1;replace h:=(aO h).2;have iZ:=(bZ h).1;replace h:=(bZ h).2;obtain⟨t,y,hv,h⟩:=B9 h;split at h
    ·rename_i vs ys;split at h
     ·rename_i zs akX;rw[ed] at h;obtain⟨_,f0,h⟩:=h;have f0:(List.length (α:=Ty.DL us) ls+List.length (α:=Ty.DL us) zs)*sp.by_<=dX:=by
       unfold ku at f0;split at f0
       ·assumption
       ·cases f0
      split at h
      ·rename_i e' vd;refine⟨_,?_,h⟩;have g1:σ.er.ev sp.er.mx=.one (.ptr n' vw mw lL):=by show σ.er.ev sp.mx.er=_;rw[af.dT,e1];rfl
       have g2:σ.er.ev sp.er.ml=.one (.bC n' vw mw lL s0 vD):=by show σ.er.ev sp.ml.er=_;rw[af.dT,e2];rfl
       have g3:σ.er.ev sp.er.my=.one yc.er:=by show σ.er.ev sp.my.er=_;rw[af.dT,e3];rfl
       have bu:σ.er.h n'=some (.row true .live ts.length (List.map (Ty.aE ts) xs)):=by simp[af.er,dd,hn,SB.er]
       have iV:(List.map (Ty.aE ts) xs)[vw]? =some (Ty.aE ts e):=by rw[List.getElem?_map,he];rfl
       have qP:=KI hd;have gk:cO σ.er.h yc.er=some ((Ty.list us).er zs):=by rw[<-Ty.P8 akX];exact hv
       have Lv:(Ty.aE ts e)[lL]? =some (.list us.length (List.map (Ty.aE us) ls)):=qP;have vg:cO σ.er.h yc.er=some (.list us.length (List.map (Ty.aE us) zs)):=gk;simp only[zr,g1,g2,g3,nY,nt,and_self,if_true,bu,Bd,iV,Option.bind_some,Lv,vg];have aaq:((List.map (Ty.aE us) ls).length+(List.map (Ty.aE us) zs).length)*sp.er.by_<=dX:=by
        rw[show(List.map (Ty.aE us) ls).length=List.length (α:=Ty.DL us) ls from List.length_map _,show(List.map (Ty.aE us) zs).length=List.length (α:=Ty.DL us) zs from List.length_map _]
        exact f0
       rw[if_pos ⟨kP,kP,ue us ls iZ,ue us zs iZ,aaq⟩];have w6:=VD vd;have hgd:(List.map (Ty.aE ts) xs).getD vw []=Ty.aE ts e:=by rw[List.getD_eq_getElem?_getD,iV];rfl
       rw[af.pO,af.yA,hgd];simp only[SB.er];rw[show(List.map (Ty.aE ts) (cg xs vw e'))=(List.map (Ty.aE ts) xs).set vw (Ty.aE ts e') from by show List.map _ (xs.set vw e')=_;rw[List.map_set],w6]
       have akS:(Ty.list us).er (dQ (α:=Ty.DL us) ls zs)=.list us.length (List.map (Ty.aE us) ls++List.map (Ty.aE us) zs):=by
        show C.list us.length (List.map (Ty.aE us) (List.append (α:=Ty.DL us) ls zs))=_;exact congrArg (C.list us.length) List.map_append
       rw[akS,kP,Bd];rfl
      ·cases h
     ·cases h
    ·cases h
   ·cases h
  ·cases h
 ·cases h
inductive wg where
 |wj (ts:List Ty) (p:cQ)
 |wk (p:cQ) (s:Nat)
 |pop (x lo:cQ) (s:Nat)
 |yt (f:FuncId) (xs:List cQ)
def wg.er:wg->FE
 |.wj ts p=>.wj ts.length p.er
 |.wk p s=>.wk p.er s
 |.pop x lo s=>.pop x.er lo.er s
 |.yt f xs=>.yt f (xs.map cQ.er)
inductive wh where
 |op (m:dE)
 |qD (d:Nat) (c:wg)
def wh.er:wh->FD
 |.op m=>.op m.er
 |.qD d c=>.qD d c.er
def V3 (σ:af) (c:SC) (last:Bool) (k:TD->af->Option ρ):Option ρ:=
 match c with
 |.v t x=>eM t.fk (k ⟨t,x⟩ σ)
 |.nil ts=>match ts with
  |[]=>none
  |t::us=>k ⟨.list (t::us),([]:List (Ty.DL (t::us)))⟩ σ
 |.sl n sz lo len=>match σ.h n with
  |some (.row gr m ts xs)=>cv ts.length sz (eM (m.own&&Ty.fG ts) (cv lo 0 ((dN xs len).ae fun ys=>match last with
   |true=>eM gr ((adu len).ae fun _=>k ⟨.list ts,ys⟩ (σ.del n))
   |false=>k ⟨.list ts,ys⟩ (σ.del n))))
  |_=>none
 |_=>none
theorem atV {ts:List Ty} {xs ys:List (Ty.DL ts)} {len:Nat} (h:dN xs len=some ys):len<=xs.length/\(List.map (Ty.aE ts) xs).take len=List.map (Ty.aE ts) ys:=by
 unfold dN at h;split at h
 ·rename_i hl;injection h with h;subst h;exact⟨hl,by rw[List.map_take]⟩
 ·cases h
theorem atF {σ:af} {c:SC} {last:Bool} {k:TD->af->Option ρ} {r:ρ} (h:V3 σ c last k=some r):
  ∃(x:TD) (o:Bool) (σ1:af),σ.er.vV c.er=some (x.1.er x.2,o,σ1.er)/\(last=true->o=true)/\k x σ1=some r:=by
 unfold V3 at h;split at h
 ·rename_i t x;have hs:=(bZ h).1;replace h:=(bZ h).2;refine⟨⟨t,x⟩,true,σ,?_,fun _=>rfl,h⟩;simp only[SC.er,St.vV,Ty.xN,hs,if_true]
 ·split at h
  ·cases h
  ·rename_i t us;exact⟨⟨.list (t::us),[]⟩,true,σ,by simp[SC.er,St.vV,Ty.er],fun _=>rfl,h⟩
 ·rename_i n sz lo len;split at h
  ·rename_i gr m ts xs hn;have bg:=(aO h).1;replace h:=(aO h).2;subst bg;have hm:=(bZ h).1;replace h:=(bZ h).2;have bg:=(aO h).1;replace h:=(aO h).2;subst bg;rw[ed] at h;obtain⟨ys,hw,h⟩:=h;obtain⟨w1,w2⟩:=atV hw;simp only[Bool.and_eq_true] at hm;have bP:m≠ .aJ:=by rintro rfl;cases hm.1
   have bu:σ.er.h n=some (.row gr m ts.length (List.map (Ty.aE ts) xs)):=by simp[af.er,dd,hn,SB.er]
   have cW:σ.er.vV (SC.sl n ts.length 0 len).er=some ((Ty.list ts).er ys,gr&&decide (0<len),(σ.del n).er):=by
    simp only[SC.er,St.vV,bu,List.length_map,ne_eq,bP,not_false_eq_true,ue ts xs hm.2,w1,and_self,if_true,w2,af.Ax];rfl
   cases last with
   |false=>exact⟨⟨.list ts,ys⟩,_,σ.del n,cW,(fun h=>by cases h),h⟩
   |true=>
    have hg:=(bZ h).1;replace h:=(bZ h).2;rw[ed] at h;obtain⟨_,hp,h⟩:=h;have hp:0<len:=by
     unfold adu at hp;split at hp
     ·assumption
     ·cases hp
    exact⟨⟨.list ts,ys⟩,_,σ.del n,cW,fun _=>by simp[hg,hp],h⟩
  ·cases h
 ·cases h
def NR:af->List SC->(List TD->af->Option ρ)->Option ρ
 |σ,[],k=>k [] σ
 |σ,c::cs,k=>V3 σ c (match cs with|[]=>true|_::_=>false) fun x σ1=>NR σ1 cs fun l σ2=>k (x::l) σ2
theorem agt:∀{cs:List SC} {σ:af} {k:List TD->af->Option ρ} {r:ρ},NR σ cs k=some r->∃l σ1,σ.er.s9 (cs.map SC.er)=some (dk l,true,σ1.er)/\k l σ1=some r
 |[],σ,k,r,h=>⟨[],σ,rfl,h⟩
 |c::cs,σ,k,r,h=>by
  simp only[NR] at h;obtain⟨x,o,σ1,h1,h2,h3⟩:=atF h;obtain⟨l,σ2,h4,h5⟩:=agt h3;refine⟨x::l,σ2,?_,h5⟩;simp only[List.map_cons,St.s9,h1,h4,dk];cases cs with
  |nil=>rw[h2 rfl];rfl
  |cons c2 Dj=>rfl
def Vy (T:List au) (d:Nat) (f:FuncId) (as:List SV) (σ:af) (k:af->Option ρ):Option ρ:=
 match au.nc 5 T f with
 |some fn=>Fi σ.h as fun ds=>match mR fn.args ds with
  |some x=>(fn.F x).ae fun rs=>match ic fn.ax rs with
   |[(.one,[⟨.list ts,xs⟩])]=>match σ.ins (jJ (some d)) (.row true .live ts xs) with
    |some σ1=>k (σ1.put (some d) (.one (.sl (jJ (some d)) ts.length 0 (aa (α:=Ty.DL ts) xs))))
    |none=>none
   |_=>none
  |none=>none
 |none=>none
theorem as8 {T:List au} {d:Nat} {f:FuncId} {as:List SV} {σ:af} {k:af->Option ρ} {r:ρ} (h:Vy T d f as σ k=some r):
  ∃σ1:af,Gp (cM T) d f (as.map SV.er) σ.er=some σ1.er/\k σ1=some r:=by
 unfold Vy at h;split at h
 ·rename_i fn hf;obtain⟨ds,h1,h2⟩:=NV h;split at h2
  ·rename_i x hx;rw[ed] at h2;obtain⟨rs,hF,h2⟩:=h2;split at h2
   ·rename_i ts xs jl;split at h2
    ·rename_i σ1 hi;refine⟨_,?_,h2⟩;have hM:fn.M (ds.map ci.er)=some [(.one,[.list ts.length (List.map (Ty.aE ts) xs)])]:=by
      have e1:fn.M (ds.map ci.er)=some (dB fn.ax rs):=by rw[qg hx,au.uA,hF];rfl
      have e2:dB fn.ax rs=[(.one,[.list ts.length (List.map (Ty.aE ts) xs)])]:=by rw[<-tz,jl];rfl
      exact e1.trans (congrArg some e2)
     have iU:lm σ.er.h (as.map SV.er)=some (ds.map ci.er):=h1;have hi':σ.er.ins (jJ (some d)) (.row true .live ts.length (List.map (Ty.aE ts) xs))=some σ1.er:=af.oO hi;simp only[Gp,iU,au.YP hf,hM,hi',af.dY,SV.er,SC.er];exact congrArg (fun q=>some (σ1.er.put (some d) (.one (.sl (jJ (some d)) ts.length 0 q)))) (List.length_map (Ty.aE ts))
    ·cases h2
   ·cases h2
  ·cases h2
 ·cases h
def EY (T:List au) (d:Nat) (c:wg) (σ:af) (k:af->Option ρ):Option ρ:=
 match c with
 |.wj ts p=>match(σ.ev p).cells? with
  |some (_,cs)=>cv cs.length ts.length (NR σ cs fun l σ1=>match rn ts l with
   |some e=>match σ1.ins d (.row true .live ts [e]) with
    |some σ2=>k (σ2.put (some d) (.one (.sl d ts.length 0 1)))
    |none=>none
   |none=>none)
  |none=>none
 |.wk p s=>match σ.ev p,σ.env s with
  |.one (.sl q sz lo len),.one (.sl q' aF sJ qd)=>cv q' q (cv aF sz (cv lo 0 (cv sJ 0 (eM (!(Nat.beq s d)) ((kE qd len).ae fun _=>NP σ (.sl q sz 0 len) fun t x o σ1=>eM o (match σ1.ins d (.row true .aN [t] [x]) with
   |some σ2=>k ((σ2.put (some d) (.one (.sl d 1 0 1))).sY s (.one (.v t x)))
   |none=>none))))))
  |_,_=>none
 |.pop x lo s=>match σ.ev x,(σ.ev lo).dZ,σ.env s with
  |.one (.sl n s1 l1 len),some l,.one (.bC n' kk rs off _ _)=>cv s1 1 (cv l1 0 (cv n' n (cv rs 1 (cv off 0 (eM (!(Nat.beq s d)) (eM (decide (l=1)) ((kE kk 0).ae fun _=>match σ.h n with
   |some (.row true .live [.list us] xs)=>(bn 0 len (aa xs)).ae fun _=>(cK (α:=List (Ty.DL us)) xs 0).ae fun ys=>eM (Ty.fG us) (match(σ.del n).ins d (.row true .live [.list us] (NY xs)) with
    |some σ1=>match σ1.ins (jJ (some d)) (.row false .aN us ys) with
     |some σ2=>k ((σ2.put (some d) (.one (.sl d 1 0 (aa (NY xs))))).sY s (.one (.sl (jJ (some d)) us.length 0 (aa ys))))
     |none=>none
    |none=>none)
   |_=>none)))))))
  |_,_,_=>none
 |.yt f xs=>Vy T d f (xs.map σ.ev) σ k
theorem as4 {T:List au} {d:Nat} {c:wg} {σ:af} {k:af->Option ρ} {r:ρ} (h:EY T d c σ k=some r):
  ∃σ1:af,tw (cM T) d c.er σ.er=some σ1.er/\k σ1=some r:=by
 cases c with
 |wj ts p=>
  simp only[EY] at h;split at h
  ·rename_i ag cs fi;have hl:=(aO h).1;replace h:=(aO h).2;obtain⟨l,σ1,h1,h2⟩:=agt h;split at h2
   ·rename_i e he;split at h2
    ·rename_i σ2 hi;refine⟨_,?_,h2⟩;have yM:(σ.er.ev p.er).cells?=some (ag,cs.map SC.er):=by rw[af.dT];exact SV.kK fi
     have hi':σ1.er.ins d (.row true .live ts.length [dk l])=some σ2.er:=by
      have:=af.oO hi;simp only[SB.er,List.map_cons,List.map_nil,xv he] at this;exact this
     simp only[wg.er,tw,yM,List.length_map,hl,if_true,h1,hi',af.dY];rfl
    ·cases h2
   ·cases h2
  ·cases h
 |wk p s=>
  simp only[EY] at h;split at h
  ·rename_i q sz lo len q' aF sJ qd e1 e2;have bg:=(aO h).1;replace h:=(aO h).2;subst bg;have bg:=(aO h).1;replace h:=(aO h).2;subst bg;have bg:=(aO h).1;replace h:=(aO h).2;subst bg;have bg:=(aO h).1;replace h:=(aO h).2;subst bg;have hs:=(bZ h).1;replace h:=(bZ h).2;rw[ed] at h;obtain⟨_,hk,h⟩:=h;have hk:=Vo hk;subst hk;obtain⟨t,x,o,σ1,h1,h2⟩:=agr h;have ho:=(bZ h2).1;replace h2:=(bZ h2).2;subst ho;split at h2
   ·rename_i σ2 hi;refine⟨_,?_,h2⟩;have yM:σ.er.ev p.er=.one (.sl q' aF 0 qd):=by rw[af.dT,e1];rfl
    have tL:σ.er.env s=.one (.sl q' aF 0 qd):=by show(σ.env s).er=_;rw[e2];rfl
    have DW:s≠d:=by
     rintro rfl;rw[Nat.beq_refl] at hs;cases hs
    have iU:σ.er.fY (.sl q' aF 0 qd)=some (t.er x,true,σ1.er):=h1;have hi':σ1.er.ins d (.row true .aN 1 [[t.er x]])=some σ2.er:=af.oO hi;simp only[wg.er,tw,yM,tL,ne_eq,DW,not_false_eq_true,and_self,if_true,iU,hi',af.afG,af.dY];rfl
   ·cases h2
  ·cases h
 |pop x lo s=>
  simp only[EY] at h;split at h
  ·rename_i n s1 l1 len l n' kk rs off s0 vD e1 e2 e3;have bg:=(aO h).1;replace h:=(aO h).2;subst bg;have bg:=(aO h).1;replace h:=(aO h).2;subst bg;have bg:=(aO h).1;replace h:=(aO h).2;subst bg;have bg:=(aO h).1;replace h:=(aO h).2;subst bg;have bg:=(aO h).1;replace h:=(aO h).2;subst bg;have hs:=(bZ h).1;replace h:=(bZ h).2;have hl:=(bZ h).1;replace h:=(bZ h).2;have hl:=of_decide_eq_true hl;subst hl;rw[ed] at h;obtain⟨_,hk,h⟩:=h;have hk:=Vo hk;subst hk;split at h
   ·rename_i us xs hn;rw[ed] at h;obtain⟨_,hf,h⟩:=h;obtain⟨_,hlen⟩:=Lc hf;rw[ed] at h;obtain⟨ys,hy,h⟩:=h;have iZ:=(bZ h).1;replace h:=(bZ h).2;split at h
    ·rename_i σ1 yN;split at h
     ·rename_i σ2 A2;refine⟨_,?_,h⟩;have yM:σ.er.ev x.er=.one (.sl n' 1 0 len):=by rw[af.dT,e1];rfl
      have qO:(σ.er.ev lo.er).dZ=some 1:=by rw[af.dT];exact SV.zb e2
      have tL:σ.er.env s=.one (.bC n' 0 1 0 s0 vD):=by show(σ.env s).er=_;rw[e3];rfl
      have DW:s≠d:=by
       rintro rfl;rw[Nat.beq_refl] at hs;cases hs
      have bu:σ.er.h n'=some (.row true .live 1 (List.map (Ty.aE [.list us]) xs)):=by simp[af.er,dd,hn,SB.er]
      have Bf:(List.map (Ty.aE [.list us]) xs)[0]? =some [C.list us.length (List.map (Ty.aE us) ys)]:=aac (ts:=[.list us]) (ys:=xs) hy;have Ba:=ue us ys iZ;have ald:(σ.er.del n').ins d (.row true .live 1 ((List.map (Ty.aE [.list us]) xs).drop 1))=some σ1.er:=by
       have:=af.oO yN;rw[af.Ax] at this;simp only[SB.er,NY] at this;rw[List.map_drop] at this;exact this
      have ale:σ1.er.ins (jJ (some d)) (.row false .aN us.length (List.map (Ty.aE us) ys))=some σ2.er:=af.oO A2;have hlx:len=(List.map (Ty.aE [.list us]) xs).length:=by rw[hlen];exact(List.length_map _).symm
      simp only[wg.er,tw,yM,qO,tL,ne_eq,DW,not_false_eq_true,and_self,if_true,bu,hlx,Bf,Ba,ald,ale,af.afG,af.dY,SV.er,SC.er];have g1:(List.map (Ty.aE [.list us]) xs).length - 1=aa (NY xs):=by
       show _=(xs.drop 1).length;rw[List.length_drop,List.length_map]
      have g2:(List.map (Ty.aE us) ys).length=aa (α:=Ty.DL us) ys:=List.length_map _;rw[g1,g2]
     ·cases h
    ·cases h
   ·cases h
  ·cases h
 |yt f xs=>
  simp only[EY] at h;obtain⟨σ1,h1,h2⟩:=as8 h;refine⟨σ1,?_,h2⟩;simp only[wg.er,tw];rw[<-h1];congr 1;simp only[List.map_map];exact List.map_congr_left fun x _=>af.dT σ x
def afH (T:List au) (m:dE) (σ:af) (k:af->Option ρ):Option ρ:=pt T [m] σ k
theorem atf {T:List au} {m:dE} {σ:af} {k:af->Option ρ} {r:ρ} (h:afH T m σ k=some r):∃σ1:af,ef (cM T) m.er σ.er=some σ1.er/\k σ1=some r:=by
 obtain⟨σ1,h1,h2⟩:=Io h;refine⟨σ1,?_,h2⟩;simp only[List.map_cons,List.map_nil,fv] at h1;split at h1
 ·rename_i σ2 he;injection h1 with h1;rw[he,h1]
 ·cases h1
def Ik (T:List au):List wh->af->(af->Option ρ)->Option ρ
 |[],σ,k=>k σ
 |.op m::l,σ,k=>afH T m σ fun σ1=>Ik T l σ1 k
 |.qD d c::l,σ,k=>EY T d c σ fun σ1=>Ik T l σ1 k
theorem Vu {T:List au}:∀{l:List wh} {σ:af} {k:af->Option ρ} {r:ρ},Ik T l σ k=some r->∃σ1:af,uJ (cM T) (l.map wh.er) σ.er=some σ1.er/\k σ1=some r
 |[],σ,k,r,h=>⟨σ,rfl,h⟩
 |.op m::l,σ,k,r,h=>by
  obtain⟨σ1,h1,h2⟩:=atf h;obtain⟨σ2,h3,h4⟩:=Vu h2;exact⟨σ2,by simp only[List.map_cons,wh.er,uJ,h1,h3],h4⟩
 |.qD d c::l,σ,k,r,h=>by
  obtain⟨σ1,h1,h2⟩:=as4 h;obtain⟨σ2,h3,h4⟩:=Vu h2;exact⟨σ2,by simp only[List.map_cons,wh.er,uJ,h1,h3],h4⟩
end
inductive LT where
 |unit
 |ty (t:Ty)
 |dl (ts:List Ty)
 |nat
 |pair (a b:LT)
def LT.D:LT->Type
 |.unit=>Unit
 |.ty t=>t.D
 |.dl ts=>Ty.DL ts
 |.nat=>Nat
 |.pair a b=>a.D×b.D
def LT.E9 (a:LT):LT->LT
 |.unit=>a
 |.ty t=>.pair a (.ty t)
 |.dl ts=>.pair a (.dl ts)
 |.nat=>.pair a .nat
 |.pair x y=>.pair a (.pair x y)
def LT.sp:LT->LT->LT
 |.unit,b=>b
 |.ty t,b=>LT.E9 (.ty t) b
 |.dl ts,b=>LT.E9 (.dl ts) b
 |.nat,b=>LT.E9 .nat b
 |.pair x y,b=>LT.E9 (.pair x y) b
def LT.Iz (a:LT):(b:LT)->(LT.E9 a b).D->a.D×b.D
 |.unit,x=>(x,())
 |.ty _,x=>x
 |.dl _,x=>x
 |.nat,x=>x
 |.pair _ _,x=>x
def LT.vS:(a b:LT)->(LT.sp a b).D->a.D×b.D
 |.unit,b,x=>((),x)
 |.ty t,b,x=>LT.Iz (.ty t) b x
 |.dl ts,b,x=>LT.Iz (.dl ts) b x
 |.nat,b,x=>LT.Iz .nat b x
 |.pair x y,b,z=>LT.Iz (.pair x y) b z
def LT.Iy (a:LT):(b:LT)->a.D->b.D->(LT.E9 a b).D
 |.unit,x,_=>x
 |.ty _,x,y=>(x,y)
 |.dl _,x,y=>(x,y)
 |.nat,x,y=>(x,y)
 |.pair _ _,x,y=>(x,y)
def LT.Fa:(a b:LT)->a.D->b.D->(LT.sp a b).D
 |.unit,b,_,y=>y
 |.ty t,b,x,y=>LT.Iy (.ty t) b x y
 |.dl ts,b,x,y=>LT.Iy (.dl ts) b x y
 |.nat,b,x,y=>LT.Iy .nat b x y
 |.pair u v,b,x,y=>LT.Iy (.pair u v) b x y
theorem LT.atx (a b:LT) (x:a.D) (y:b.D):LT.Iz a b (LT.Iy a b x y)=(x,y):=by cases b<;>rfl
theorem LT.af6 (a b:LT) (x:a.D) (y:b.D):LT.vS a b (LT.Fa a b x y)=(x,y):=by
 cases a with
 |unit=>rfl
 |_=>exact LT.atx _ b x y
section
variable {α β:Type} {ρ:Type} {L:α->LT}
def LL (L:α->LT):List α->LT
 |[]=>.unit
 |a::l=>LT.sp (L a) (LL L l)
def rH (un:(a:α)->(L a).D->β):(l:List α)->(LL L l).D->List β
 |[],_=>[]
 |a::l,x=>un a (LT.vS (L a) (LL L l) x).1::rH un l (LT.vS (L a) (LL L l) x).2
def sa (flat:(a:α)->β->((L a).D->Option ρ)->Option ρ):(l:List α)->List β->((LL L l).D->Option ρ)->Option ρ
 |[],[],k=>k ()
 |a::l,b::bs,k=>flat a b fun x=>sa flat l bs fun y=>k (LT.Fa (L a) (LL L l) x y)
 |_,_,_=>none
theorem yG {flat:(a:α)->β->((L a).D->Option ρ)->Option ρ} {un:(a:α)->(L a).D->β}
  (hf:∀a b k r,flat a b k=some r->∃x,b=un a x/\k x=some r):∀{l:List α} {bs:List β} {k:(LL L l).D->Option ρ} {r:ρ},sa flat l bs k=some r->
  ∃x,bs=rH un l x/\k x=some r
 |[],[],k,r,h=>⟨(),rfl,h⟩
 |a::l,b::bs,k,r,h=>by
  simp only[sa] at h;obtain⟨x,rfl,h2⟩:=hf _ _ _ _ h;obtain⟨y,rfl,h4⟩:=yG hf h2;exact⟨LT.Fa (L a) (LL L l) x y,by simp only[rH,LT.af6],h4⟩
 |[],_::_,k,r,h=>by simp[sa] at h
 |_::_,[],k,r,h=>by simp[sa] at h
end
inductive jf where
 |v (t:Ty)
 |nil (ts:List Ty)
 |H5 (n off:Nat)
 |ptr (n sz off:Nat)
 |dg (ts:List Ty) (off:Nat)
 |cH (ts:List Ty) (off j n sz:Nat)
 |full (n sz:Nat)
 |sl (n sz:Nat)
 |bC (n aB off sz:Nat)
 |bq
inductive fo where
 |c (s:jf)
 |fn (f:FuncId) (cP:List jf)
inductive iP where
 |one (c:fo)
 |agg (cs:List fo)
 |bK (xs:List (Bool×List fo))
inductive gp where
 |box (cs:List fo)
 |row (gr:Bool) (m:Mode) (ts:List Ty)
structure kI where
 env:List (Nat×iP)
 heap:List (Nat×gp)
abbrev kI.ke (sh:kI):List Nat:=sh.env.map (·.1)
def jf.L:jf->LT
 |.v t=>.ty t
 |.nil _=>.unit
 |.H5 _ _=>.unit
 |.ptr _ _ _=>.nat
 |.dg ts _=>.dl ts
 |.cH ts _ _ _ _=>.dl ts
 |.full _ _=>.unit
 |.sl _ _=>.pair .nat .nat
 |.bC _ _ _ _=>.pair .nat .nat
 |.bq=>.unit
def jf.un (ln:Nat->Nat):(s:jf)->s.L.D->SC
 |.v t,x=>.v t x
 |.nil ts,_=>.nil ts
 |.H5 n off,_=>.ptr n 0 0 off
 |.ptr n sz off,k=>.ptr n k sz off
 |.dg ts off,x=>.dg ts x off
 |.cH ts off j n sz,x=>.cH ts x off j n sz (ln n)
 |.full n sz,_=>.sl n sz 0 (ln n)
 |.sl n sz,x=>.sl n sz x.1 x.2
 |.bC n aB off sz,x=>.bC n x.1 aB off sz x.2
 |.bq,_=>.bq
section
variable {ρ:Type}
def jf.flat (ln:Nat->Nat) (s:jf) (c:SC) (k:s.L.D->Option ρ):Option ρ:=
 match s,c with
 |.v t,.v u x=>match Ty.cast u t x with
  |some y=>k y
  |none=>none
 |.nil ts,.nil us=>eM (Ty.tu us ts) (k ())
 |.H5 n off,.ptr n' kk sz lL=>cv n' n (cv kk 0 (cv sz 0 (cv lL off (k ()))))
 |.ptr n sz off,.ptr n' kk aF lL=>cv n' n (cv aF sz (cv lL off (k kk)))
 |.dg ts off,.dg us x lL=>cv lL off (match Ty.C9 us ts x with
  |some y=>k y
  |none=>none)
 |.cH ts off j n sz,.cH us x lL j' n' aF len=>cv lL off (cv j' j (cv n' n (cv aF sz ((bn 0 len (ln n)).ae fun _=>match Ty.C9 us ts x with
  |some y=>k y
  |none=>none))))
 |.full n sz,.sl n' aF lo len=>cv n' n (cv aF sz ((bn lo len (ln n)).ae fun _=>k ()))
 |.sl n sz,.sl n' aF lo len=>cv n' n (cv aF sz (k (lo,len)))
 |.bC n aB off sz,.bC n' kk asH lL aF len=>cv n' n (cv asH aB (cv lL off (cv aF sz (k (kk,len)))))
 |.bq,.bq=>k ()
 |_,_=>none
theorem Ty.cast_eq {t u:Ty} {x:t.D} {y:u.D} (h:Ty.cast t u x=some y):SC.v t x=SC.v u y:=by
 unfold Ty.cast at h;split at h
 ·rename_i he;have:=Ty.beq_eq he;subst this;injection h with h;rw[<-h]
 ·cases h
theorem Ty.ahS {ts us:List Ty} {x:Ty.DL ts} {y:Ty.DL us} (h:Ty.C9 ts us x=some y) (off:Nat):SC.dg ts x off=SC.dg us y off:=by
 unfold Ty.C9 at h;split at h
 ·rename_i he;have:=Ty.tv he;subst this;injection h with h;rw[<-h]
 ·cases h
theorem Ty.ahT {ts us:List Ty} {x:Ty.DL ts} {y:Ty.DL us} (h:Ty.C9 ts us x=some y) (off j n sz len:Nat):SC.cH ts x off j n sz len=SC.cH us y off j n sz len:=by
 unfold Ty.C9 at h;split at h
 ·rename_i he;have:=Ty.tv he;subst this;injection h with h;rw[<-h]
 ·cases h
theorem jf.qG {ln:Nat->Nat} (s:jf) (c:SC) (k:s.L.D->Option ρ) (r:ρ) (h:s.flat ln c k=some r):∃x,c=s.un ln x/\k x=some r:=by
 cases s with
 |v t=>
  cases c<;>simp only[jf.flat] at h<;>first|(cases h;done)|skip
  split at h
  ·rename_i y hy;exact⟨y,Ty.cast_eq hy,h⟩
  ·cases h
 |nil ts=>
  cases c<;>simp only[jf.flat] at h<;>first|(cases h;done)|skip
  have h1:=(bZ h).1;replace h:=(bZ h).2;exact⟨(),by rw[Ty.tv h1];rfl,h⟩
 |H5 n off=>
  cases c<;>simp only[jf.flat] at h<;>first|(cases h;done)|skip
  have bg:=(aO h).1;replace h:=(aO h).2;subst bg;have bg:=(aO h).1;replace h:=(aO h).2;subst bg;have bg:=(aO h).1;replace h:=(aO h).2;subst bg;have bg:=(aO h).1;replace h:=(aO h).2;subst bg;exact⟨(),rfl,h⟩
 |ptr n sz off=>
  cases c<;>simp only[jf.flat] at h<;>first|(cases h;done)|skip
  have bg:=(aO h).1;replace h:=(aO h).2;subst bg;have bg:=(aO h).1;replace h:=(aO h).2;subst bg;have bg:=(aO h).1;replace h:=(aO h).2;subst bg;exact⟨_,rfl,h⟩
 |dg ts off=>
  cases c<;>simp only[jf.flat] at h<;>first|(cases h;done)|skip
  have bg:=(aO h).1;replace h:=(aO h).2;subst bg;split at h
  ·rename_i y hy;exact⟨y,Ty.ahS hy _,h⟩
  ·cases h
 |cH ts off j n sz=>
  cases c<;>simp only[jf.flat] at h<;>first|(cases h;done)|skip
  have bg:=(aO h).1;replace h:=(aO h).2;subst bg;have bg:=(aO h).1;replace h:=(aO h).2;subst bg;have bg:=(aO h).1;replace h:=(aO h).2;subst bg;have bg:=(aO h).1;replace h:=(aO h).2;subst bg;rw[ed] at h;obtain⟨_,hf,h⟩:=h;unfold bn at hf;split at hf
  ·rename_i hc;obtain⟨_,rfl⟩:=hc;split at h
   ·rename_i y hy;exact⟨y,Ty.ahT hy _ _ _ _ _,h⟩
   ·cases h
  ·cases hf
 |full n sz=>
  cases c<;>simp only[jf.flat] at h<;>first|(cases h;done)|skip
  have bg:=(aO h).1;replace h:=(aO h).2;subst bg;have bg:=(aO h).1;replace h:=(aO h).2;subst bg;rw[ed] at h;obtain⟨_,hf,h⟩:=h;unfold bn at hf;split at hf
  ·rename_i hc;obtain⟨rfl,rfl⟩:=hc;exact⟨(),rfl,h⟩
  ·cases hf
 |sl n sz=>
  cases c<;>simp only[jf.flat] at h<;>first|(cases h;done)|skip
  have bg:=(aO h).1;replace h:=(aO h).2;subst bg;have bg:=(aO h).1;replace h:=(aO h).2;subst bg;exact⟨_,rfl,h⟩
 |bC n aB off sz=>
  cases c<;>simp only[jf.flat] at h<;>first|(cases h;done)|skip
  have bg:=(aO h).1;replace h:=(aO h).2;subst bg;have bg:=(aO h).1;replace h:=(aO h).2;subst bg;have bg:=(aO h).1;replace h:=(aO h).2;subst bg;have bg:=(aO h).1;replace h:=(aO h).2;subst bg;exact⟨_,rfl,h⟩
 |bq=>
  cases c<;>simp only[jf.flat] at h<;>first|(cases h;done)|skip
  exact⟨(),rfl,h⟩
def fo.L:fo->LT
 |.c s=>s.L
 |.fn _ cP=>LL jf.L cP
def fo.un (ln:Nat->Nat):(s:fo)->s.L.D->SC
 |.c s,x=>s.un ln x
 |.fn f cP,x=>.fn f (rH (jf.un ln) cP x)
def fo.flat (ln:Nat->Nat) (s:fo) (c:SC) (k:s.L.D->Option ρ):Option ρ:=
 match s,c with
 |.c s,c=>s.flat ln c k
 |.fn f cP,.fn f' cs=>cv f' f (sa (jf.flat ln) cP cs k)
 |_,_=>none
theorem fo.qG {ln:Nat->Nat} (s:fo) (c:SC) (k:s.L.D->Option ρ) (r:ρ) (h:s.flat ln c k=some r):∃x,c=s.un ln x/\k x=some r:=by
 cases s with
 |c s=>exact s.qG c k r (by cases c<;>exact h)
 |fn f cP=>
  cases c<;>simp only[fo.flat] at h<;>first|(cases h;done)|skip
  have bg:=(aO h).1;replace h:=(aO h).2;subst bg;obtain⟨x,e_,h_⟩:=yG (un:=jf.un ln) (fun a b k r=>jf.qG a b k r) h;subst e_;replace h:=h_;exact⟨x,rfl,h⟩
def iP.L:iP->LT
 |.one c=>c.L
 |.agg cs=>LL fo.L cs
 |.bK xs=>LL (fun x:Bool×List fo=>LL fo.L x.2) xs
def iP.un (ln:Nat->Nat):(s:iP)->s.L.D->SV
 |.one c,x=>.one (c.un ln x)
 |.agg cs,x=>.agg (rH (fo.un ln) cs x)
 |.bK xs,x=>.bK (rH (L:=fun x:Bool×List fo=>LL fo.L x.2) (fun a y=>(a.1,rH (fo.un ln) a.2 y)) xs x)
def YZ (ln:Nat->Nat) (a:Bool×List fo) (b:Bool×List SC) (k:(LL fo.L a.2).D->Option ρ):Option ρ:=
 eM (a.1==b.1) (sa (fo.flat ln) a.2 b.2 k)
def iP.flat (ln:Nat->Nat) (s:iP) (v:SV) (k:s.L.D->Option ρ):Option ρ:=
 match s,v with
 |.one c,.one v=>c.flat ln v k
 |.agg cs,.agg vs=>sa (fo.flat ln) cs vs k
 |.bK xs,.bK vs=>sa (L:=fun x:Bool×List fo=>LL fo.L x.2) (YZ ln) xs vs k
 |_,_=>none
theorem iP.qG {ln:Nat->Nat} (s:iP) (v:SV) (k:s.L.D->Option ρ) (r:ρ) (h:s.flat ln v k=some r):∃x,v=s.un ln x/\k x=some r:=by
 cases s with
 |one c=>
  cases v<;>simp only[iP.flat] at h<;>first|(cases h;done)|skip
  obtain⟨x,e_,h_⟩:=fo.qG _ _ _ _ h;subst e_;replace h:=h_;exact⟨x,rfl,h⟩
 |agg cs=>
  cases v<;>simp only[iP.flat] at h<;>first|(cases h;done)|skip
  obtain⟨x,e_,h_⟩:=yG (un:=fo.un ln) (fun a b k r=>fo.qG a b k r) h;subst e_;replace h:=h_;exact⟨x,rfl,h⟩
 |bK xs=>
  cases v<;>simp only[iP.flat] at h<;>first|(cases h;done)|skip
  obtain⟨x,e_,h_⟩:=yG (L:=fun x:Bool×List fo=>LL fo.L x.2) (un:=fun a y=>(a.1,rH (fo.un ln) a.2 y)) (fun a b k r h=>by
   unfold YZ at h;have h1:=(bZ h).1;replace h:=(bZ h).2;obtain⟨x,h2,h⟩:=yG (un:=fo.un ln) (fun a b k r=>fo.qG a b k r) h;exact⟨x,Prod.ext (eq_of_beq h1).symm h2,h⟩) h
  subst e_;exact⟨x,rfl,h_⟩
def gp.L:gp->LT
 |.box cs=>LL fo.L cs
 |.row _ _ ts=>.ty (.list ts)
def gp.un (ln:Nat->Nat):(s:gp)->s.L.D->SB
 |.box cs,x=>.box (rH (fo.un ln) cs x)
 |.row gr m ts,x=>.row gr m ts x
def Mode.beq:Mode->Mode->Bool
 |.live,.live=>true
 |.aN,.aN=>true
 |.aJ,.aJ=>true
 |_,_=>false
theorem Mode.beq_eq {a b:Mode} (h:Mode.beq a b=true):a=b:=by cases a<;>cases b<;>first|rfl|cases h
def gp.flat (ln:Nat->Nat) (s:gp) (b:Option SB) (k:s.L.D->Option ρ):Option ρ:=
 match s,b with
 |.box cs,some (.box vs)=>sa (fo.flat ln) cs vs k
 |.row gr m ts,some (.row bo m' us xs)=>eM (bo==gr) (eM (Mode.beq m' m) (match yw us ts xs with
  |some y=>k y
  |none=>none))
 |_,_=>none
theorem asD {us ts:List Ty} {xs:List (Ty.DL us)} {ys:List (Ty.DL ts)} (h:yw us ts xs=some ys) (gr:Bool) (m:Mode):SB.row gr m us xs=SB.row gr m ts ys:=by
 unfold yw at h;split at h
 ·rename_i he;have h2:=Ty.tv he;subst h2;injection h with h;rw[<-h]
 ·cases h
theorem gp.qG {ln:Nat->Nat} (s:gp) (b:Option SB) (k:s.L.D->Option ρ) (r:ρ) (h:s.flat ln b k=some r):∃x,b=some (s.un ln x)/\k x=some r:=by
 cases s with
 |box cs=>
  cases b with
  |none=>cases h
  |some b=>
   cases b<;>simp only[gp.flat] at h<;>first|(cases h;done)|skip
   obtain⟨x,e_,h_⟩:=yG (un:=fo.un ln) (fun a b k r=>fo.qG a b k r) h;subst e_;replace h:=h_;exact⟨x,rfl,h⟩
 |row gr m ts=>
  cases b with
  |none=>cases h
  |some b=>
   cases b<;>simp only[gp.flat] at h<;>first|(cases h;done)|skip
   have h1:=(bZ h).1;replace h:=(bZ h).2;have h2:=(bZ h).1;replace h:=(bZ h).2;split at h
   ·rename_i y hy;refine⟨y,?_,h⟩;rw[eq_of_beq h1,Mode.beq_eq h2,asD hy];rfl
   ·cases h
end
def m9:List (Nat×SV)->Nat->SV
 |[]=>fun _=>.one .bq
 |p::l=>az (m9 l) p.1 p.2
def lC:List (Nat×Option SB)->Nat->Option SB
 |[]=>fun _=>none
 |p::l=>az (lC l) p.1 p.2
def Ft:List (Nat×gp)->Nat->Bool
 |[]=>fun _=>false
 |p::l=>az (Ft l) p.1 true
def ud (h:Nat->Option SB) (n:Nat):Nat:=
 match h n with
 |some (.row _ _ ts xs)=>aa (α:=Ty.DL ts) xs
 |_=>0
abbrev kI.eL (sh:kI):LT:=LL (fun p:Nat×iP=>p.2.L) sh.env
abbrev kI.hL (sh:kI):LT:=LL (fun p:Nat×gp=>p.2.L) sh.heap
def kI.L (sh:kI):LT:=LT.sp sh.eL sh.hL
def N2 (ln:Nat->Nat) (l:List (Nat×iP)) (x:(LL (fun p:Nat×iP=>p.2.L) l).D):List (Nat×SV):=
 rH (L:=fun p:Nat×iP=>p.2.L) (fun p y=>(p.1,p.2.un ln y)) l x
def Cd (ln:Nat->Nat) (l:List (Nat×gp)) (x:(LL (fun p:Nat×gp=>p.2.L) l).D):List (Nat×Option SB):=
 rH (L:=fun p:Nat×gp=>p.2.L) (fun p y=>(p.1,some (p.2.un ln y))) l x
def vE:(l:List (Nat×gp))->(LL (fun p:Nat×gp=>p.2.L) l).D->Nat->Nat
 |[],_=>fun _=>0
 |(n,.box cs)::l,x=>az (vE l (LT.vS _ _ x).2) n 0
 |(n,.row gr m ts)::l,x=>az (vE l (LT.vS (LT.ty (.list ts)) _ x).2) n (aa (α:=Ty.DL ts) (LT.vS (LT.ty (.list ts)) _ x).1)
theorem S6 (ln:Nat->Nat):∀(l:List (Nat×gp)) (x:(LL (fun p:Nat×gp=>p.2.L) l).D),vE l x=ud (lC (Cd ln l x))
 |[],_=>rfl
 |(n,.box cs)::l,x=>by
  funext m;simp only[vE,Cd,rH,lC,ud];by_cases hm:m=n
  ·subst hm;simp only[bR];rfl
  ·simp only[cN _ _ _ _ hm];exact congrFun (S6 ln l _) m
 |(n,.row gr mo ts)::l,x=>by
  funext m;simp only[vE,Cd,rH,lC,ud];by_cases hm:m=n
  ·subst hm;simp only[bR];rfl
  ·simp only[cN _ _ _ _ hm];exact congrFun (S6 ln l _) m
def kI.un (sh:kI) (x:sh.L.D):af:=
 {env:=m9 (N2 (vE sh.heap (LT.vS sh.eL sh.hL x).2) sh.env (LT.vS sh.eL sh.hL x).1)
  h:=lC (Cd (vE sh.heap (LT.vS sh.eL sh.hL x).2) sh.heap (LT.vS sh.eL sh.hL x).2)
  used:=fun n=>Nat.ble aH n||Ft sh.heap n}
def se (n:Nat):List (Nat×gp)->Bool
 |[]=>false
 |p::l=>match Nat.beq n p.1 with
  |true=>true
  |false=>se n l
section
variable {ρ:Type}
def YV (ln:Nat->Nat) (p:Nat×iP) (v:Nat×SV) (k:p.2.L.D->Option ρ):Option ρ:=cv v.1 p.1 (p.2.flat ln v.2 k)
def YW (ln:Nat->Nat) (p:Nat×gp) (b:Nat×Option SB) (k:p.2.L.D->Option ρ):Option ρ:=cv b.1 p.1 (p.2.flat ln b.2 k)
def Ky (σ:af) (hp:List (Nat×gp)):List Nat->Bool
 |[]=>true
 |n::kh=>(match se n hp with|true=>σ.used n|false=>(match σ.used n with|true=>Nat.ble aH n|false=> !(Nat.ble aH n))&&(σ.h n).isNone)&&Ky σ hp kh
def Ki (kh:List Nat):List (Nat×gp)->Bool
 |[]=>true
 |p::l=>kh.contains p.1&&Ki kh l
def kI.flat (sh:kI) (kh:List Nat) (σ:af) (k:sh.L.D->Option ρ):Option ρ:=
 eM (Ky σ sh.heap kh&&Ki kh sh.heap)
  (sa (YV (ud σ.h)) sh.env (sh.env.map fun p=>(p.1,σ.env p.1)) fun xe=>
   sa (YW (ud σ.h)) sh.heap (sh.heap.map fun p=>(p.1,σ.h p.1)) fun xh=>k (LT.Fa sh.eL sh.hL xe xh))
end
theorem aiF (l:List (Nat×iP)) (f:Nat->SV) (hf:∀s,s∉l.map (·.1)->f s=.one .bq):m9 (l.map fun p=>(p.1,f p.1))=f:=by
 have:∀(l:List (Nat×iP)) s,m9 (l.map fun p=>(p.1,f p.1)) s=if s∈l.map (·.1) then f s else .one .bq:=by
  intro l s;induction l with
  |nil=>rfl
  |cons p l ih=>
   simp only[List.map_cons,m9,kg,ih,List.mem_cons];by_cases h:s=p.1
   ·subst h;simp
   ·by_cases h2:s∈l.map (·.1)
    ·rw[if_neg h,if_pos h2,if_pos (Or.inr h2)]
    ·rw[if_neg h,if_neg h2,if_neg (fun e=>e.elim h h2)]
 funext s;rw[this];split
 ·rfl
 ·rename_i h;exact(hf s h).symm
theorem ak4 (l:List (Nat×gp)) (f:Nat->Option SB) (hf:∀s,s∉l.map (·.1)->f s=none):lC (l.map fun p=>(p.1,f p.1))=f:=by
 have:∀(l:List (Nat×gp)) s,lC (l.map fun p=>(p.1,f p.1)) s=if s∈l.map (·.1) then f s else none:=by
  intro l s;induction l with
  |nil=>rfl
  |cons p l ih=>
   simp only[List.map_cons,lC,kg,ih,List.mem_cons];by_cases h:s=p.1
   ·subst h;simp
   ·by_cases h2:s∈l.map (·.1)
    ·rw[if_neg h,if_pos h2,if_pos (Or.inr h2)]
    ·rw[if_neg h,if_neg h2,if_neg (fun e=>e.elim h h2)]
 funext s;rw[this];split
 ·rfl
 ·rename_i h;exact(hf s h).symm
theorem aah (n:Nat) (l:List (Nat×gp)):se n l=true↔n∈l.map (·.1):=by
  induction l with
  |nil=>simp[se]
  |cons p l ih=>
   simp only[se,List.map_cons,List.mem_cons];cases h:Nat.beq n p.1 with
   |true=>simp[Nat.eq_of_beq_eq_true h]
   |false=>simp only[ih];constructor
           · exact .inr
           · rintro(rfl|h2)
             · rw[Nat.beq_refl] at h;cases h
             · exact h2
theorem aub (n:Nat) (l:List (Nat×gp)):Ft l n=se n l:=by
 induction l with
 |nil=>rfl
 |cons p l ih=>
  simp only[Ft,se,kg,ih];by_cases h:n=p.1
  ·subst h;simp[Nat.beq_refl]
  ·have:Nat.beq n p.1=false:=by
    cases hb:Nat.beq n p.1 with
    |true=>exact absurd (Nat.eq_of_beq_eq_true hb) h
    |false=>rfl
   simp[h,this]
theorem Qf {σ:af} {hp:List (Nat×gp)}:∀{kh:List Nat},Ky σ hp kh=true->∀n∈kh,σ.used n=(Nat.ble aH n||se n hp)/\(se n hp=false->σ.h n=none)
 |[],_,n,hn=>by cases hn
 |m::kh,h,n,hn=>by
  simp only[Ky,Bool.and_eq_true] at h;rcases List.mem_cons.1 hn with e_|hn
  ·subst e_;cases hh:se n hp with
   |true=>
    rw[hh] at h;have h1:σ.used n=true:=h.1;exact⟨by rw[h1,Bool.or_true],fun e=>by cases e⟩
   |false=>
    rw[hh] at h;simp only[Bool.and_eq_true,Option.isNone_iff_eq_none] at h;refine⟨?_,fun _=>h.1.2⟩;have h1:=h.1.1;rw[Bool.or_false];cases hu:σ.used n with
    |true=>rw[hu] at h1;exact h1.symm
    |false=>rw[hu] at h1;simpa using h1.symm
  ·exact Qf h.2 n hn
theorem W9 {kh:List Nat}:∀{l:List (Nat×gp)},Ki kh l=true->∀n∈l.map (·.1),n∈kh
 |[],_,n,hn=>by cases hn
 |p::l,h,n,hn=>by
  simp only[Ki,Bool.and_eq_true] at h;simp only[List.map_cons,List.mem_cons] at hn;rcases hn with rfl|hn
  ·simpa using h.1
  ·exact W9 h.2 n hn
theorem kI.qG {ρ:Type} {sh:kI} {kh:List Nat} {σ:af} {k:sh.L.D->Option ρ} {r:ρ} (h:sh.flat kh σ k=some r)
  (he:∀s,s∉sh.ke->σ.env s=.one .bq) (hh:∀n,n∉kh->σ.h n=none/\σ.used n=Nat.ble aH n):∃x,σ=sh.un x/\k x=some r:=by
 unfold kI.flat at h;have hc:=(bZ h).1;replace h:=(bZ h).2;simp only[Bool.and_eq_true] at hc;obtain⟨xe,e1,h⟩:=yG (L:=fun p:Nat×iP=>p.2.L) (un:=fun p y=>(p.1,p.2.un (ud σ.h) y)) (fun a b k r h=>by
  unfold YV at h;obtain⟨h1,h⟩:=aO h;obtain⟨x,h2,h⟩:=iP.qG _ _ _ _ h;exact⟨x,Prod.ext h1 h2,h⟩) h
 obtain⟨xh,e2,h⟩:=yG (L:=fun p:Nat×gp=>p.2.L) (un:=fun p y=>(p.1,some (p.2.un (ud σ.h) y))) (fun a b k r h=>by
  unfold YW at h;obtain⟨h1,h⟩:=aO h;obtain⟨x,h2,h⟩:=gp.qG _ _ _ _ h;exact⟨x,Prod.ext h1 h2,h⟩) h
 have tL:σ.env=m9 (N2 (ud σ.h) sh.env xe):=by
  unfold N2;rw[<-e1];exact(aiF sh.env σ.env he).symm
 have DQ:σ.h=lC (Cd (ud σ.h) sh.heap xh):=by
  unfold Cd;rw[<-e2];refine(ak4 sh.heap σ.h fun n hn=>?_).symm;by_cases hk:n∈kh
  ·refine(Qf hc.1 n hk).2 ?_;cases hb:se n sh.heap with
   |true=>exact absurd ((aah n sh.heap).1 hb) hn
   |false=>rfl
  ·exact(hh n hk).1
 have alk:vE sh.heap xh=ud σ.h:=by
  rw[S6 (ud σ.h),<-DQ]
 have alN:σ.used=fun n=>Nat.ble aH n||Ft sh.heap n:=by
  funext n;rw[aub];by_cases hk:n∈kh
  ·exact(Qf hc.1 n hk).1
  ·rw[(hh n hk).2];cases hb:se n sh.heap with
   |true=>exact absurd (W9 hc.2 n ((aah n sh.heap).1 hb)) hk
   |false=>rw[Bool.or_false]
 refine⟨LT.Fa sh.eL sh.hL xe xh,?_,h⟩;have:sh.un (LT.Fa sh.eL sh.hL xe xh)={env:=m9 (N2 (vE sh.heap xh) sh.env xe),h:=lC (Cd (vE sh.heap xh) sh.heap xh),used:=fun n=>Nat.ble aH n||Ft sh.heap n}:=by
  simp only[kI.un,LT.af6]
 rw[this,alk,<-tL,<-DQ,<-alN]
def SC.fJ (ok:Nat->Bool):SC->SC
 |.ptr n k sz off=>match ok n with|true=>.ptr n k sz off|false=>.bq
 |.sl n sz lo len=>match ok n with|true=>.sl n sz lo len|false=>.bq
 |.bC n k aB off sz len=>match ok n with|true=>.bC n k aB off sz len|false=>.bq
 |.db n k aB off sz i=>match ok n with|true=>.db n k aB off sz i|false=>.bq
 |.cH ts x off j n sz len=>match ok n with|true=>.cH ts x off j n sz len|false=>.bq
 |x=>x
def SC.dR (ok:Nat->Bool):SC->SC
 |.fn f cP=>.fn f (cP.map (SC.fJ ok))
 |.v t x=>.v t x
 |.nil ts=>.nil ts
 |.ptr n k sz off=>SC.fJ ok (.ptr n k sz off)
 |.dg ts x off=>.dg ts x off
 |.sl n sz lo len=>SC.fJ ok (.sl n sz lo len)
 |.bC n k aB off sz len=>SC.fJ ok (.bC n k aB off sz len)
 |.db n k aB off sz i=>SC.fJ ok (.db n k aB off sz i)
 |.cH ts x off j n sz len=>SC.fJ ok (.cH ts x off j n sz len)
 |.bq=>.bq
theorem SC.Df (ok:Nat->Bool) (c:SC):(c.fJ ok).er=c.er.fJ ok:=by
 cases c with
 |ptr n k sz off=>simp only[SC.fJ,SC.er,ah.fJ];cases ok n<;>rfl
 |sl n sz lo len=>simp only[SC.fJ,SC.er,ah.fJ];cases ok n<;>rfl
 |bC n k aB off sz len=>simp only[SC.fJ,SC.er,ah.fJ];cases ok n<;>rfl
 |db n k aB off sz i=>simp only[SC.fJ,SC.er,ah.fJ];cases ok n<;>rfl
 |cH ts x off j n sz len=>simp only[SC.fJ,SC.er,ah.fJ];cases ok n<;>rfl
 |_=>rfl
theorem SC.Dg (ok:Nat->Bool) (c:SC):(c.dR ok).er=c.er.dR ok:=by
 cases c with
 |fn f cP=>
  simp only[SC.dR,SC.er,ah.dR,SC.Ay,List.map_map];congr 1;exact List.map_congr_left fun c _=>SC.Df ok c
 |ptr n k sz off=>exact SC.Df ok (.ptr n k sz off)
 |sl n sz lo len=>exact SC.Df ok (.sl n sz lo len)
 |bC n k aB off sz len=>exact SC.Df ok (.bC n k aB off sz len)
 |db n k aB off sz i=>exact SC.Df ok (.db n k aB off sz i)
 |cH ts x off j n sz len=>exact SC.Df ok (.cH ts x off j n sz len)
 |_=>rfl
def SV.dR (ok:Nat->Bool):SV->SV
 |.one c=>.one (c.dR ok)
 |.agg cs=>.agg (cs.map (SC.dR ok))
 |.bK xs=>.bK (xs.map fun x=>(x.1,x.2.map (SC.dR ok)))
theorem Qk (ok:Nat->Bool) (cs:List SC):(cs.map (SC.dR ok)).map SC.er=(cs.map SC.er).map (ah.dR ok):=by
 simp only[List.map_map];exact List.map_congr_left fun c _=>SC.Dg ok c
theorem SV.Dg (ok:Nat->Bool) (v:SV):(v.dR ok).er=v.er.dR ok:=by
 cases v with
 |one c=>simp only[SV.dR,SV.er,aj.dR,SC.Dg]
 |agg cs=>simp only[SV.dR,SV.er,aj.dR,Qk]
 |bK xs=>
  simp only[SV.dR,SV.er,aj.dR,List.map_map];congr 1;exact List.map_congr_left fun x _=>by simp only[Function.comp];rw[Qk]
def SB.dR (ok:Nat->Bool):SB->SB
 |.box cs=>.box (cs.map (SC.dR ok))
 |.row gr m ts xs=>.row gr m ts xs
theorem SB.Dg (ok:Nat->Bool) (b:SB):(b.dR ok).er=b.er.dR ok:=by
 cases b with
 |box cs=>simp only[SB.dR,SB.er,aq.dR,Qk]
 |row gr m ts xs=>rfl
def B6 (ok:Nat->Bool) (env:Nat->SV):List Nat->(Nat->SV)
 |[]=>fun _=>.one .bq
 |s::ss=>az (B6 ok env ss) s ((env s).dR ok)
def xR (ok:Nat->Bool) (h:Nat->Option SB):List Nat->(Nat->Option SB)
 |[]=>fun _=>none
 |s::ss=>match ok s with
  |true=>match h s with
   |some b=>az (xR ok h ss) s (some (b.dR ok))
   |none=>xR ok h ss
  |false=>xR ok h ss
def uf (ok:Nat->Bool):List Nat->(Nat->Bool)
 |[]=>fun _=>false
 |s::ss=>match ok s with
  |true=>az (uf ok ss) s true
  |false=>uf ok ss
theorem age (ok:Nat->Bool) (env:Nat->SV):∀l,r7 (B6 ok env l)=xE ok (r7 env) l
 |[]=>rfl
 |s::ss=>by simp only[B6,xE,wD,age ok env ss,SV.Dg];rfl
theorem NG (ok:Nat->Bool) (h:Nat->Option SB):∀l,dd (xR ok h l)=sT ok (dd h) l
 |[]=>rfl
 |s::ss=>by
  simp only[xR,sT];cases ok s with
  |false=>simp only[NG ok h ss,Bool.false_eq_true,if_false]
  |true=>
   have:dd h s=(h s).map SB.er:=rfl;simp only[if_true,this];cases h s with
   |none=>simp only[Option.map_none,NG ok h ss]
   |some b=>simp only[KR,NG ok h ss,Option.map_some,SB.Dg]
theorem agf (ok:Nat->Bool):∀l,uf ok l=xF ok l
 |[]=>rfl
 |s::ss=>by
  simp only[uf,xF];cases ok s<;>simp[agf ok ss]
theorem VT (ok:Nat->Bool) (env:Nat->SV):∀(l:List Nat) (s:Nat),s∉l->B6 ok env l s=.one .bq
 |[],s,_=>rfl
 |a::l,s,h=>by
  simp only[List.mem_cons,not_or] at h;simp only[B6,cN _ _ _ _ h.1,VT ok env l s h.2]
theorem VU (ok:Nat->Bool) (hp:Nat->Option SB):∀(l:List Nat) (s:Nat),s∉l->xR ok hp l s=none
 |[],s,_=>rfl
 |a::l,s,h=>by
  simp only[List.mem_cons,not_or] at h;have ih:=VU ok hp l s h.2;simp only[xR];cases ok a with
  |false=>exact ih
  |true=>
   cases hp a with
   |none=>exact ih
   |some b=>simp only[cN _ _ _ _ h.1];exact ih
theorem VV (ok:Nat->Bool):∀(l:List Nat) (s:Nat),s∉l->uf ok l s=false
 |[],s,_=>rfl
 |a::l,s,h=>by
  simp only[List.mem_cons,not_or] at h;have ih:=VV ok l s h.2;simp only[uf];cases ok a with
  |false=>exact ih
  |true=>simp only[cN _ _ _ _ h.1];exact ih
def SC.zC (n:Nat):SC->Bool
 |.ptr m _ _ _=>Nat.beq m n
 |.sl m _ _ _=>Nat.beq m n
 |.bC m _ _ _ _ _=>Nat.beq m n
 |.db m _ _ _ _ _=>Nat.beq m n
 |.cH _ _ _ _ m _ _=>Nat.beq m n
 |_=>false
def SC.iL (n:Nat):SC->Bool
 |.fn _ cP=>cP.any (SC.zC n)
 |.ptr m _ _ _=>Nat.beq m n
 |.sl m _ _ _=>Nat.beq m n
 |.bC m _ _ _ _ _=>Nat.beq m n
 |.db m _ _ _ _ _=>Nat.beq m n
 |.cH _ _ _ _ m _ _=>Nat.beq m n
 |.v _ _=>false
 |.nil _=>false
 |.dg _ _ _=>false
 |.bq=>false
theorem C1 (m n:Nat):(m==n)=Nat.beq m n:=by
 rw[Bool.eq_iff_iff,beq_iff_eq];exact⟨fun h=>by rw[h];exact Nat.beq_refl n,Nat.eq_of_beq_eq_true⟩
theorem SC.asm (n:Nat) (c:SC):c.er.zC n=c.zC n:=by
 cases c<;>simp[SC.er,ah.zC,SC.zC,C1]
theorem SC.MZ (n:Nat) (c:SC):c.er.iL n=c.iL n:=by
 cases c with
 |fn f cP=>
  simp only[SC.er,SC.Ay,ah.iL,SC.iL,List.any_map];congr 1;funext c;exact SC.asm n c
 |ptr m _ _ _=>exact C1 m n
 |sl m _ _ _=>exact C1 m n
 |bC m _ _ _ _ _=>exact C1 m n
 |db m _ _ _ _ _=>exact C1 m n
 |cH _ _ _ _ m _ _=>exact C1 m n
 |_=>rfl
def SV.iL (n:Nat):SV->Bool
 |.one c=>c.iL n
 |.agg cs=>cs.any (SC.iL n)
 |.bK xs=>xs.any fun x=>x.2.any (SC.iL n)
theorem TX (n:Nat) (cs:List SC):(cs.map SC.er).any (ah.iL n)=cs.any (SC.iL n):=by
 rw[List.any_map];congr 1;funext c;exact SC.MZ n c
theorem SV.MZ (n:Nat) (v:SV):v.er.iL n=v.iL n:=by
 cases v with
 |one c=>exact SC.MZ n c
 |agg cs=>exact TX n cs
 |bK xs=>
  simp only[SV.er,aj.iL,SV.iL,List.any_map];congr 1;funext x;exact TX n x.2
def adU (n:Nat):Option SB->Bool
 |some (.box cs)=>cs.any (SC.iL n)
 |_=>false
def KN (n:Nat):List Nat->Bool
 |[]=>false
 |m::l=>match Nat.beq n m with
  |true=>true
  |false=>KN n l
theorem Yi (n:Nat):∀l:List Nat,KN n l=l.contains n
 |[]=>rfl
 |m::l=>by
  simp only[KN,List.contains_cons];have e:(n==m)=Nat.beq n m:=by cases h:Nat.beq n m with
   |true=>simpa using Nat.eq_of_beq_eq_true h
   |false=>simp;intro h';rw[h',Nat.beq_refl] at h;cases h
  rw[e,Yi n l];cases Nat.beq n m<;>rfl
def af.j9 (σ:af) (ke kh:List Nat):Nat->Bool:=fun n=>(σ.h n).isSome&&KN n kh&&(Nat.ble aH n||ke.any (fun s=>(σ.env s).iL n)||kh.any fun k=>adU n (σ.h k))
theorem af.aqN (σ:af) (ke kh:List Nat):σ.er.j9 ke kh=σ.j9 ke kh:=by
 funext n;simp only[St.j9,af.j9];have h1:(σ.er.h n).isSome=(σ.h n).isSome:=Yq σ.h n;have h2:(fun s=>(σ.er.env s).iL n)=fun s=>(σ.env s).iL n:=by funext s;exact SV.MZ n _
 have h3:(fun k=>match σ.er.h k with|some (.box cs)=>cs.any (·.iL n)|_=>false)=fun k=>adU n (σ.h k):=by
  funext k;have:σ.er.h k=(σ.h k).map SB.er:=rfl;rw[this];cases σ.h k with
  |none=>rfl
  |some b=>cases b with
   |box cs=>exact TX n cs
   |row gr m ts xs=>rfl
 rw[h1,h2,Yi,Bool.and_comm (x:=(σ.h n).isSome)];exact congrArg (fun g:Nat->Bool=>(kh.contains n&&(σ.h n).isSome&&((Nat.ble aH n||ke.any fun s=>SV.iL n (σ.env s))||kh.any g))) h3
def af.ju (σ:af) (ke kh:List Nat):af:=
 {env:=B6 (σ.j9 ke kh) σ.env ke,h:=xR (σ.j9 ke kh) σ.h kh,used:=fun n=>Nat.ble aH n||uf (σ.j9 ke kh) kh n}
theorem af.T4 (σ:af) (ke kh:List Nat):(σ.ju ke kh).er=σ.er.ju ke kh:=by
 simp only[af.ju,St.ju,af.aqN];have e1:=age (σ.j9 ke kh) σ.env ke;have e2:=NG (σ.j9 ke kh) σ.h kh;have e3:=agf (σ.j9 ke kh) kh;show St.mk (r7 (B6 (σ.j9 ke kh) σ.env ke)) (dd (xR (σ.j9 ke kh) σ.h kh)) (fun n=>Nat.ble aH n||uf (σ.j9 ke kh) kh n)=_;rw[e1,e2,e3];rfl
def s6 (x c n:Nat):Nat:=match Nat.beq n x with|true=>c|false=>n
theorem Fe (x c n:Nat):s6 x c n=oz x c n:=by
 unfold s6 oz;cases h:Nat.beq n x with
 |true=>rw[if_pos (Nat.eq_of_beq_eq_true h)]
 |false=>rw[if_neg (fun e=>by rw[e,Nat.beq_refl] at h;cases h)]
def SC.pn (x c:Nat):SC->SC
 |.ptr n k sz off=>.ptr (s6 x c n) k sz off
 |.sl n sz lo len=>.sl (s6 x c n) sz lo len
 |.bC n k aB off sz len=>.bC (s6 x c n) k aB off sz len
 |.db n k aB off sz i=>.db (s6 x c n) k aB off sz i
 |.cH ts y off j n sz len=>.cH ts y off j (s6 x c n) sz len
 |y=>y
def SC.bw (x c:Nat):SC->SC
 |.fn f cP=>.fn f (cP.map (SC.pn x c))
 |.ptr n k sz off=>.ptr (s6 x c n) k sz off
 |.sl n sz lo len=>.sl (s6 x c n) sz lo len
 |.bC n k aB off sz len=>.bC (s6 x c n) k aB off sz len
 |.db n k aB off sz i=>.db (s6 x c n) k aB off sz i
 |.cH ts y off j n sz len=>.cH ts y off j (s6 x c n) sz len
 |.v t y=>.v t y
 |.nil ts=>.nil ts
 |.dg ts y off=>.dg ts y off
 |.bq=>.bq
theorem SC.ast (x c:Nat) (y:SC):(y.pn x c).er=y.er.pn x c:=by
 cases y<;>simp[SC.pn,SC.er,ah.pn,Fe]
theorem SC.zF (x c:Nat) (y:SC):(y.bw x c).er=y.er.bw x c:=by
 cases y with
 |fn f cP=>
  simp only[SC.bw,SC.er,ah.bw,SC.Ay,List.map_map];congr 1;exact List.map_congr_left fun y _=>SC.ast x c y
 |ptr n k sz off=>simp only[SC.bw,SC.er,ah.bw,ah.pn,Fe]
 |sl n sz lo len=>simp only[SC.bw,SC.er,ah.bw,ah.pn,Fe]
 |bC n k aB off sz len=>simp only[SC.bw,SC.er,ah.bw,ah.pn,Fe]
 |db n k aB off sz i=>simp only[SC.bw,SC.er,ah.bw,ah.pn,Fe]
 |cH ts y off j n sz len=>simp only[SC.bw,SC.er,ah.bw,ah.pn,Fe]
 |_=>rfl
theorem T1 (x c:Nat) (cs:List SC):(cs.map (SC.bw x c)).map SC.er=(cs.map SC.er).map (ah.bw x c):=by
 simp only[List.map_map];exact List.map_congr_left fun y _=>SC.zF x c y
def SV.bw (x c:Nat):SV->SV
 |.one y=>.one (y.bw x c)
 |.agg ys=>.agg (ys.map (SC.bw x c))
 |.bK ys=>.bK (ys.map fun y=>(y.1,y.2.map (SC.bw x c)))
theorem SV.zF (x c:Nat) (v:SV):(v.bw x c).er=v.er.bw x c:=by
 cases v with
 |one y=>simp only[SV.bw,SV.er,aj.bw,SC.zF]
 |agg cs=>simp only[SV.bw,SV.er,aj.bw,T1]
 |bK xs=>
  simp only[SV.bw,SV.er,aj.bw,List.map_map];congr 1;exact List.map_congr_left fun y _=>by simp only[Function.comp];rw[T1]
def SB.bw (x c:Nat):SB->SB
 |.box cs=>.box (cs.map (SC.bw x c))
 |.row gr m ts xs=>.row gr m ts xs
theorem SB.zF (x c:Nat) (b:SB):(b.bw x c).er=b.er.bw x c:=by
 cases b with
 |box cs=>simp only[SB.bw,SB.er,aq.bw,T1]
 |row gr m ts xs=>rfl
def af.bw (σ:af) (x c:Nat):Option af:=
  match Nat.beq x c with
  |true=>some σ
  |false=>match Nat.ble aH x with
   |true=>some σ
   |false=>match σ.used c with
    |true=>none
    |false=>some
     {env:=fun s=>(σ.env s).bw x c
      h:=fun n=>match Nat.beq n c with
        |true=>(σ.h x).map (SB.bw x c)
        |false=>match Nat.beq n x with
         |true=>none
         |false=>(σ.h n).map (SB.bw x c)
      used:=fun n=>match Nat.beq n c with
        |true=>σ.used x
        |false=>match Nat.beq n x with
         |true=>false
         |false=>σ.used n}
theorem zt {m n:Nat} (h:Nat.beq m n=false):m≠n:=fun e=>by rw[e,Nat.beq_refl] at h;cases h
theorem af.zF {σ σ1:af} {x c:Nat} (h:σ.bw x c=some σ1):σ.er.bw x c=some σ1.er:=by
 unfold af.bw at h;split at h
 ·rename_i e;injection h with h;subst h;simp[St.bw,Nat.eq_of_beq_eq_true e]
 ·rename_i e;split at h
  ·rename_i hx;injection h with h;subst h;simp only[St.bw,if_neg (zt e),hx,if_true]
  rename_i hx;split at h
  ·cases h
  ·rename_i hu;injection h with h;subst h;have n6:σ.er.used c=false:=hu;simp only[St.bw,if_neg (zt e),hx,n6,Bool.false_eq_true,if_false];congr 1;have mm:∀o:Option SB,(o.map (SB.bw x c)).map SB.er=(o.map SB.er).map (·.bw x c):=by
    intro o;cases o with
    |none=>rfl
    |some b=>simp only[Option.map_some,SB.zF]
   have e1:(fun s=>(σ.er.env s).bw x c)=r7 (fun s=>(σ.env s).bw x c):=by
    funext s;exact(SV.zF x c (σ.env s)).symm
   have e2:(fun n=>if n=c then(σ.er.h x).map (·.bw x c) else if n=x then none else(σ.er.h n).map (·.bw x c))=dd (fun n=>match Nat.beq n c with
     |true=>(σ.h x).map (SB.bw x c)
     |false=>match Nat.beq n x with
      |true=>none
      |false=>(σ.h n).map (SB.bw x c)):=by
    funext n;simp only[dd];cases hc:Nat.beq n c with
    |true=>rw[if_pos (Nat.eq_of_beq_eq_true hc)];exact(mm (σ.h x)).symm
    |false=>
     rw[if_neg (zt hc)];cases hx:Nat.beq n x with
     |true=>rw[if_pos (Nat.eq_of_beq_eq_true hx)];rfl
     |false=>rw[if_neg (zt hx)];exact(mm (σ.h n)).symm
   have e3:(fun n=>if n=c then σ.er.used x else if n=x then false else σ.er.used n)=(fun n=>match Nat.beq n c with
     |true=>σ.used x
     |false=>match Nat.beq n x with
      |true=>false
      |false=>σ.used n):=by
    funext n;cases hc:Nat.beq n c with
    |true=>rw[if_pos (Nat.eq_of_beq_eq_true hc)];rfl
    |false=>
     rw[if_neg (zt hc)];cases hx:Nat.beq n x with
     |true=>rw[if_pos (Nat.eq_of_beq_eq_true hx)]
     |false=>rw[if_neg (zt hx)];rfl
   rw[e1,e2,e3];rfl
abbrev Cn:=List (Bool×Nat×Nat×Nat×Mode×List Ty)
def Cn.er (cn:Cn):List (Bool×Nat×Nat×Nat×Mode):=cn.map fun x=>(x.1,x.2.1,x.2.2.1,x.2.2.2.1,x.2.2.2.2.1)
def af.lr (σ:af) (c:Nat):Mode->af
 |.aJ=>match σ.h c with
  |some (.row gr .aN ts xs)=>σ.eE c (.row gr .aJ ts xs)
  |_=>σ
 |_=>σ
theorem af.aiL (σ:af) (c:Nat) (m:Mode):(σ.lr c m).er=σ.er.lr c m:=by
 cases m with
 |live=>rfl
 |aN=>rfl
 |aJ=>
  simp only[af.lr,St.lr];have hh:σ.er.h c=(σ.h c).map SB.er:=rfl;rw[hh];cases σ.h c with
  |none=>rfl
  |some b=>cases b with
   |box cs=>rfl
   |row gr m ts xs=>cases m with
    |aN=>simp only[Option.map_some,SB.er,af.pO]
    |live=>rfl
    |aJ=>rfl
def zH (σ:af):Bool×Nat×Nat×Nat×Mode×List Ty->Option af
 |(true,n,j,c,m,us)=>match σ.h n with
  |some (.box cs)=>match cs[j]? with
   |some (.sl a _ _ _)=>(σ.bw a c).map fun σ1=>σ1.lr c m
   |some (.nil ts)=>match ts with
    |[]=>some σ
    |t::ts=>match σ.ins c (.row true m (t::ts) []) with
     |some σ1=>some (σ1.eE n (.box (cs.set j (.sl c (t::ts).length 0 0))))
     |none=>none
   |_=>some σ
  |_=>some σ
 |(false,n,j,c,m,us)=>match σ.env n with
  |.one (.sl a _ _ _)=>(σ.bw a c).map fun σ1=>σ1.lr c m
  |.one (.nil ts)=>match ts with
   |[]=>some σ
   |t::ts=>match σ.ins c (.row true m (t::ts) []) with
    |some σ1=>some (σ1.put (some n) (.one (.sl c (t::ts).length 0 0)))
    |none=>none
  |_=>some σ
theorem agd {σ σ1:af} {a c:Nat} {m:Mode} (h:(σ.bw a c).map (fun σ1=>σ1.lr c m)=some σ1):(σ.er.bw a c).map (fun σ1=>σ1.lr c m)=some σ1.er:=by
 rw[Option.map_eq_some_iff] at h;obtain⟨σ2,e,rfl⟩:=h;rw[af.zF e,Option.map_some,af.aiL]
theorem as3 {σ σ1:af} {x:Bool×Nat×Nat×Nat×Mode×List Ty} (h:zH σ x=some σ1):σ.er.canon (x.1,x.2.1,x.2.2.1,x.2.2.2.1,x.2.2.2.2.1)=some σ1.er:=by
 obtain⟨b,n,j,c,m,us⟩:=x;cases b with
 |true=>
  simp only[zH] at h;simp only[St.canon];have hh:σ.er.h n=(σ.h n).map SB.er:=rfl;rw[hh];split at h
  ·rename_i cs hn;simp only[hn,Option.map_some,SB.er,List.getElem?_map];split at h
   ·rename_i a _ _ _ hj;simp only[hj,Option.map_some,SC.er];exact agd h
   ·rename_i ts hj;simp only[hj,Option.map_some,SC.er];split at h
    ·injection h with h;subst h;rfl
    ·rename_i t ts;split at h
     ·rename_i σ2 e;injection h with h;subst h;have i:=af.oO e;rw[show(SB.row true m (t::ts) []).er=aq.row true m (t::ts).length [] from rfl] at i
      simp only[List.length_cons,Nat.zero_lt_succ,if_true] at i⊢;rw[i];simp only[af.pO,SB.er,List.map_set,SC.er,List.length_cons]
     ·cases h
   ·rename_i hs hz;injection h with h;subst h;cases hj:cs[j]? with
    |none=>rfl
    |some y=>cases y<;>first|rfl|(exfalso;exact hs _ _ _ _ hj)|(exfalso;exact hz _ hj)
  ·rename_i hb;injection h with h;subst h;cases hn:σ.h n with
   |none=>rfl
   |some b=>cases b with
    |box cs=>exact absurd hn (hb cs)
    |row gr m ts xs=>rfl
 |false=>
  simp only[zH] at h;simp only[St.canon];have hh:σ.er.env n=(σ.env n).er:=rfl;rw[hh];split at h
  ·rename_i a _ _ _ hn;simp only[hn,SV.er,SC.er];exact agd h
  ·rename_i ts hn;simp only[hn,SV.er,SC.er];split at h
   ·injection h with h;subst h;rfl
   ·rename_i t ts;split at h
    ·rename_i σ2 e;injection h with h;subst h;have i:=af.oO e;rw[show(SB.row true m (t::ts) []).er=aq.row true m (t::ts).length [] from rfl] at i
     simp only[List.length_cons,Nat.zero_lt_succ,if_true] at i⊢;rw[i];simp only[af.dY,SV.er,SC.er,List.length_cons]
    ·cases h
  ·rename_i hs hz;injection h with h;subst h;cases hn:σ.env n with
   |one y=>cases y<;>first|rfl|(exfalso;exact hs _ _ _ _ hn)|(exfalso;exact hz _ hn)
   |_=>rfl
def EX (σ:af):Cn->Option af
 |[]=>some σ
 |x::l=>match zH σ x with
  |some σ1=>EX σ1 l
  |none=>none
theorem afB:∀{cn:Cn} {σ σ1:af},EX σ cn=some σ1->σ.er.uH cn.er=some σ1.er
 |[],σ,σ1,h=>by simp only[EX] at h;injection h with h;subst h;rfl
 |x::l,σ,σ1,h=>by
  simp only[EX] at h;split at h
  ·rename_i σ2 e;have i:=as3 e;have j:=afB h;simp only[Cn.er] at j;simp only[Cn.er,List.map_cons,St.uH,i,j]
  ·cases h
section
variable {ρ:Type}
def zq (n:Nat) (k:Nat->Option ρ):List Nat->Option ρ
 |[]=>k n
 |c::l=>match Nat.beq n c with
  |true=>k c
  |false=>zq n k l
theorem ac0 (n:Nat) (k:Nat->Option ρ):∀l,zq n k l=k n
 |[]=>rfl
 |c::l=>by
  simp only[zq];split
  ·rename_i e;rw[Nat.eq_of_beq_eq_true e]
  ·exact ac0 n k l
def Q5 (kh:List Nat) (c:SC) (k:SC->Option ρ):Option ρ:=
 match c with
 |.v t x=>k (.v t x)
 |.nil ts=>k (.nil ts)
 |.ptr n kk sz off=>zq n (fun n=>k (.ptr n kk sz off)) kh
 |.dg ts x off=>k (.dg ts x off)
 |.sl n sz lo len=>zq n (fun n=>k (.sl n sz lo len)) kh
 |.bC n a b c d e=>zq n (fun n=>k (.bC n a b c d e)) kh
 |.db n a b c d e=>zq n (fun n=>k (.db n a b c d e)) kh
 |.cH ts x off j n sz len=>zq n (fun n=>k (.cH ts x off j n sz len)) kh
 |.fn f cP=>k (.fn f cP)
 |.bq=>k .bq
theorem Z0 (kh:List Nat) (c:SC) (k:SC->Option ρ):Q5 kh c k=k c:=by
 cases c<;>first|rfl|exact ac0 _ _ _
def GG (kh:List Nat):List SC->(List SC->Option ρ)->Option ρ
 |[],k=>k []
 |c::cs,k=>Q5 kh c fun c=>GG kh cs fun cs=>k (c::cs)
theorem Q6 (kh:List Nat):∀(cs:List SC) (k:List SC->Option ρ),GG kh cs k=k cs
 |[],k=>rfl
 |c::cs,k=>by simp only[GG,Z0,Q6 kh cs]
def wF (kh:List Nat) (env:Nat->SV):List Nat->(List (Nat×SV)->Option ρ)->Option ρ
 |[],k=>k []
 |s::ss,k=>match env s with
  |.one .bq=>wF kh env ss k
  |.one c=>Q5 kh c fun c=>wF kh env ss fun l=>k ((s,.one c)::l)
  |.agg cs=>GG kh cs fun cs=>wF kh env ss fun l=>k ((s,.agg cs)::l)
  |.bK xs=>wF kh env ss fun l=>k ((s,.bK xs)::l)
def wG (kh:List Nat) (h:Nat->Option SB):List Nat->(List (Nat×Option SB)->Option ρ)->Option ρ
 |[],k=>k []
 |n::ns,k=>match h n with
  |none=>wG kh h ns k
  |some (.box cs)=>GG kh cs fun cs=>wG kh h ns fun l=>k ((n,some (.box cs))::l)
  |some (.row gr m ts xs)=>wG kh h ns fun l=>k ((n,some (.row gr m ts xs))::l)
def AH (u:Nat->Bool):List Nat->(List Nat->Option ρ)->Option ρ
 |[],k=>k []
 |n::ns,k=>match u n with
  |true=>AH u ns fun l=>k (n::l)
  |false=>AH u ns k
def xV:List Nat->Nat->Bool
 |[],n=>Nat.ble aH n
 |m::l,n=>match Nat.beq n m with
  |true=>true
  |false=>xV l n
def af.Dw (ke kh:List Nat) (σ:af) (k:af->Option ρ):Option ρ:=
 wF kh σ.env ke fun le=>wG kh σ.h kh fun lh=>AH σ.used kh fun lu=>k ⟨m9 le,lC lh,xV lu⟩
structure jw (ke kh:List Nat) (σ:af):Prop where
 e:∀s,s∉ke->σ.env s=.one .bq
 h:∀n,n∉kh->σ.h n=none
 u:∀n,n∉kh->σ.used n=Nat.ble aH n
 p:∀n,σ.used n=false->Nat.ble aH n=false
theorem Z1 (kh:List Nat) (env:Nat->SV):∀(ss:List Nat) (k:List (Nat×SV)->Option ρ),∃l:List (Nat×SV),wF kh env ss k=k l/\∀s,m9 l s=if s∈ss then env s else .one .bq
 |[],k=>⟨[],rfl,fun s=>by simp[m9]⟩
 |a::ss,k=>by
  have cW:∀v:SV,env a=v->(∀k':List (Nat×SV)->Option ρ,∃l,wF kh env ss k'=k' l/\∀s,m9 l s=if s∈ss then env s else .one .bq)->
    ∃l:List (Nat×SV),wF kh env ss (fun l=>k ((a,v)::l))=k l/\∀s,m9 l s=if s∈a::ss then env s else .one .bq:=by
   intro v hv ih;obtain⟨l,h1,h2⟩:=ih fun l=>k ((a,v)::l);refine⟨(a,v)::l,h1,fun s=>?_⟩;simp only[m9,kg];split
   ·rename_i e;subst e;rw[if_pos (by simp)];exact hv.symm
   ·rename_i aD;rw[h2 s];by_cases hs:s∈ss
    ·rw[if_pos hs,if_pos (by simp[hs])]
    ·rw[if_neg hs,if_neg (by simp[hs,aD])]
  have ih:=fun k':List (Nat×SV)->Option ρ=>Z1 kh env ss k';simp only[wF];split
  ·rename_i hv;obtain⟨l,h1,h2⟩:=ih k;refine⟨l,h1,fun s=>?_⟩;rw[h2 s];by_cases hs:s∈ss
   ·rw[if_pos hs,if_pos (by simp[hs])]
   ·rw[if_neg hs];by_cases yY:s=a
    ·subst yY;rw[if_pos (by simp),hv]
    ·rw[if_neg (by simp[hs,yY])]
  ·rename_i c hc hv;rw[Z0];exact cW _ hv ih
  ·rename_i cs hv;rw[Q6];exact cW _ hv ih
  ·rename_i xs hv;exact cW _ hv ih
theorem Z2 (kh:List Nat) (h:Nat->Option SB):∀(ns:List Nat) (k:List (Nat×Option SB)->Option ρ),∃l:List (Nat×Option SB),wG kh h ns k=k l/\∀n,lC l n=if n∈ns then h n else none
 |[],k=>⟨[],rfl,fun s=>by simp[lC]⟩
 |a::ns,k=>by
  have cW:∀v:Option SB,h a=v->(∀k':List (Nat×Option SB)->Option ρ,∃l,wG kh h ns k'=k' l/\∀s,lC l s=if s∈ns then h s else none)->
    ∃l:List (Nat×Option SB),wG kh h ns (fun l=>k ((a,v)::l))=k l/\∀s,lC l s=if s∈a::ns then h s else none:=by
   intro v hv ih;obtain⟨l,h1,h2⟩:=ih fun l=>k ((a,v)::l);refine⟨(a,v)::l,h1,fun s=>?_⟩;simp only[lC,kg];split
   ·rename_i e;subst e;rw[if_pos (by simp)];exact hv.symm
   ·rename_i aD;rw[h2 s];by_cases hs:s∈ns
    ·rw[if_pos hs,if_pos (by simp[hs])]
    ·rw[if_neg hs,if_neg (by simp[hs,aD])]
  have ih:=fun k':List (Nat×Option SB)->Option ρ=>Z2 kh h ns k';simp only[wG];split
  ·rename_i hv;obtain⟨l,h1,h2⟩:=ih k;refine⟨l,h1,fun s=>?_⟩;rw[h2 s];by_cases hs:s∈ns
   ·rw[if_pos hs,if_pos (by simp[hs])]
   ·rw[if_neg hs];by_cases yY:s=a
    ·subst yY;rw[if_pos (by simp),hv]
    ·rw[if_neg (by simp[hs,yY])]
  ·rename_i cs hv;rw[Q6];exact cW _ hv ih
  ·rename_i gr m ts xs hv;exact cW _ hv ih
theorem Q7 (u:Nat->Bool) (hp:∀n,u n=false->Nat.ble aH n=false):∀(ns:List Nat) (k:List Nat->Option ρ),∃l:List Nat,AH u ns k=k l/\∀n,xV l n=if n∈ns then u n else Nat.ble aH n
 |[],k=>⟨[],rfl,fun s=>by simp[xV]⟩
 |a::ns,k=>by
  simp only[AH];split
  ·rename_i hv;obtain⟨l,h1,h2⟩:=Q7 u hp ns fun l=>k (a::l);refine⟨a::l,h1,fun s=>?_⟩;simp only[xV];split
   ·rename_i e;have:=Nat.eq_of_beq_eq_true e;subst this;rw[if_pos (by simp)];exact hv.symm
   ·rename_i e;have aD:=zt e;rw[h2 s];by_cases hs:s∈ns
    ·rw[if_pos hs,if_pos (by simp[hs])]
    ·rw[if_neg hs,if_neg (by simp[hs,aD])]
  ·rename_i hv;obtain⟨l,h1,h2⟩:=Q7 u hp ns k;refine⟨l,h1,fun s=>?_⟩;rw[h2 s];by_cases hs:s∈ns
   ·rw[if_pos hs,if_pos (by simp[hs])]
   ·rw[if_neg hs];by_cases yY:s=a
    ·subst yY;rw[if_pos (by simp),hv,hp _ hv]
    ·rw[if_neg (by simp[hs,yY])]
theorem Lb {ke kh:List Nat} {σ:af} (W:jw ke kh σ) (k:af->Option ρ):σ.Dw ke kh k=k σ:=by
 unfold af.Dw;obtain⟨le,e1,e2⟩:=Z1 kh σ.env ke fun le=>wG kh σ.h kh fun lh=>AH σ.used kh fun lu=>k ⟨m9 le,lC lh,xV lu⟩;rw[e1];obtain⟨lh,h1,h2⟩:=Z2 kh σ.h kh fun lh=>AH σ.used kh fun lu=>k ⟨m9 le,lC lh,xV lu⟩;rw[h1];obtain⟨lu,u1,u2⟩:=Q7 σ.used W.p kh fun lu=>k ⟨m9 le,lC lh,xV lu⟩;rw[u1];have a1:m9 le=σ.env:=by
  funext s;rw[e2 s];split
  ·rfl
  ·rename_i hs;exact(W.e s hs).symm
 have a2:lC lh=σ.h:=by
  funext s;rw[h2 s];split
  ·rfl
  ·rename_i hs;exact(W.h s hs).symm
 have a3:xV lu=σ.used:=by
  funext s;rw[u2 s];split
  ·rfl
  ·rename_i hs;exact(W.u s hs).symm
 rw[a1,a2,a3]
theorem jw.ju (ke kh:List Nat) (σ:af):jw ke kh (σ.ju ke kh):=
 ⟨fun s hs=>VT _ _ _ s hs,fun n hn=>VU _ _ _ n hn,fun n hn=>by show(Nat.ble aH n||uf _ _ n)=_;rw[VV _ _ n hn,Bool.or_false],
  fun n hn=>by have bu:(Nat.ble aH n||uf _ _ n)=false:=hn;simp only[Bool.or_eq_false_iff] at bu;exact bu.1⟩
theorem jw.bw {ke kh:List Nat} {σ σ1:af} {a c:Nat} (W:jw ke kh σ) (hc:c∈kh) (h:σ.bw a c=some σ1):jw ke kh σ1:=by
 unfold af.bw at h;split at h
 ·injection h with h;subst h;exact W
 ·split at h
  ·injection h with h;subst h;exact W
  ·rename_i nt;split at h
   ·cases h
   ·rename_i LD;injection h with h;subst h;refine⟨fun s hs=>?_,fun n hn=>?_,fun n hn=>?_,fun n hn=>?_⟩
    ·show(σ.env s).bw a c=_;rw[W.e s hs];rfl
    ·simp only
     split
     ·rename_i e;exact absurd (by rw[Nat.eq_of_beq_eq_true e];exact hc) hn
     ·split
      ·rfl
      ·rw[W.h n hn];rfl
    ·simp only
     split
     ·rename_i e;exact absurd (by rw[Nat.eq_of_beq_eq_true e];exact hc) hn
     ·split
      ·rename_i e;rw[Nat.eq_of_beq_eq_true e,nt]
      ·exact W.u n hn
    ·simp only at hn;split at hn
     ·rename_i e;rw[Nat.eq_of_beq_eq_true e];exact W.p c LD
     ·split at hn
      ·rename_i e;rw[Nat.eq_of_beq_eq_true e,nt]
      ·exact W.p n hn
theorem jw.ins {ke kh:List Nat} {σ σ1:af} {c:Nat} {b:SB} (W:jw ke kh σ) (hc:c∈kh) (h:σ.ins c b=some σ1):jw ke kh σ1:=by
 unfold af.ins at h;split at h
 ·cases h
 ·rename_i LD;injection h with h;subst h;refine⟨W.e,fun n hn=>?_,fun n hn=>?_,fun n hn=>?_⟩
  ·show az σ.h c _ n=_;rw[cN _ _ _ _ (fun e=>hn (by rw[e];exact hc))];exact W.h n hn
  ·show az σ.used c _ n=_;rw[cN _ _ _ _ (fun e=>hn (by rw[e];exact hc))];exact W.u n hn
  ·have bu:az σ.used c true n=false:=hn;by_cases e:n=c
   ·subst e;rw[bR] at bu;cases bu
   ·rw[cN _ _ _ _ e] at bu;exact W.p n bu
theorem jw.lr {ke kh:List Nat} {σ:af} (W:jw ke kh σ) (c:Nat) (m:Mode):jw ke kh (σ.lr c m):=by
 cases m with
 |live=>exact W
 |aN=>exact W
 |aJ=>
  simp only[af.lr];split
  ·rename_i gr ts xs hn;exact⟨W.e,fun n hk=>by
    show az σ.h c _ n=none;have tM:n≠c:=fun e=>by subst e;rw[W.h n hk] at hn;cases hn
    rw[cN _ _ _ _ tM];exact W.h n hk,W.u,W.p⟩
  ·exact W
theorem jw.H8 {ke kh:List Nat} {σ σ1:af} {a c:Nat} {m:Mode} (W:jw ke kh σ) (hc:c∈kh) (h:(σ.bw a c).map (fun σ1=>σ1.lr c m)=some σ1):jw ke kh σ1:=by
 rw[Option.map_eq_some_iff] at h;obtain⟨σ2,e,rfl⟩:=h;exact(W.bw hc e).lr c m
theorem jw.canon {ke kh:List Nat} {σ σ1:af} {x:Bool×Nat×Nat×Nat×Mode×List Ty} (W:jw ke kh σ) (hc:x.2.2.2.1∈kh) (h:zH σ x=some σ1):jw ke kh σ1:=by
 obtain⟨b,n,j,c,m,us⟩:=x;simp only at hc;have h9:some σ=some σ1->jw ke kh σ1:=fun h=>by injection h with h;subst h;exact W
 cases b with
 |true=>
  simp only[zH] at h;split at h
  ·rename_i cs hn;split at h
   ·exact W.H8 hc h
   ·split at h
    ·exact h9 h
    ·split at h
     ·rename_i σ2 e;injection h with h;subst h;have W2:=W.ins hc e;have RT:n∈kh:=by
       rcases Decidable.em (n∈kh) with h|h
       ·exact h
       ·rw[W.h n h] at hn;cases hn
      exact⟨W2.e,fun q hq=>by show az σ2.h n _ q=_;rw[cN _ _ _ _ (fun e=>hq (by rw[e];exact RT))];exact W2.h q hq,W2.u,W2.p⟩
     ·cases h
   ·exact h9 h
  ·exact h9 h
 |false=>
  simp only[zH] at h;split at h
  ·exact W.H8 hc h
  ·rename_i ts hn;split at h
   ·exact h9 h
   ·split at h
    ·rename_i σ2 e;injection h with h;subst h;have W2:=W.ins hc e;have RT:n∈ke:=by
      rcases Decidable.em (n∈ke) with h|h
      ·exact h
      ·rw[W.e n h] at hn;cases hn
     exact⟨fun q hq=>by show az σ2.env n _ q=_;rw[cN _ _ _ _ (fun e=>hq (by rw[e];exact RT))];exact W2.e q hq,W2.h,W2.u,W2.p⟩
    ·cases h
  ·exact h9 h
def Nh (ke kh:List Nat):Cn->af->(af->Option ρ)->Option ρ
 |[],σ,k=>k σ
 |x::l,σ,k=>match zH σ x with
  |some σ1=>match List.elem x.2.2.2.1 kh with
   |true=>σ1.Dw ke kh fun σ2=>Nh ke kh l σ2 k
   |false=>none
  |none=>none
theorem afA {ke kh:List Nat}:∀{cn:Cn} {σ:af} {k:af->Option ρ} {r:ρ},jw ke kh σ->Nh ke kh cn σ k=some r->∃σ1,EX σ cn=some σ1/\k σ1=some r
 |[],σ,k,r,W,h=>⟨σ,rfl,h⟩
 |x::l,σ,k,r,W,h=>by
  simp only[Nh] at h;split at h
  ·rename_i σ1 e;split at h
   ·rename_i hm;have W1:=W.canon (by simpa using hm) e;rw[Lb W1] at h;obtain⟨σ2,h1,h2⟩:=afA W1 h;exact⟨σ2,by simp only[EX,e,h1],h2⟩
   ·cases h
  ·cases h
def EZ (sh:kI) (kh:List Nat) (cn:Cn) (σ:af) (k:sh.L.D->Option ρ):Option ρ:=
 (σ.ju sh.ke kh).Dw sh.ke kh fun σ1=>(σ1.ju sh.ke kh).Dw sh.ke kh fun σ2=>Nh sh.ke kh cn σ2 fun gN=>(gN.ju sh.ke kh).Dw sh.ke kh fun σ4=>sh.flat kh σ4 k
theorem Nn {sh:kI} {kh:List Nat} {cn:Cn} {σ:af} {k:sh.L.D->Option ρ} {r:ρ} (h:EZ sh kh cn σ k=some r):
  ∃x,σ.er.head sh.ke kh cn.er=some (sh.un x).er/\k x=some r:=by
 unfold EZ at h;rw[Lb (jw.ju _ _ _),Lb (jw.ju _ _ _)] at h;obtain⟨σ1,e,h⟩:=afA (jw.ju _ _ _) h;rw[Lb (jw.ju _ _ _)] at h;obtain⟨x,h1,h2⟩:=kI.qG h (fun s hs=>VT _ _ _ s hs) (fun n hn=>⟨VU _ _ _ n hn,by show(Nat.ble aH n||uf _ _ n)=_;rw[VV _ _ n hn,Bool.or_false]⟩);have i:=afB e;rw[af.T4,af.T4] at i;exact⟨x,by simp only[St.head,i,<-h1,af.T4],h2⟩
end
inductive bx where
 |skip
 |gT (lV:Bool) (ops:List dE)
 |ub (ps:List (Nat×Nat)) (ops:List dE)
 |vM (its:List wh)
 |sS (lV:Bool) (ps:List (Nat×Nat)) (ops:List dE) (sp:FU)
 |seq (a b:bx)
 |cond (c:cQ) (a b:bx)
 |block (id:Nat) (c:bx)
 |join (sh:kI) (kh:List Nat) (cn:Cn) (c:bx)
 |loop (id:Nat) (sh:kI) (kh:List Nat) (cn:Cn) (c:bx)
 |exit (id:Nat)
 |ret
def bx.er:bx->jS
 |.skip=>.skip
 |.gT d ops=>.gT d (ops.map dE.er)
 |.ub ps ops=>.ub ps (ops.map dE.er)
 |.vM its=>.vM (its.map wh.er)
 |.sS dr ps ops sp=>.sS dr ps (ops.map dE.er) sp.er
 |.seq a b=>.seq a.er b.er
 |.cond c a b=>.cond c.er a.er b.er
 |.block id c=>.block id c.er
 |.join sh kh cn c=>.join sh.ke kh cn.er c.er
 |.loop id sh kh cn c=>.loop id sh.ke kh cn.er c.er
 |.exit id=>.exit id
 |.ret=>.ret
def af.S8 (σ:af) (c:cQ) (b:Bool):af:=
 match c with
 |.t n=>σ.lit n b
 |.k _=>σ
def za {X ρ:Type} (o:Option ρ):Option (X⊕ρ):=o.ae fun r=>some (.inr r)
theorem Ec {X ρ:Type} {o:Option ρ} {s:X⊕ρ} (h:za o=some s):∃r,o=some r/\s=.inr r:=by
 unfold za at h;rw[ed] at h;obtain⟨r,h1,h2⟩:=h;injection h2 with h2;exact⟨r,h1,h2.symm⟩
def lN (N:Nat) (T:List au):bx->{ρ:Type}->af->(af->Option ρ)->(Nat->af->Option ρ)->(af->Option ρ)->Option ρ
 |.skip,_,σ,k,_,_=>k σ
 |.gT _ ops,_,σ,k,_,_=>pt T ops σ k
 |.ub ps ops,_,σ,k,_,_=>qq T ps ops [] σ k
 |.vM its,_,σ,k,_,_=>Ik T its σ k
 |.sS false _ ops sp,_,σ,k,_,_=>pt T ops σ fun σ1=>E8 sp σ1 k
 |.sS true ps ops sp,_,σ,k,_,_=>qq T ps ops [] σ fun σ1=>E8 sp σ1 k
 |.seq a b,_,σ,k,ex,kr=>lN N T a σ (fun σ1=>lN N T b σ1 k ex kr) ex kr
 |.cond c a b,_,σ,k,ex,kr=>match σ.ev c with
  |.one (.v .bool t)=>aw t (lN N T a (σ.S8 c true) k ex kr) (lN N T b (σ.S8 c false) k ex kr)
  |_=>none
 |.block id c,_,σ,k,ex,kr=>lN N T c σ k (fun i σ1=>match Nat.beq i id with|true=>k σ1|false=>ex i σ1) kr
 |.join sh kh cn c,ρ,σ,k,ex,kr=>
  bT (lN N T c (ρ:=sh.L.D⊕ρ) σ (fun σ1=>EZ sh kh cn σ1 fun x=>some (.inl x)) (fun i σ1=>za (ex i σ1)) (fun σ1=>za (kr σ1))) fun x=>k (sh.un x)
 |.loop id sh kh cn c,ρ,σ,k,ex,kr=>
  EZ sh kh cn σ fun x0=>cq N (fun x=>lN N T c (ρ:=sh.L.D⊕ρ) (sh.un x) (fun σ1=>EZ sh kh cn σ1 fun x'=>some (.inl x')) (fun i σ1=>za (ex i σ1)) (fun σ1=>za (kr σ1))) x0
 |.exit id,_,σ,_,ex,_=>ex id σ
 |.ret,_,σ,_,_,kr=>kr σ
def WZ {ρ:Type} (k:af->Option ρ) (ex:Nat->af->Option ρ) (kr:af->Option ρ) (r:ρ):tj->Prop
 |.fq τ=>∃fh:af,τ=fh.er/\k fh=some r
 |.ext i τ=>∃fh:af,τ=fh.er/\ex i fh=some r
 |.ret τ=>∃fh:af,τ=fh.er/\kr fh=some r
theorem abh {σ:af} {c:cQ} {b:Bool} (h:σ.ev c=.one (.v .bool b)):(σ.S8 c b).er=σ.er:=by
 cases c with
 |t n=>exact af.Gv h
 |k v=>rfl
theorem rE {T:List au}:∀(m:bx) {ρ:Type} {σ:af} {k:af->Option ρ} {ex:Nat->af->Option ρ} {kr:af->Option ρ} {r:ρ},lN aP T m σ k ex kr=some r->
    ∃o:tj,dS (cM T) m.er σ.er=some o/\WZ k ex kr r o
  |.skip,ρ,σ,k,ex,kr,r,h=>⟨.fq σ.er,rfl,σ,rfl,h⟩
  |.gT d ops,ρ,σ,k,ex,kr,r,h=>by
   obtain⟨σ1,h1,h2⟩:=Io (h:pt T ops σ k=some r);exact⟨.fq σ1.er,by simp only[bx.er,dS,h1],σ1,rfl,h2⟩
  |.ub ps ops,ρ,σ,k,ex,kr,r,h=>by
   obtain⟨σ1,fs,h1,h2,h3⟩:=Nk (h:qq T ps ops [] σ k=some r);exact⟨.fq σ1.er,by simp only[bx.er,dS,h1,h2,cond_true],σ1,rfl,h3⟩
  |.vM its,ρ,σ,k,ex,kr,r,h=>by
   obtain⟨σ1,h1,h2⟩:=Vu (h:Ik T its σ k=some r);exact⟨.fq σ1.er,by simp only[bx.er,dS,h1],σ1,rfl,h2⟩
  |.sS false ps ops sp,ρ,σ,k,ex,kr,r,h=>by
   obtain⟨σ1,h1,h2⟩:=Io (h:pt T ops σ (fun σ1=>E8 sp σ1 k)=some r);obtain⟨σ2,h3,h4⟩:=afX h2;exact⟨.fq σ2.er,by simp only[bx.er,dS,h1,h3],σ2,rfl,h4⟩
  |.sS true ps ops sp,ρ,σ,k,ex,kr,r,h=>by
   obtain⟨σ1,fs,h1,hp,h2⟩:=Nk (h:qq T ps ops [] σ (fun σ1=>E8 sp σ1 k)=some r);obtain⟨σ2,h3,h4⟩:=afX h2;exact⟨.fq σ2.er,by simp only[bx.er,dS,h1,h3,hp,cond_true],σ2,rfl,h4⟩
  |.seq a b,ρ,σ,k,ex,kr,r,h=>by
   obtain⟨o,h1,h2⟩:=rE a (h:lN aP T a σ (fun σ1=>lN aP T b σ1 k ex kr) ex kr=some r);cases o with
   |fq τ=>
    obtain⟨fh,rfl,h2⟩:=h2;obtain⟨o2,h3,h4⟩:=rE b h2;exact⟨o2,by simp only[bx.er,dS,h1,h3],h4⟩
   |ext i τ=>exact⟨.ext i τ,by simp only[bx.er,dS,h1],h2⟩
   |ret τ=>exact⟨.ret τ,by simp only[bx.er,dS,h1],h2⟩
  |.cond c a b,ρ,σ,k,ex,kr,r,h=>by
   simp only[lN] at h;split at h
   · rename_i t hc;have dt:σ.er.ev c.er=.one (.c (.bool t)):=by rw[af.dT,hc];rfl
     cases ht:(t:Bool) with
     |true=>
      rw[ht] at h;simp only[Ql] at h;obtain⟨o,h1,h2⟩:=rE a h;rw[abh (by rw[hc,ht])] at h1;exact⟨o,by simp only[bx.er,dS,dt,ht,if_true,h1],h2⟩
     |false=>
      rw[ht] at h;simp only[KC] at h;obtain⟨o,h1,h2⟩:=rE b h;rw[abh (by rw[hc,ht])] at h1;exact⟨o,by simp only[bx.er,dS,dt,ht,Bool.false_eq_true,if_false,h1],h2⟩
   · cases h
  |.block id c,ρ,σ,k,ex,kr,r,h=>by
   obtain⟨o,h1,h2⟩:=rE c (h:lN aP T c σ k (fun i σ1=>match Nat.beq i id with|true=>k σ1|false=>ex i σ1) kr=some r)
   cases o with
   |fq τ=>exact⟨.fq τ,by simp only[bx.er,dS,h1],h2⟩
   |ret τ=>exact⟨.ret τ,by simp only[bx.er,dS,h1],h2⟩
   |ext i τ=>
    obtain⟨fh,rfl,h2⟩:=h2;simp only at h2;split at h2
    · rename_i e;exact⟨.fq fh.er,by simp only[bx.er,dS,h1,if_pos (Nat.eq_of_beq_eq_true e)],fh,rfl,h2⟩
    · rename_i e;exact⟨.ext i fh.er,by simp only[bx.er,dS,h1,if_neg (zt e)],fh,rfl,h2⟩
  |.join sh kh cn c,ρ,σ,k,ex,kr,r,h=>by
   simp only[lN,bT,Option.bind_eq_some_iff] at h;obtain⟨s,hs,h⟩:=h;obtain⟨o,h1,h2⟩:=rE c hs;cases o with
   |fq τ=>
    obtain⟨fh,rfl,h2⟩:=h2;obtain⟨x,h3,h4⟩:=Nn h2;injection h4 with h4;subst h4;exact⟨.fq (sh.un x).er,by simp only[bx.er,dS,h1,h3],sh.un x,rfl,h⟩
   |ext i τ=>
    obtain⟨fh,rfl,h2⟩:=h2;obtain⟨y,h3,rfl⟩:=Ec h2;injection h with h;subst h;exact⟨.ext i fh.er,by simp only[bx.er,dS,h1],fh,rfl,h3⟩
   |ret τ=>
    obtain⟨fh,rfl,h2⟩:=h2;obtain⟨y,h3,rfl⟩:=Ec h2;injection h with h;subst h;exact⟨.ret fh.er,by simp only[bx.er,dS,h1],fh,rfl,h3⟩
  |.loop id sh kh cn c,ρ,σ,k,ex,kr,r,h=>by
   simp only[lN] at h;obtain⟨x0,h0,h⟩:=Nn h;simp only[bx.er,dS];have cW:∀(n:Nat) (x0:sh.L.D) (Oj:St),Oj.head sh.ke kh cn.er=some (sh.un x0).er->
       cq n (fun x=>lN aP T c (ρ:=sh.L.D⊕ρ) (sh.un x) (fun σ1=>EZ sh kh cn σ1 fun x'=>some (.inl x')) (fun i σ1=>za (ex i σ1)) (fun σ1=>za (kr σ1))) x0=some r->
       ∃o:tj,Eo n (fun σ=>match σ.head sh.ke kh cn.er with|some σ1=>dS (cM T) c.er σ1|none=>none) Oj=some o/\WZ k ex kr r o:=by
    intro n;induction n with
    |zero=>intro x0 Oj h0 h;simp[cq] at h
    |succ n ih=>
     intro x0 Oj h0 h;simp only[cq] at h;simp only[Eo,h0];split at h
     · rename_i x' hb;obtain⟨o,h1,h2⟩:=rE c hb;cases o with
       |fq τ=>
        obtain⟨fh,rfl,h2⟩:=h2;obtain⟨x2,h3,h4⟩:=Nn h2;injection h4 with h4;injection h4 with h4;subst h4;simp only[h1];exact ih x2 _ h3 h
       |ext i τ=>
        obtain⟨fh,rfl,h2⟩:=h2;obtain⟨y,_,e⟩:=Ec h2;cases e
       |ret τ=>
        obtain⟨fh,rfl,h2⟩:=h2;obtain⟨y,_,e⟩:=Ec h2;cases e
     · rename_i y hb;injection h with h;subst h;obtain⟨o,h1,h2⟩:=rE c hb;cases o with
       |fq τ=>
        obtain⟨fh,rfl,h2⟩:=h2;obtain⟨x2,h3,h4⟩:=Nn h2;injection h4 with h4;cases h4
       |ext i τ=>
        obtain⟨fh,rfl,h2⟩:=h2;obtain⟨y',h3,e⟩:=Ec h2;injection e with e;subst e;exact⟨.ext i fh.er,by simp only[h1],fh,rfl,h3⟩
       |ret τ=>
        obtain⟨fh,rfl,h2⟩:=h2;obtain⟨y',h3,e⟩:=Ec h2;injection e with e;subst e;exact⟨.ret fh.er,by simp only[h1],fh,rfl,h3⟩
     · cases h
   exact cW aP x0 σ.er h0 h
  |.exit id,ρ,σ,k,ex,kr,r,h=>⟨.ext id σ.er,rfl,σ,rfl,h⟩
  |.ret,ρ,σ,k,ex,kr,r,h=>⟨.ret σ.er,rfl,σ,rfl,h⟩
def rA:jS->Bool
 |.skip|.ret|.exit _=>true
 |.gT _ ops|.ub _ ops=>ops.all fun o=>Nat.ble o.op.fa 1
 |.seq a b=>rA a&&rA b
 |.cond _ a b=>rA a&&rA b
 |.block _ c=>rA c
 |_=>false
structure fH (σ σ':St):Prop where
 h:∀n,σ.used n=true->σ'.h n=σ.h n
 u:∀n,σ.used n=true->σ'.used n=true
theorem fH.refl (σ:St):fH σ σ:=⟨fun _ _=>rfl,fun _ h=>h⟩
theorem fH.trans {σ σ1 σ2:St} (a:fH σ σ1) (b:fH σ1 σ2):fH σ σ2:=⟨fun n hn=>(b.h n (a.u n hn)).trans (a.h n hn),fun n hn=>b.u n (a.u n hn)⟩
theorem fH.put (σ:St) (d:Option Nat) (v:aj):fH σ (σ.put d v):=by cases d<;>exact⟨fun _ _=>rfl,fun _ h=>h⟩
theorem fH.dF:∀{l:List (Nat×aq)} {σ σ':St},σ.dF l=some σ'->fH σ σ'
 |[],σ,σ',h=>by simp only[St.dF] at h;injection h with h;subst h;exact fH.refl _
 |(n,b)::l,σ,σ',h=>by
  simp only[St.dF] at h;split at h
  ·rename_i σ1 e;obtain⟨hu,rfl⟩:=kx e;refine fH.trans ⟨fun m hm=>?_,fun m hm=>?_⟩ (fH.dF h)
   ·show az σ.h n (some b) m=_;rw[cN _ _ _ _ (fun e=>by subst e;rw[hu] at hm;cases hm)]
   ·show az σ.used n true m=true;rw[kg];split
    ·rfl
    ·exact hm
  ·cases h
theorem fH.exec {T:aQ} {d:Option Nat} {op:aT} {σ σ':St} (hc:Nat.ble op.fa 1=true) (h:exec T d op σ=some σ'):fH σ σ':=by
 rw[qF T d op σ (Nat.le_of_ble_eq_true hc)] at h;cases hr:rd T d op σ.ev σ.h with
 |none=>rw[hr] at h;cases h
 |some x=>
  rw[hr] at h;simp only[Option.bind_some,gF] at h;rw[Option.map_eq_some_iff] at h;obtain⟨σ1,h1,rfl⟩:=h;exact(fH.dF h1).trans (fH.put _ _ _)
theorem fH.ef {T:aQ} {o:bQ} {σ σ':St} (hc:Nat.ble o.op.fa 1=true) (h:ef T o σ=some σ'):fH σ σ':=by
 unfold Am.ef at h;split at h
 ·exact fH.exec hc h
 ·split at h
  ·split at h
   ·exact fH.exec hc h
   ·injection h with h;subst h;exact fH.put _ _ _
  ·injection h with h;subst h;exact fH.put _ _ _
  ·cases h
theorem fH.fv {T:aQ}:∀{os:List bQ} {σ σ':St},os.all (fun o=>Nat.ble o.op.fa 1)=true->fv T os σ=some σ'->fH σ σ'
 |[],σ,σ',_,h=>by simp only[Am.fv] at h;injection h with h;subst h;exact fH.refl _
 |o::os,σ,σ',hc,h=>by
  simp only[List.all_cons,Bool.and_eq_true] at hc;simp only[Am.fv] at h;split at h
  ·rename_i σ1 e;exact(fH.ef hc.1 e).trans (fH.fv hc.2 h)
  ·cases h
theorem fH.lY {T:aQ}:∀{os:List bQ} {dP fs:List (Option FP)} {σ σ':St},os.all (fun o=>Nat.ble o.op.fa 1)=true->lY T os dP σ=some (fs,σ')->fH σ σ'
 |[],dP,fs,σ,σ',_,h=>by simp only[Am.lY] at h;injection h with h;injection h with _ h;subst h;exact fH.refl _
 |o::os,dP,fs,σ,σ',hc,h=>by
  simp only[List.all_cons,Bool.and_eq_true] at hc;simp only[Am.lY] at h;split at h
  ·rename_i σ1 e;exact(fH.ef hc.1 e).trans (fH.lY hc.2 h)
  ·cases h
def tj.st:tj->St
 |.fq σ=>σ
 |.ext _ σ=>σ
 |.ret σ=>σ
theorem BQ {T:aQ}:∀(mc:jS) {σ:St} {o:tj},rA mc=true->dS T mc σ=some o->fH σ o.st
 |.skip,σ,o,_,h=>by simp only[dS] at h;injection h with h;subst h;exact fH.refl _
 |.ret,σ,o,_,h=>by simp only[dS] at h;injection h with h;subst h;exact fH.refl _
 |.exit i,σ,o,_,h=>by simp only[dS] at h;injection h with h;subst h;exact fH.refl _
 |.gT d ops,σ,o,hc,h=>by
  simp only[dS] at h;split at h
  ·rename_i σ1 e;injection h with h;subst h;exact fH.fv hc e
  ·cases h
 |.ub ps ops,σ,o,hc,h=>by
  simp only[dS] at h;split at h
  ·rename_i fs σ1 e;cases hp:sO ps fs with
   |true=>rw[hp] at h;injection h with h;subst h;exact fH.lY hc e
   |false=>rw[hp] at h;cases h
  ·cases h
 |.seq a b,σ,o,hc,h=>by
  simp only[rA,Bool.and_eq_true] at hc;simp only[dS] at h;cases e:dS T a σ with
  |none=>rw[e] at h;cases h
  |some o1=>
   have h1:=BQ a hc.1 e;rw[e] at h;cases o1 with
   |fq σ1=>exact h1.trans (BQ b hc.2 h)
   |ext i σ1=>injection h with h;subst h;exact h1
   |ret σ1=>injection h with h;subst h;exact h1
 |.cond c a b,σ,o,hc,h=>by
  simp only[rA,Bool.and_eq_true] at hc;simp only[dS] at h;split at h
  ·split at h
   ·exact BQ a hc.1 h
   ·exact BQ b hc.2 h
  ·cases h
 |.block id c,σ,o,hc,h=>by
  simp only[rA] at hc;simp only[dS] at h;cases e:dS T c σ with
  |none=>rw[e] at h;cases h
  |some o1=>
   have h1:=BQ c hc e;rw[e] at h;cases o1 with
   |fq σ1=>injection h with h;subst h;exact h1
   |ret σ1=>injection h with h;subst h;exact h1
   |ext i σ1=>
    simp only at h;split at h<;>(injection h with h;subst h;exact h1)
 |.join ..,_,_,hc,_=>by simp[rA] at hc
 |.loop ..,_,_,hc,_=>by simp[rA] at hc
def St.ES (σ:St) (ms:List br):Option (Nat×Nat):=
 match σ.qp ms with
 |some [.one (.sl n sz lo len)]=>if n=aH then match σ.h aH with
  |some (.row _ _ rs (_::_))=>if sz=rs then some (lo,len) else none
  |_=>none
  else none
 |_=>none
def Nb (T:aQ) (mc:jS) (ax:List br) (sig:aK) (ds:List Dv):Option (Nat×Nat):=
 match eI sig (ds.map (·.2)) with
 |[_]=>match dS T mc (oZ sig ds) with
  |some (.fq σ)=>σ.ES ax
  |some (.ret σ)=>σ.ES ax
  |_=>none
 |_=>none
section
variable {B:Nat} {E:Ex} {w0 w w':World} {G G':Gh} {N:Nat} {h h':Nat->Option aq} {used:Nat->Bool}
variable {P:Program} {T:aQ} {a:Act} {σ σ':St} {Q:Exit->Act->World->Prop}
theorem al4 (sig:aK) (ds:List Dv):(oZ sig ds).h aH=((eI sig (ds.map (·.2)))[aH - aH]?).bind lM:=by
 have cW:∀n,aH<=n->(oZ sig ds).h n=((eI sig (ds.map (·.2)))[n - aH]?).bind lM:=fun n hn=>if_pos hn;exact cW aH (Nat.le_refl aH)
theorem al5 (sig:aK) (ds:List Dv):(oZ sig ds).used aH=true:=by
 have cW:∀n,aH<=n->(oZ sig ds).used n=true:=fun n hn=>Nat.ble_eq_true_of_le hn;exact cW aH (Nat.le_refl aH)
theorem aiM (x:Mode×PC):(uQ [x]).mT aH=some (ox x.2):=by
 have cW:∀n,aH<=n->n - aH=0->(uQ [x]).mT n=some (ox x.2):=fun n hn h0=>by
  show(if aH<=n then([x][n - aH]?).map _ else none)=_
  rw[if_pos hn,h0];rfl
 exact cW aH (Nat.le_refl aH) (Nat.sub_self aH)
theorem auf (hT:jT P T) (hm:P.follows .mixedOrders=true) {f:FuncId} {fn:Func} {c:Code} {mc:jS} {ms:List br} {sig:aK} {M:List Dv->Option (Nat×Nat)} (hf:P.funcs[f]? =some fn) (hb:fn.body=some c)
  (hc:iR P fn.ntmps c mc=true) (hr:mF P fn.results.toList ms=true) (LA:rA mc=true) (hM:∀ds lo len,M ds=some (lo,len)->ds.length<=fn.ntmps/\Nb T mc ms sig ds=some (lo,len)):CU P f sig M:=by
 intro ds lo len jl w vals pas ha;obtain⟨hN,bE⟩:=hM ds lo len jl;refine calls_of_wp hf hb ?_;have r0:=R.LY (N:=fn.ntmps) ha hN;have f8:∀p∈pas,∀pc∈p.ps,Good w pc:=by
  intro p hp pc bi;obtain⟨i,hi,rfl⟩:=List.getElem_of_mem hp;have hd:ds[i]? =some (ds[i]'(by rw[<-ha.l2];exact hi)):=List.getElem?_eq_getElem _;have hv:vals[i]? =some (vals[i]'(by rw[ha.l1,<-ha.l2];exact hi)):=List.getElem?_eq_getElem _;exact(ha.at_ i _ _ _ hd hv (List.getElem?_eq_getElem hi)).2.1 pc bi
 have hg:∀x∈eI sig (pas.map (·.ps)),Good w x.2:=by
  intro x hx;obtain⟨l,hl,n8⟩:=KZ hx;obtain⟨p,hp,rfl⟩:=List.mem_map.1 hl;exact f8 p hp _ n8
 have Rt:ds.map (·.2)=(pas.map (·.ps)).map fun l=>l.map PC.er:=by
  apply List.ext_getElem?;intro i;simp only[List.getElem?_map];cases hd:ds[i]? with
  |none=>
   have:ds.length<=i:=List.getElem?_eq_none_iff.1 hd;rw[List.getElem?_eq_none (by rw[ha.l2];exact this)];rfl
  |some d=>
   have hi:=(List.getElem?_eq_some_iff.1 hd).1;have hv:vals[i]? =some (vals[i]'(by rw[ha.l1];exact hi)):=List.getElem?_eq_getElem _;have hp:pas[i]? =some (pas[i]'(by rw[ha.l2];exact hi)):=List.getElem?_eq_getElem _;have:=(ha.at_ i d _ _ hd hv hp).1;rw[hp];simp only[Option.map_some];rw[this]
 have G0:(oZ sig ds).h aH=((eI sig (ds.map (·.2)))[aH - aH]?).bind lM:=al4 sig ds;have hpu:(oZ sig ds).used aH=true:=al5 sig ds;unfold Nb at bE;rw[Rt,Gy] at bE G0;generalize kv:eI sig (pas.map (·.ps))=fl at bE r0 hg G0;have fb:=ha.ok;rw[kv] at fb;split at bE
 case h_2=>cases bE
 rename_i y hy;obtain⟨x,rfl⟩:∃x,fl=[x]:=by
  match fl,hy with
  |[x],_=>exact⟨x,rfl⟩
 obtain⟨m,pc⟩:=x;obtain⟨sz,PI,cap,px,Yk,eS,mK,sj⟩:=(fb (m,pc) (by simp)).eK;dsimp only at Yk sj;subst Yk;have DP:(oZ sig ds).h aH=some (.row false m sz (px.map fun e=>e.map PC.er)):=by
  rw[G0,Nat.sub_self];simp[lM,PC.dV]
 have gF:∀{σ:St} {a:Act} {w':World} {G:Gh},σ.h aH=(oZ sig ds).h aH->σ.ES ms=some (lo,len)->R w.heap.size (uQ [(m,.list sz PI cap px)]) w fn.ntmps σ a w' G->a.defers=[]/\∃v,(results fn a.tmps).run P w'=.ok v w'/\
   ∃(m':Mode) (aF ko:Nat) (a':Option Addr) (xs:List (List PC)) (v':Value),[(m,PC.list sz PI cap px)]=[(m',.list aF a' ko xs)]/\(Ending.returned v)=.returned v'/\xs≠[]/\
   (∃(b o:Nat) (a2:Option Addr),a'=some (ad b o)/\v'=.slice a2 len (ko - lo)/\lo+len<=ko/\((lo<ko\/lo=0)->a2=some (ad b (o+lo*aF))))/\
   Fr w.heap.size (AD [(m',.list aF a' ko xs)]) w w'/\∃q:PC,q.er=(PC.list aF a' ko xs).er/\th w' m' (.list aF a' ko xs) q:=by
  intro σ a w' G jn hx r;rw[DP] at jn;unfold St.ES at hx;split at hx
  ·rename_i n szq sJ qd e1;split at hx
   ·rename_i hn;subst hn;rw[jn] at hx;split at hx
    ·rename_i gr m0 rG e0 es0 eH;split at hx
     case isFalse=>cases hx
     rename_i alL;injection hx with hx;injection hx with j0 eJ;subst j0 eJ;injection eH with eH;injection eH with _ _ oV fw;have aD:px≠[]:=by rintro rfl;cases fw
     have fO:=hg (m,.list sz PI cap px) (by simp);rcases fO.cases with h0|⟨_,io,b,o,rfl⟩
     ·exact absurd h0 aD
     have e2:vK σ 0 ([(m,PC.list sz (some (ad b o)) cap px)].map fun x=>(x.1,x.2.er))=some [.list sz (px.map fun e=>e.map PC.er)]:=by
      simp only[List.map_cons,List.map_nil,vK,BJ,PC.dV,Nat.add_zero,jn];rw[if_pos ⟨trivial,trivial,trivial,sj,trivial⟩]
     obtain⟨us,u1,u2,_,u3⟩:=EW r hr e1;obtain⟨v,rfl⟩:∃v,us=[v]:=by
      match us,u2 with
      |[v],_=>exact⟨v,rfl⟩
     have hv:=(u3 0 _ v rfl rfl).fu (by simp);have gY:gE (G.g aH) szq sJ qd v:=hv.1 (by rw[jn];simp);have alK:szq=sz:=alL.trans oV.symm;have nt:=aiM (m,PC.list sz (some (ad b o)) cap px);obtain⟨p1,p2,p3,p4,p6,_⟩:=r.mT _ _ _ nt jn;rw[xz aD] at p1 p2 p3 p4;dsimp only at p1 p2 p3 p4;obtain⟨q,oq,k1,k2,k3,_⟩:=PK fb hg r e2 (i:=0) rfl;refine⟨r.defers,_,Ia fn a.tmps u1,m,sz,cap,some (ad b o),px,v,rfl,rfl,aD,?_,⟨r.fr.os,r.fr.tape,r.fr.output,r.fr.size,r.fr.block,r.fr.jO⟩,q,?_,k3⟩
     ·rcases gY with⟨h0,_⟩|⟨_,a2,h1,h2,h3⟩
      ·rw[p1] at h0;cases h0
      ·rw[p2,p3,p4] at*
       subst alK;exact⟨b,o,a2,rfl,h1,h2,h3⟩
     ·rw[k2];simp only[List.getElem?_cons_zero,Option.some.injEq] at k1;rw[<-k1,PC.dV]
    ·cases hx
   ·cases hx
  ·cases hx
 split at bE
 ·rename_i σ e;have jn:=(BQ mc LA e).h aH hpu;exact kL hT hm mc hc e r0 fun a w' G r=>gF jn bE r
 ·rename_i σ e;have jn:=(BQ mc LA e).h aH hpu;exact kL hT hm mc hc e r0 fun a w' G r=>gF jn bE r
 ·cases bE
end
section
variable {B:Nat} {E:Ex} {w0 w w':World} {G G':Gh} {N:Nat} {h h':Nat->Option aq} {used:Nat->Bool}
variable {P:Program} {T:aQ} {a:Act} {σ σ':St} {Q:Exit->Act->World->Prop}
end
def Ih (k:K) (ts:List Ty) (x:Ty.DL ts):SV:=
 match k with
 |.one=>match Ty.cells ts x with
  |[c]=>.one c
  |_=>.one .bq
 |.agg=>.agg (Ty.cells ts x)
 |.ptr=>.one (.dg ts x 0)
theorem aej (k:K) (ts:List Ty) (x:Ty.DL ts):(Ih k ts x).er=Ae (k,Ty.aE ts x):=by
 cases k with
 |one=>
  match ts,x with
  |[],x=>rfl
  |[t],x=>rfl
  |t::u::[],x=>rfl
  |t::u::v::ts,x=>rfl
 |agg=>simp only[Ih,SV.er,Ae,Ty.kK]
 |ptr=>rfl
def Is:Nat->(as:ak)->aY as.aX->(Nat->SV)
 |_,[],_=>fun _=>.one .bq
 |k,[a],x=>az (fun _=>.one .bq) k (Ih a.1 a.2 x)
 |k,a::b::as,x=>az (Is (k+1) (b::as) x.2) k (Ih a.1 a.2 x.1)
theorem afN:∀(k:Nat) (as:ak) (x:aY as.aX),r7 (Is k as x)=vo k (dB as x)
 |k,[],x=>rfl
 |k,[a],x=>by
  have e:(Ih a.1 a.2 x).er=Ae (a.1,Ty.aE a.2 x):=aej a.1 a.2 x;simp only[Is,dB,vo,wD];rw[e];rfl
 |k,a::b::as,x=>by
  have ih:=afN (k+1) (b::as) x.2;simp only[Is,dB,wD,aej,ih];rw[vo]
def Nr (as:ak) (x:aY as.aX):af:={env:=Is 0 as x,h:=fun _=>none,used:=fun n=>Nat.ble aH n}
theorem afQ (as:ak) (x:aY as.aX):(Nr as x).er=Eb (dB as x):=by
 simp only[Nr,af.er,Eb,afN];rfl
section
variable {ρ:Type}
def vT (σ:af):List br->(List SV->Option ρ)->Option ρ
 |[],k=>k []
 |.tmp t::ms,k=>vT σ ms fun vs=>k (σ.env t::vs)
 |.cell t sz ag::ms,k=>match σ.env t with
  |.one p=>Iv σ.h p sz fun cs=>vT σ ms fun vs=>k (Cc ag cs::vs)
  |_=>none
theorem B5 {σ:af}:∀{ms:List br} {k:List SV->Option ρ} {r:ρ},vT σ ms k=some r->∃vs,σ.er.qp ms=some (vs.map SV.er)/\k vs=some r
 |[],k,r,h=>⟨[],rfl,h⟩
 |.tmp t::ms,k,r,h=>by
  simp only[vT] at h;obtain⟨vs,h1,h2⟩:=B5 h;exact⟨_,by simp only[St.qp,h1];rfl,h2⟩
 |.cell t sz ag::ms,k,r,h=>by
  simp only[vT] at h;split at h
  ·rename_i p hp;obtain⟨cs,h1,h2⟩:=VH h;obtain⟨vs,h3,h4⟩:=B5 h2;have bB:σ.er.env t=.one p.er:=by show(σ.env t).er=_;rw[hp];rfl
   have iU:loadAt σ.er.h p.er sz=some (cs.map SC.er):=h1;exact⟨_,by simp only[St.qp,bB,iU,h3,List.map_cons,Fo],h4⟩
  ·cases h
def VW (h:Nat->Option SB) (c:SC) (k:(t:Ty)->t.D->List Nat->Option ρ):Option ρ:=
 match c with
 |.v t x=>eM t.fk (k t x [])
 |.nil ts=>match ts with
  |[]=>none
  |t::us=>k (.list (t::us)) ([]:List (Ty.DL (t::us))) []
 |.sl n sz lo len=>match h n with
  |some (.row true m ts xs)=>cv ts.length sz (eM m.own (cv lo 0 ((dN xs len).ae fun ys=>k (.list ts) ys [n])))
  |_=>none
 |_=>none
theorem atA {h:Nat->Option SB} {c:SC} {k:(t:Ty)->t.D->List Nat->Option ρ} {r:ρ} (hx:VW h c k=some r):
  ∃(t:Ty) (x:t.D) (ns:List Nat),jL (dd h) c.er=some (t.er x,ns)/\k t x ns=some r:=by
 unfold VW at hx;split at hx
 ·rename_i t x;have h1:=(bZ hx).1;replace hx:=(bZ hx).2;exact⟨t,x,[],by simp only[SC.er,jL,Ty.xN,h1,if_true],hx⟩
 ·split at hx
  ·cases hx
  ·rename_i t us;exact⟨.list (t::us),[],[],by simp[SC.er,jL,Ty.er],hx⟩
 ·rename_i n sz lo len;split at hx
  ·rename_i m ts xs hn;have bg:=(aO hx).1;replace hx:=(aO hx).2;subst bg;have hm:=(bZ hx).1;replace hx:=(bZ hx).2;have bg:=(aO hx).1;replace hx:=(aO hx).2;subst bg;rw[ed] at hx;obtain⟨ys,hw,hx⟩:=hx;obtain⟨w1,w2⟩:=Wn hw;refine⟨.list ts,ys,[n],?_,hx⟩;have bP:m≠ .aJ:=by rintro rfl;cases hm
   simp only[SC.er,jL,dd,hn,Option.map_some,SB.er,List.length_map,w1,w2,ne_eq,bP,not_false_eq_true,and_self,if_true,Ty.er]
  ·cases hx
 ·cases hx
def NJ (h:Nat->Option SB):List SC->(List TD->List Nat->Option ρ)->Option ρ
 |[],k=>k [] []
 |c::cs,k=>VW h c fun t x ns=>NJ h cs fun l lK=>k (⟨t,x⟩::l) (ns++lK)
theorem agj {h:Nat->Option SB}:∀{cs:List SC} {k:List TD->List Nat->Option ρ} {r:ρ},NJ h cs k=some r->
  ∃l ns,vO (dd h) (cs.map SC.er)=some (dk l,ns)/\k l ns=some r
 |[],k,r,hx=>⟨[],[],rfl,hx⟩
 |c::cs,k,r,hx=>by
  simp only[NJ] at hx;obtain⟨t,x,ns,h1,h2⟩:=atA hx;obtain⟨l,lK,h3,h4⟩:=agj h2;exact⟨⟨t,x⟩::l,ns++lK,by simp[vO,h1,h3,dk],h4⟩
def kOf:Bool->K
 |true=>.agg
 |false=>.one
def IC (h:Nat->Option SB):List SV->(List ci->List Nat->Option ρ)->Option ρ
 |[],k=>k [] []
 |v::vs,k=>match v.cells? with
  |some (ag,cs)=>NJ h cs fun l ns=>IC h vs fun ds lK=>k ((kOf ag,l)::ds) (ns++lK)
  |none=>none
theorem VX {h:Nat->Option SB}:∀{vs:List SV} {k:List ci->List Nat->Option ρ} {r:ρ},IC h vs k=some r->
  ∃ds ns,sV (dd h) (vs.map SV.er)=some (ds.map ci.er,ns)/\k ds ns=some r
 |[],k,r,hx=>⟨[],[],rfl,hx⟩
 |v::vs,k,r,hx=>by
  simp only[IC] at hx;split at hx
  ·rename_i ag cs hc;obtain⟨l,ns,h1,h2⟩:=agj hx;obtain⟨ds,lK,h3,h4⟩:=VX h2;refine⟨_,_,?_,h4⟩;simp only[List.map_cons,sV,SV.kK hc,h1,h3];cases ag<;>rfl
  ·cases hx
end
def HW:List Nat->Bool
 |[]=>true
 |n::l=> !(l.contains n)&&HW l
theorem Tq:∀{l:List Nat},HW l=true->l.Nodup
 |[],_=>List.nodup_nil
 |n::l,h=>by
  simp only[HW,Bool.and_eq_true,Bool.not_eq_true'] at h;rw[List.nodup_cons];refine⟨fun hm=>?_,Tq h.2⟩;have:l.contains n=true:=by simpa using hm
  rw[this] at h;cases h.1
def NI (σ:af) (ms:List br) (ax:ak):Option (aY ax.aX):=
 vT σ ms fun vs=>IC σ.h vs fun ds ns=>eM (HW ns) (mR ax ds)
theorem agi {σ:af} {ms:List br} {ax:ak} {y:aY ax.aX} (h:NI σ ms ax=some y):σ.er.vN ms=some (dB ax y):=by
 unfold NI at h;obtain⟨vs,h1,h2⟩:=B5 h;obtain⟨ds,ns,h3,h4⟩:=VX h2;have h5:=(bZ h4).1;replace h6:=(bZ h4).2;have yK:sV σ.er.h (vs.map SV.er)=some (ds.map ci.er,ns):=h3;simp only[St.vN,h1,yK,if_pos (Tq h5),qg h6]
def dH (N:Nat) (T:List au) (sc:bx) (ms:List br) (args ax:ak) (x:aY args.aX):Option (aY ax.aX):=
 lN N T sc (Nr args x) (fun σ=>NI σ ms ax) (fun _ _=>none) (fun σ=>NI σ ms ax)
theorem asK {T:List au} {sc:bx} {ms:List br} {args ax:ak} {x:aY args.aX} {y:aY ax.aX} (h:dH aP T sc ms args ax x=some y):
  M7 (cM T) sc.er ms (dB args x)=some (dB ax y):=by
 obtain⟨o,h1,h2⟩:=rE sc h;rw[afQ] at h1;unfold M7;rw[h1];cases o with
 |fq τ=>
  obtain⟨fh,rfl,h2⟩:=h2;exact agi h2
 |ret τ=>
  obtain⟨fh,rfl,h2⟩:=h2;exact agi h2
 |ext i τ=>
  obtain⟨fh,rfl,h2⟩:=h2;cases h2
theorem Aw:∀(as:ak) (x:aY as.aX),(dB as x).length=as.length
 |[],_=>rfl
 |[a],_=>rfl
 |a::b::as,x=>by simp only[dB,List.length_cons,Aw (b::as) x.2]
def rD:Nat->List (Option Mode)->List TD->List SC
 |c,some _::fs,⟨.list ts,xs⟩::l=>.sl (aH+c) ts.length 0 (aa (α:=Ty.DL ts) xs)::rD (c+1) fs l
 |c,some _::fs,⟨.int _,_⟩::l=>.bq::rD (c+1) fs l
 |c,some _::fs,⟨.bool,_⟩::l=>.bq::rD (c+1) fs l
 |c,none::fs,x::l=>.v x.1 x.2::rD c fs l
 |c,[],l=>l.map fun x=>.v x.1 x.2
 |c,_::_,[]=>[]
theorem Ie:∀(c:Nat) (fs:List (Option Mode)) (l:List TD),(rD c fs l).map SC.er=iB c fs (dk l)
 |c,some m::fs,⟨.list ts,xs⟩::l=>by
  simp only[rD,dk,List.map_cons,Ty.er,iB,SC.er];have:=Ie (c+1) fs l;simp only[dk] at this;rw[this];exact congrArg (fun q=>ah.sl (aH+c) ts.length 0 q::_) (List.length_map (Ty.aE ts)).symm
 |c,some m::fs,⟨.int k,x⟩::l=>by
  simp only[rD,dk,List.map_cons,Ty.er,iB,SC.er];exact congrArg _ (Ie (c+1) fs l)
 |c,some m::fs,⟨.bool,x⟩::l=>by
  simp only[rD,dk,List.map_cons,Ty.er,iB,SC.er];exact congrArg _ (Ie (c+1) fs l)
 |c,none::fs,⟨t,x⟩::l=>by
  simp only[rD,dk,List.map_cons,iB,SC.er];exact congrArg _ (Ie c fs l)
 |c,[],l=>by
  cases l<;>simp[rD,dk,iB,SC.er]
 |c,some m::fs,[]=>rfl
 |c,none::fs,[]=>rfl
def Vr (c:Nat) (s:List (Option Mode)) (ts:List Ty) (x:Ty.DL ts):SC:=
 match s with
 |[]=>.dg ts x 0
 |_::_=>match(Ty.gO ts x).getLast? with
  |some ⟨.list us,l⟩=>.cH ts x 0 (ts.length - 1) (aH+c) us.length (aa l)
  |_=>.bq
theorem asZ (c:Nat) (s:List (Option Mode)) (ts:List Ty) (x:Ty.DL ts):(Vr c s ts x).er=FW c s (Ty.aE ts x):=by
 cases s with
 |nil=>rfl
 |cons f fs=>
  have h1:Ty.aE ts x=(Ty.gO ts x).map fun y=>y.1.er y.2:=(Ty.pN ts x).symm;have h2:(Ty.aE ts x).length=ts.length:=Ty.Dp ts x;simp only[Vr,FW];rw[h2,h1,List.getLast?_map];cases hl:(Ty.gO ts x).getLast? with
  |none=>rfl
  |some y=>
   obtain⟨t,l⟩:=y;cases t with
   |list us=>
    simp only[Option.map_some,Ty.er,SC.er,h1,aa];exact congrArg (ah.cH _ 0 (ts.length - 1) (aH+c) us.length) (List.length_map (as:=(l:List (Ty.DL us))) (Ty.aE us)).symm
   |int k=>rfl
   |bool=>rfl
def Ig (c:Nat) (s:List (Option Mode)) (d:K×List Ty) (x:Ty.DL d.2):SV:=
 match d.1 with
 |.one=>match rD c s (Ty.gO d.2 x) with
  |[y]=>.one y
  |_=>.one .bq
 |.agg=>.agg (rD c s (Ty.gO d.2 x))
 |.ptr=>.one (Vr c s d.2 x)
theorem aei (c:Nat) (s:List (Option Mode)) (d:K×List Ty) (x:Ty.DL d.2):(Ig c s d x).er=qB c s (d.1,Ty.aE d.2 x):=by
 obtain⟨k,ts⟩:=d;have h:=Ie c s (Ty.gO ts x);rw[Ty.pN] at h;cases k with
 |one=>
  simp only[Ig,qB,<-h];generalize rD c s (Ty.gO ts x)=l;match l with
  |[]=>rfl
  |[y]=>rfl
  |_::_::_=>rfl
 |agg=>simp only[Ig,qB,<-h,SV.er]
 |ptr=>exact congrArg aj.one (asZ c s ts x)
def It:Nat->Nat->aK->(as:ak)->aY as.aX->(Nat->SV)
 |_,_,_,[],_=>fun _=>.one .bq
 |k,c,sig,[a],x=>az (fun _=>.one .bq) k (Ig c sig.hd a x)
 |k,c,sig,a::b::as,x=>az (It (k+1) (c+(ft sig.hd (Ty.gO a.2 x.1)).length) sig.tl (b::as) x.2) k (Ig c sig.hd a x.1)
theorem QG {α β:Type}:∀(s:List (Option Mode)) (l:List α) (l':List β),l.length=l'.length->(ft s l).length=(ft s l').length
 |some m::fs,x::xs,y::ys,h=>by simp only[ft,List.length_cons,QG fs xs ys (by simpa using h)]
 |none::fs,x::xs,y::ys,h=>by simp only[ft];exact QG fs xs ys (by simpa using h)
 |[],l,l',h=>by cases l<;>cases l'<;>rfl
 |some m::fs,[],[],h=>rfl
 |none::fs,[],[],h=>rfl
 |_::_,[],_::_,h=>by simp at h
 |_::_,_::_,[],h=>by simp at h
theorem aim (ts:List Ty) (x:Ty.DL ts):(Ty.gO ts x).length=(Ty.aE ts x).length:=by
 rw[<-Ty.pN,dk,List.length_map]
theorem aaS (k c:Nat) (sig:aK) (d:Dv) (ds:List Dv):nz k c sig (d::ds)=az (nz (k+1) (c+(ft sig.hd d.2).length) sig.tl ds) k (qB c sig.hd d):=by
 cases sig with
 |nil=>
  have:(ft (aK.hd []) d.2).length=0:=rfl;rw[this];simp only[nz,Nat.add_zero,aK.tl,aK.hd]
 |cons s sig=>rfl
theorem afL:∀(k c:Nat) (sig:aK) (as:ak) (x:aY as.aX),r7 (It k c sig as x)=nz k c sig (dB as x)
 |k,c,sig,[],x=>by cases sig<;>rfl
 |k,c,sig,[a],x=>by
  simp only[It,dB,wD];have h:=aei c sig.hd a x;rw[aaS];have e:nz (k+1) (c+(ft sig.hd (Ty.aE a.2 x)).length) sig.tl []=yC:=by
   simp only[nz]
  rw[e];exact congrArg (fun v=>az (r7 fun _=>SV.one SC.bq) k v) h
 |k,c,sig,a::b::as,x=>by
  have ih:=afL (k+1) (c+(ft sig.hd (Ty.gO a.2 x.1)).length) sig.tl (b::as) x.2;simp only[It,dB,wD,aei,ih,aaS (ds:=dB (b::as) x.2)];rw[QG sig.hd (Ty.gO a.2 x.1) (Ty.aE a.2 x.1) (aim _ _)]
def BX (sig:aK) (as:ak) (x:aY as.aX):List (Mode×TD):=eI sig ((ic as x).map (·.2))
theorem Nl (sig:aK) (as:ak) (x:aY as.aX):(BX sig as x).map (fun p=>(p.1,p.2.1.er p.2.2))=eI sig ((dB as x).map (·.2)):=by
 unfold BX;rw[<-tz,<-Gy (fun p:TD=>p.1.er p.2)];simp only[List.map_map];rfl
def V0:Mode×TD->Option SB
 |(m,⟨.list ts,xs⟩)=>some (.row false m ts xs)
 |_=>none
theorem atC (p:Mode×TD):(V0 p).map SB.er=lM (p.1,p.2.1.er p.2.2):=by
 obtain⟨m,t,x⟩:=p;cases t<;>rfl
def Ff:List (Mode×TD)->Nat->Option SB
 |[],_=>none
 |p::_,0=>V0 p
 |_::l,n+1=>Ff l n
theorem ago:∀(l:List (Mode×TD)) (n:Nat),Ff l n=(l[n]?).bind V0
 |[],n=>by simp[Ff]
 |p::l,0=>by simp[Ff]
 |p::l,n+1=>by simp[Ff,ago l n]
def afJ (fl:List (Mode×TD)):Nat->Option SB:=fun n=>match Nat.ble aH n with
 |true=>Ff fl (Nat.sub n aH)
 |false=>none
def Ns (sig:aK) (as:ak) (x:aY as.aX):af:={env:=It 0 0 sig as x,h:=afJ (BX sig as x),used:=fun n=>Nat.ble aH n}
theorem afP (sig:aK) (as:ak) (x:aY as.aX):(Ns sig as x).er=oZ sig (dB as x):=by
 simp only[Ns,af.er,oZ,afL];congr 1;funext n;simp only[dd,afJ];cases hb:Nat.ble aH n with
 |true=>
  rw[if_pos (Nat.le_of_ble_eq_true hb),<-Nl,ago];simp only[List.getElem?_map];cases (BX sig as x)[n - aH]? with
  |none=>simp
  |some p=>simp[atC]
 |false=>
  rw[if_neg (fun h=>by rw[Nat.ble_eq_true_of_le h] at hb;cases hb)];rfl
def af.ld (σ:af):af:={σ with h:=fun n=>match Nat.ble aH n with|true=>none|false=>σ.h n}
theorem af.aqG (σ:af):σ.ld.er=σ.er.ld:=by
 simp only[af.ld,af.er,St.ld];congr 1;funext n;simp only[dd];cases hb:Nat.ble aH n with
 |true=>rw[if_pos (Nat.le_of_ble_eq_true hb)];rfl
 |false=>rw[if_neg (fun h=>by rw[Nat.ble_eq_true_of_le h] at hb;cases hb)]
section
variable {ρ:Type}
def VM (σ:af) (q:Nat) (p:Mode×TD) (k:TD->Option ρ):Option ρ:=
 match p with
 |(m,⟨.list ts,xs⟩)=>match σ.h (aH+q) with
  |some (.row _ m' us ys)=>eM (Mode.beq m' m) (eM (Ty.tu us ts) (eM (Wt m us) ((kE (aa ys) (aa (α:=Ty.DL ts) xs)).ae fun _=>k ⟨.list us,ys⟩)))
  |_=>none
 |_=>none
theorem aa1 (t:Ty) (x:t.D):(t.er x).sD= !t.fk:=by cases t<;>rfl
theorem aa0:∀(ts:List Ty) (x:Ty.DL ts),(Ty.aE ts x).map C.sD=ts.map fun t=> !t.fk
 |[],_=>rfl
 |[t],x=>congrArg (fun b=>[b]) (aa1 t x)
 |t::u::ts,x=>by
  have:=aa0 (u::ts) x.2;simp only[List.map_cons] at this;simp only[Ty.aE,List.map_cons,aa1,this]
theorem aa2 (ts:List Ty) (xs:List (Ty.DL ts)):(List.map (Ty.aE ts) xs).map (fun e=>e.map C.sD)=List.replicate xs.length (ts.map fun t=> !t.fk):=by
 induction xs with
 |nil=>rfl
 |cons x xs ih=>simp only[List.map_cons,aa0,ih,List.length_cons,List.replicate_succ]
theorem att {σ:af} {q:Nat} {p:Mode×TD} {k:TD->Option ρ} {r:ρ} (h:VM σ q p k=some r):∃o:TD,BJ σ.er q (p.1,p.2.1.er p.2.2)=some (o.1.er o.2)/\k o=some r:=by
 unfold VM at h;split at h
 ·rename_i m ts xs;split at h
  ·rename_i gr m' us ys hn;have h1:=(bZ h).1;replace h:=(bZ h).2;have h2:=(bZ h).1;replace h:=(bZ h).2;have h3:=(bZ h).1;replace h:=(bZ h).2;rw[ed] at h;obtain⟨_,hs,h⟩:=h;have hl:aa ys=aa (α:=Ty.DL ts) xs:=by
    unfold kE at hs;split at hs
    ·assumption
    ·cases hs
   have h1:=Mode.beq_eq h1;have h2:=Ty.tv h2;subst h1 h2;refine⟨_,?_,h⟩;have bu:σ.er.h (aH+q)=some (.row gr m' us.length (List.map (Ty.aE us) ys)):=by simp[af.er,dd,hn,SB.er]
   have eQ:List.length ys=List.length (α:=Ty.DL us) xs:=hl;have np:(List.map (Ty.aE us) ys).length=(List.map (α:=Ty.DL us) (Ty.aE us) xs).length:=(List.length_map _).trans (eQ.trans (List.length_map (as:=(xs:List (Ty.DL us))) (Ty.aE us)).symm);have nq:(List.map (Ty.aE us) ys).map (fun e=>e.map C.sD)=(List.map (α:=Ty.DL us) (Ty.aE us) xs).map (fun e=>e.map C.sD):=
    (aa2 us ys).trans ((congrArg (fun n=>List.replicate n _) eQ).trans (aa2 us xs).symm)
   simp only[BJ,Ty.er,bu];rw[if_pos ⟨trivial,trivial,np,YY _ _ _ h3,nq⟩]
  ·cases h
 ·cases h
def NC (σ:af):Nat->List (Mode×TD)->(List TD->Option ρ)->Option ρ
 |_,[],k=>k []
 |q,p::l,k=>VM σ q p fun o=>NC σ (q+1) l fun os=>k (o::os)
theorem af1 {σ:af}:∀{l:List (Mode×TD)} {q:Nat} {k:List TD->Option ρ} {r:ρ},NC σ q l k=some r->∃os,vK σ.er q (l.map fun p=>(p.1,p.2.1.er p.2.2))=some (dk os)/\k os=some r
 |[],q,k,r,h=>⟨[],rfl,h⟩
 |p::l,q,k,r,h=>by
  simp only[NC] at h;obtain⟨o,h1,h2⟩:=att h;obtain⟨os,h3,h4⟩:=af1 h2;exact⟨o::os,by simp only[List.map_cons,vK,h1,h3,dk],h4⟩
end
def NK (σ:af) (ms:List br) (fl:List (Mode×TD)) (kk:Nat) (ax:ak):Option (aY ax.aX):=
 vT σ.ld ms fun vs=>IC σ.ld.h vs fun ds ns=>eM (HW ns) (cv ds.length kk (NC σ 0 fl fun os=>mR ax (ds++os.map fun o=>(.one,[o]))))
theorem agk {σ:af} {ms:List br} {fl:List (Mode×TD)} {kk:Nat} {ax:ak} {y:aY ax.aX} (h:NK σ ms fl kk ax=some y):
  σ.er.EP ms (fl.map fun p=>(p.1,p.2.1.er p.2.2))=some (xQ kk (dB ax y)):=by
 unfold NK at h;obtain⟨vs,h1,h2⟩:=B5 h;obtain⟨ds,ns,h3,h4⟩:=VX h2;have h5:=(bZ h4).1;replace h4:=(bZ h4).2;have h6:=(aO h4).1;replace h4:=(aO h4).2;obtain⟨os,h7,h8⟩:=af1 h4;have yK:sV σ.ld.er.h (vs.map SV.er)=some (ds.map ci.er,ns):=h3;have hr:σ.er.ld.vN ms=some (ds.map ci.er):=by
  rw[<-af.aqG];simp only[St.vN,h1,yK,if_pos (Tq h5)]
 simp only[St.EP,hr,h7,<-qg h8,B3,<-h6];congr 2
 ·rw[List.take_left]
 ·rw[List.drop_left];congr 1;clear h7 h8;induction os with
  |nil=>rfl
  |cons o os ih=>rw[List.map_cons,List.flatMap_cons,<-ih];rfl
def xK (N:Nat) (T:List au) (sc:bx) (ms:List br) (args:ak) (mu:aK) (ax:ak) (x:aY args.aX):Option (aY ax.aX):=
 lN N T sc (Ns mu args x) (fun σ=>NK σ ms (BX mu args x) (ax.length - mu.cF) ax) (fun _ _=>none) (fun σ=>NK σ ms (BX mu args x) (ax.length - mu.cF) ax)
theorem asI {T:List au} {sc:bx} {ms:List br} {args:ak} {mu:aK} {ax:ak} {x:aY args.aX} {y:aY ax.aX} (h:xK aP T sc ms args mu ax x=some y):
  M8 (cM T) sc.er ms mu (dB args x)=some (xQ (ax.length - mu.cF) (dB ax y)):=by
 obtain⟨o,h1,h2⟩:=rE sc h;rw[afP] at h1;unfold M8;rw[h1];cases o with
 |fq τ=>
  obtain⟨fh,rfl,h2⟩:=h2;simp only[<-Nl];exact agk h2
 |ret τ=>
  obtain⟨fh,rfl,h2⟩:=h2;simp only[<-Nl];exact agk h2
 |ext i τ=>
  obtain⟨fh,rfl,h2⟩:=h2;cases h2
def Ic (k:K) (ts:List Ty) (x:Ty.DL ts):SV:=
 match k with
 |.one=>match Ty.cells ts x with
  |[c]=>.one c
  |_=>.one .bq
 |.agg=>.agg (Ty.cells ts x)
 |.ptr=>.one (.ptr aH 0 0 0)
theorem aeh (k:K) (ts:List Ty) (x:Ty.DL ts):(Ic k ts x).er=FV (k,Ty.aE ts x):=by
 cases k with
 |one=>
  match ts,x with
  |[],x=>rfl
  |[t],x=>rfl
  |t::u::[],x=>rfl
  |t::u::v::ts,x=>rfl
 |agg=>simp only[Ic,SV.er,FV,Ty.kK]
 |ptr=>rfl
def Iu:Nat->(as:ak)->aY as.aX->(Nat->SV)
 |_,[],_=>fun _=>.one .bq
 |k,[a],x=>az (fun _=>.one .bq) k (Ic a.1 a.2 x)
 |k,a::b::as,x=>az (Iu (k+1) (b::as) x.2) k (Ic a.1 a.2 x.1)
theorem afM:∀(k:Nat) (as:ak) (x:aY as.aX),r7 (Iu k as x)=vp k (dB as x)
 |k,[],x=>rfl
 |k,[a],x=>by
  have e:(Ic a.1 a.2 x).er=FV (a.1,Ty.aE a.2 x):=aeh a.1 a.2 x;simp only[Iu,dB,vp,wD];rw[e];rfl
 |k,a::b::as,x=>by
  have ih:=afM (k+1) (b::as) x.2;simp only[Iu,dB,wD,aeh,ih];rw[vp]
def sZ:(as:ak)->aY as.aX->Option (List TD)
 |[],_=>none
 |[a],x=>match a.1.vr with
  |true=>some (Ty.gO a.2 x)
  |false=>none
 |a::b::as,x=>match a.1.vr with
  |true=>some (Ty.gO a.2 x.1)
  |false=>sZ (b::as) x.2
theorem adE (k:K) (xs:List C) (ds:List Dv):ql ((k,xs)::ds)=match k.vr with|true=>some xs|false=>ql ds:=by cases k<;>rfl
theorem aai (k:K) (ts:List Ty) (as:ak):DF ((k,ts)::as)=match k.vr with|true=>true|false=>DF as:=by cases k<;>rfl
theorem VP:∀(as:ak) (x:aY as.aX),(sZ as x).map dk=ql (dB as x)
 |[],_=>rfl
 |[(k,ts)],x=>by
  simp only[sZ,dB,adE];cases k.vr with
  |true=>exact congrArg some (Ty.pN ts x)
  |false=>rfl
 |(k,ts)::b::as,x=>by
  simp only[sZ,dB,adE];cases k.vr with
  |true=>simp only[Option.map_some];rw[Ty.pN]
  |false=>exact VP (b::as) x.2
theorem aga:∀(as:ak) (x:aY as.aX),(sZ as x).isSome=DF as
 |[],_=>rfl
 |[(k,ts)],x=>by
  simp only[sZ,aai];cases k.vr<;>rfl
 |(k,ts)::b::as,x=>by
  simp only[sZ];rw[aai];cases k.vr with
  |true=>rfl
  |false=>exact aga (b::as) x.2
def afO (as:ak) (x:aY as.aX):Nat->Option SB:=fun n=>match Nat.beq n aH with
 |true=>match sZ as x with
  |some l=>some (.box (l.map fun y=>.v y.1 y.2))
  |none=>none
 |false=>none
def VG (as:ak) (x:aY as.aX):af:={env:=Iu 0 as x,h:=afO as x,used:=fun n=>Nat.ble aH n}
theorem atl (as:ak) (x:aY as.aX):(VG as x).er=Hu (dB as x):=by
 simp only[VG,af.er,Hu,afM];congr 1;funext n;simp only[dd,afO,pW];cases Nat.beq n aH with
 |false=>rfl
 |true=>
  simp only
  rw[<-VP];cases sZ as x with
  |none=>rfl
  |some l=>simp only[Option.map_some,SB.er,N9]
section
variable {ρ:Type}
def NH (h:Nat->Option SB):List SV->(List ci->Option ρ)->Option ρ
 |[],k=>k []
 |v::vs,k=>match v.cells? with
  |some (ag,cs)=>Ca h cs fun l=>NH h vs fun ds=>k ((Ei ag,l)::ds)
  |none=>none
theorem agh {h:Nat->Option SB}:∀{vs:List SV} {k:List ci->Option ρ} {r:ρ},NH h vs k=some r->∃ds,sU (dd h) (vs.map SV.er)=some (ds.map ci.er)/\k ds=some r
 |[],k,r,hx=>⟨[],rfl,hx⟩
 |v::vs,k,r,hx=>by
  simp only[NH] at hx;split at hx
  ·rename_i ag cs hc;obtain⟨l,h1,h2⟩:=IF hx;obtain⟨ds,h3,h4⟩:=agh h2;refine⟨_,?_,h4⟩;simp only[List.map_cons,sU,SV.kK hc,h1,h3,ci.er];cases ag<;>rfl
  ·cases hx
def af9:List SV->Option (Nat×Nat×Nat)
 |[v]=>v.rv
 |_=>none
def VY (h:Nat->Option SB) (vs:List SV) (k:List ci->Option ρ):Option ρ:=
 match af9 vs with
 |some (n,kk,off)=>match Nf h n kk off with
  |some l=>match Nat.ble aH n with
   |true=>none
   |false=>k [(.ptr,l)]
  |none=>none
 |none=>NH h vs k
theorem atB {h:Nat->Option SB} {vs:List SV} {k:List ci->Option ρ} {r:ρ} (hx:VY h vs k=some r):∃ds,ER (dd h) (vs.map SV.er)=some (ds.map ci.er)/\k ds=some r:=by
 unfold VY at hx;split at hx
 ·rename_i n kk off hp;have hv:∃sz,vs=[.one (.ptr n kk sz off)]:=by
   unfold af9 at hp;split at hp
   ·obtain⟨sz,rfl⟩:=adD hp;exact⟨sz,rfl⟩
   ·cases hp
  obtain⟨sz,rfl⟩:=hv;split at hx
  ·rename_i l hl;split at hx
   ·cases hx
   ·rename_i hb;refine⟨_,?_,hx⟩;have e:=aek (sz:=sz) hl;have hn:¬aH<=n:=fun gG=>by rw[Nat.ble_eq_true_of_le gG] at hb;cases hb
    simp only[List.map_cons,List.map_nil,ER,e];rw[if_neg hn];rfl
  ·cases hx
 ·rename_i hp;obtain⟨ds,h1,h2⟩:=agh hx;refine⟨ds,?_,h2⟩;unfold ER;split
  ·rename_i v0 he;have hv:∃v,vs=[v]/\v0=v.er:=by
    match vs,he with
    |[v],he=>simp at he;exact⟨v,rfl,he.symm⟩
   obtain⟨v,rfl,rfl⟩:=hv;have bB:v.rv=none:=hp;rw[adC bB];exact h1
  ·exact h1
def VN (h:Nat->Option SB) (cur:Option (List TD)) (k:List ci->Option ρ):Option ρ:=
 match cur with
 |none=>k []
 |some xs=>match h aH with
  |some (.box cs)=>cv cs.length xs.length (match zJ cs with
   |some l=>k [(.ptr,l)]
   |none=>none)
  |_=>none
theorem atu {h:Nat->Option SB} {cur:Option (List TD)} {k:List ci->Option ρ} {r:ρ} (hx:VN h cur k=some r):
  ∃os:List ci,EE (dd h) (cur.map dk)=some (dk (os.flatMap (·.2)))/\os.length=(match cur.isSome with|true=>1|false=>0)/\k os=some r:=by
 unfold VN at hx;split at hx
 ·exact⟨[],rfl,rfl,hx⟩
 ·rename_i xs;split at hx
  ·rename_i cs hn;have he:=(aO hx).1;replace hx:=(aO hx).2;split at hx
   ·rename_i l hl;refine⟨[(.ptr,l)],?_,rfl,hx⟩;simp only[Option.map_some,EE,dd,hn,SB.er,List.length_map];rw[if_pos (by rw[he,dk,List.length_map]),Iq hl];simp
   ·cases hx
  ·cases hx
end
def NM (σ:af) (ms:List br) (cur:Option (List TD)) (ax:ak):Option (aY ax.aX):=
 vT σ ms fun vs=>VY σ.h vs fun ds=>VN σ.h cur fun os=>mR ax (ds++os)
theorem agm {σ:af} {ms:List br} {args:ak} {x:aY args.aX} {ax:ak} {y:aY ax.aX} (h:NM σ ms (sZ args x) ax=some y):
  σ.er.EQ ms (dB args x)=some (xQ (ax.length - rq args) (dB ax y)):=by
 unfold NM at h;obtain⟨vs,h1,h2⟩:=B5 h;obtain⟨ds,h3,h4⟩:=atB h2;obtain⟨os,h5,h6,h7⟩:=atu h4;have h8:=qg h7;have hlen:ax.length=ds.length+os.length:=by
  have:=congrArg List.length h8;rw[Aw,List.length_map,List.length_append] at this;exact this.symm
 have tM:rq args=os.length:=by
  rw[h6,aga];unfold rq;cases DF args<;>rfl
 have hk:ax.length - rq args=ds.length:=by omega
 have yK:ER σ.er.h (vs.map SV.er)=some (ds.map ci.er):=h3;have Lf:EE σ.er.h (ql (dB args x))=some (dk (os.flatMap (·.2))):=by rw[<-VP];exact h5
 simp only[St.EQ,h1,yK,Lf,hk];rw[<-h8,B3,List.take_left,List.drop_left]
def Na (N:Nat) (T:List au) (sc:bx) (ms:List br) (args ax:ak) (x:aY args.aX):Option (aY ax.aX):=
 lN N T sc (VG args x) (fun σ=>NM σ ms (sZ args x) ax) (fun _ _=>none) (fun σ=>NM σ ms (sZ args x) ax)
theorem asL {T:List au} {sc:bx} {ms:List br} {args ax:ak} {x:aY args.aX} {y:aY ax.aX} (h:Na aP T sc ms args ax x=some y):
  M9 (cM T) sc.er ms (dB args x)=some (xQ (ax.length - rq args) (dB ax y)):=by
 obtain⟨o,h1,h2⟩:=rE sc h;rw[atl] at h1;unfold M9;rw[h1];cases o with
 |fq τ=>
  obtain⟨fh,rfl,h2⟩:=h2;exact agm h2
 |ret τ=>
  obtain⟨fh,rfl,h2⟩:=h2;exact agm h2
 |ext i τ=>
  obtain⟨fh,rfl,h2⟩:=h2;cases h2
def zT:ak:=[(.one,[.int .i64]),(.one,[.int .i64])]
def NO (σ:af) (ms:List br):Option (aY (ak.aX zT)):=
 vT σ ms fun vs=>match vs with
  |[.one (.sl n sz lo len)]=>cv n aH (match σ.h aH with
   |some (.row _ _ ts xs)=>cv sz ts.length ((eY (0:Int) (aa xs)).ae fun _=>some (aA lo,aA (aI lo len)))
   |_=>none)
  |_=>none
theorem agn {σ:af} {ms:List br} {y:aY (ak.aX zT)} (h:NO σ ms=some y):∃lo len,σ.er.ES ms=some (lo,len)/\WB (dB zT y)=some (lo,len):=by
 unfold NO at h;obtain⟨vs,h1,h2⟩:=B5 h;split at h2
 ·rename_i n sz lo len;have he:=(aO h2).1;replace h2:=(aO h2).2;split at h2
  ·rename_i gr mo ts xs eH;have tJ:=(aO h2).1;replace h2:=(aO h2).2;rw[ed] at h2;obtain⟨k,hk,h2⟩:=h2;injection h2 with h2;refine⟨lo,len,?_,?_⟩
   ·have bu:σ.er.h aH=some (.row gr mo ts.length (List.map (Ty.aE ts) xs)):=by simp only[af.er,dd,eH,SB.er,Option.map_some]
    unfold St.ES;rw[h1];simp only[List.map_cons,List.map_nil,SV.er,SC.er];rw[if_pos he,bu];cases xs with
    |nil=>unfold eY aa at hk;simp at hk
    |cons e es=>simp only[List.map_cons];rw[if_pos tJ]
   ·subst h2;show some (((lo:Nat):Int).toNat,(((lo+len:Nat):Int) - ((lo:Nat):Int)).toNat)=some (lo,len);congr 2;omega
  ·cases h2
 ·cases h2
def Nc (N:Nat) (T:List au) (sc:bx) (ms:List br) (args:ak) (mu:aK) (x:aY args.aX):Option (aY (ak.aX zT)):=
 match BX mu args x with
 |[_]=>lN N T sc (Ns mu args x) (fun σ=>NO σ ms) (fun _ _=>none) (fun σ=>NO σ ms)
 |_=>none
theorem asM {T:List au} {sc:bx} {ms:List br} {args:ak} {mu:aK} {x:aY args.aX} {y:aY (ak.aX zT)} (h:Nc aP T sc ms args mu x=some y):
  ∃lo len,Nb (cM T) sc.er ms mu (dB args x)=some (lo,len)/\WB (dB zT y)=some (lo,len):=by
 unfold Nc at h;split at h
 ·rename_i p hp;obtain⟨o,h1,h2⟩:=rE sc h;rw[afP] at h1;unfold Nb;rw[<-Nl,hp];simp only[List.map_cons,List.map_nil];rw[h1];cases o with
  |fq τ=>obtain⟨fh,rfl,h2⟩:=h2;exact agn h2
  |ret τ=>obtain⟨fh,rfl,h2⟩:=h2;exact agn h2
  |ext i τ=>obtain⟨fh,rfl,h2⟩:=h2;cases h2
 ·cases h
def NL (σ:af) (ms:List br) (ax:ak):Option (aY ax.aX):=
 vT σ ms fun vs=>match vs with
  |[.one (.sl n sz lo len)]=>match σ.h n with
   |some (.row true .live ts xs)=>cv ts.length sz (cv lo 0 ((dN xs len).ae fun ys=>mR ax [(.one,[⟨.list ts,ys⟩])]))
   |_=>none
  |_=>none
theorem agl {σ:af} {ms:List br} {ax:ak} {y:aY ax.aX} (h:NL σ ms ax=some y):σ.er.BN ms=some (dB ax y):=by
 unfold NL at h;obtain⟨vs,h1,h2⟩:=B5 h;split at h2
 ·rename_i n sz lo len;split at h2
  ·rename_i ts xs hn;have bg:=(aO h2).1;replace h2:=(aO h2).2;subst bg;have bg:=(aO h2).1;replace h2:=(aO h2).2;subst bg;rw[ed] at h2;obtain⟨ys,hw,h2⟩:=h2;obtain⟨w1,w2⟩:=Wn hw;have bu:σ.er.h n=some (.row true .live ts.length (List.map (Ty.aE ts) xs)):=by simp[af.er,dd,hn,SB.er]
   have hm:=qg h2;have iU:σ.er.qp ms=some [.one (.sl n ts.length 0 len)]:=h1;have hr:jL σ.er.h (.sl n ts.length 0 len)=some (.list ts.length (List.map (Ty.aE ts) ys),[n]):=by
    simp[jL,bu,w1,w2]
   have oS:EC σ.er.h (.sl n ts.length 0 len)=true:=by simp only[EC,bu]
   simp only[St.BN,iU,hr,oS,if_true];rw[<-hm];rfl
  ·cases h2
 ·cases h2
def Vm (N:Nat) (T:List au) (sc:bx) (ms:List br) (args ax:ak) (x:aY args.aX):Option (aY ax.aX):=
 lN N T sc (Nr args x) (fun σ=>NL σ ms ax) (fun _ _=>none) (fun σ=>NL σ ms ax)
theorem asJ {T:List au} {sc:bx} {ms:List br} {args ax:ak} {x:aY args.aX} {y:aY ax.aX} (h:Vm aP T sc ms args ax x=some y):
  runN (cM T) sc.er ms (dB args x)=some (dB ax y):=by
 obtain⟨o,h1,h2⟩:=rE sc h;rw[afQ] at h1;unfold runN;rw[h1];cases o with
 |fq τ=>
  obtain⟨fh,rfl,h2⟩:=h2;exact agl h2
 |ret τ=>
  obtain⟨fh,rfl,h2⟩:=h2;exact agl h2
 |ext i τ=>
  obtain⟨fh,rfl,h2⟩:=h2;cases h2
def W0 (P:Program) (fn:au):Prop:=(fn.mu.fx=0->dh P fn.id fn.M)/\(fn.mu.fx=1->rQ P fn.id fn.mu fn.MM)/\(fn.mu.fx=2->Ad P fn.id fn.MV)/\(fn.mu.fx=3->CU P fn.id fn.mu.tl fn.MW)/\(fn.mu.fx=4->W3 P fn.id fn.mu.pF fn.MX)/\(fn.mu.fx=5->v9 P fn.id fn.M)/\bS P fn.id=true
def aG (P:Program) (T:List au):Prop:=∀fn∈T,W0 P fn
theorem aG.nil {P:Program}:aG P []:=fun _ h=>by cases h
theorem aG.KE {P:Program} {fn:au} {T:List au} (h:W0 P fn) (hT:aG P T):aG P (fn::T):=by
 intro g hg;cases hg with
 |head=>exact h
 |tail _ hg=>exact hT g hg
theorem aG.cons {P:Program} {f:FuncId} {args ax:ak} {F:aY args.aX->Option (aY ax.aX)} {T:List au} (h:dh P f (au.M ⟨f,args,[],ax,F⟩)/\bS P f=true) (hT:aG P T):aG P (⟨f,args,[],ax,F⟩::T):=
 aG.KE ⟨fun _=>h.1,fun hm=>(by cases hm),fun hm=>(by cases hm),fun hm=>(by cases hm),fun hm=>(by cases hm),fun hm=>(by cases hm),h.2⟩ hT
theorem aG.uN {P:Program} {f:FuncId} {args:ak} {s:List (Option Mode)} {mu:aK} {ax:ak} {F:aY args.aX->Option (aY ax.aX)} {T:List au} (h:rQ P f (s::mu) (au.MM ⟨f,args,s::mu,ax,F⟩)/\bS P f=true) (hT:aG P T)
  (hk:aK.fx (s::mu)=1:=by rfl):aG P (⟨f,args,s::mu,ax,F⟩::T):=
 aG.KE ⟨fun hm=>absurd (hk.symm.trans hm) (by decide),fun _=>h.1,fun hm=>absurd (hk.symm.trans hm) (by decide),fun hm=>absurd (hk.symm.trans hm) (by decide),fun hm=>absurd (hk.symm.trans hm) (by decide),fun hm=>absurd (hk.symm.trans hm) (by decide),h.2⟩ hT
theorem aG.XU {P:Program} {f:FuncId} {args:ak} {ax:ak} {F:aY args.aX->Option (aY ax.aX)} {T:List au} (h:Ad P f (au.MV ⟨f,args,[[some .aJ]],ax,F⟩)/\bS P f=true) (hT:aG P T):aG P (⟨f,args,[[some .aJ]],ax,F⟩::T):=
 aG.KE ⟨fun hm=>(by cases hm),fun hm=>(by cases hm),fun _=>h.1,fun hm=>(by cases hm),fun hm=>(by cases hm),fun hm=>(by cases hm),h.2⟩ hT
theorem aG.aih {P:Program} {f:FuncId} {args:ak} {mu:aK} {ax:ak} {F:aY args.aX->Option (aY ax.aX)} {T:List au} (h:CU P f mu (au.MW ⟨f,args,[some .aJ,some .aJ]::mu,ax,F⟩)/\bS P f=true) (hT:aG P T):aG P (⟨f,args,[some .aJ,some .aJ]::mu,ax,F⟩::T):=
 aG.KE ⟨fun hm=>(by cases hm),fun hm=>(by cases hm),fun hm=>(by cases hm),fun _=>h.1,fun hm=>(by cases hm),fun hm=>(by cases hm),h.2⟩ hT
theorem Wi:∀{T:List au} {f:FuncId} {M:List Dv->Option (List Dv)},aQ.find (cM T).ns f=some M->∃fn∈T,fn.id=f/\M=fn.M/\fn.mu.fx=5
 |[],f,M,h=>by simp[cM,aQ.find] at h
 |g::l,f,M,h=>by
  simp only[cM,List.filterMap_cons] at h;by_cases hg:g.mu.fx=5
  ·simp only[hg,aQ.find] at h;split at h
   ·rename_i e;injection h with h;exact⟨g,by simp,e.symm,h.symm,hg⟩
   ·obtain⟨fn,h1,h2,h3⟩:=Wi (T:=l) h;exact⟨fn,by simp[h1],h2,h3⟩
  ·split at h
   ·obtain⟨fn,h1,h2,h3⟩:=Wi (T:=l) h;exact⟨fn,by simp[h1],h2,h3⟩
   ·rename_i z hz;split at hz
    ·rename_i h0;exact absurd h0 hg
    ·cases hz
theorem NX:∀{T:List au} {f:FuncId} {M:List Dv->Option (List Dv)},aQ.find (cM T).pure f=some M->∃fn∈T,fn.id=f/\M=fn.M/\fn.mu.fx=0
 |[],f,M,h=>by simp[cM,aQ.find] at h
 |g::l,f,M,h=>by
  simp only[cM,List.filterMap_cons] at h;by_cases hg:g.mu.fx=0
  ·simp only[hg,aQ.find] at h;split at h
   ·rename_i e;injection h with h;exact⟨g,by simp,e.symm,h.symm,hg⟩
   ·obtain⟨fn,h1,h2,h3⟩:=NX (T:=l) h;exact⟨fn,by simp[h1],h2,h3⟩
  ·split at h
   ·obtain⟨fn,h1,h2,h3⟩:=NX (T:=l) h;exact⟨fn,by simp[h1],h2,h3⟩
   ·rename_i z hz;split at hz
    ·rename_i h0;exact absurd h0 hg
    ·cases hz
theorem Wh:∀{T:List au} {f:FuncId} {sig:aK} {M:List Dv->Option (List Dv×List C)},aQ.nQ (cM T).vH f=some (sig,M)->∃fn∈T,fn.id=f/\sig=fn.mu/\M=fn.MM/\fn.mu.fx=1
 |[],f,sig,M,h=>by simp[cM,aQ.nQ] at h
 |g::l,f,sig,M,h=>by
  simp only[cM,List.filterMap_cons] at h;by_cases hg:g.mu.fx=1
  ·simp only[hg,aQ.nQ] at h;split at h
   ·rename_i e;injection h with h;injection h with ha hb;exact⟨g,by simp,e.symm,ha.symm,hb.symm,hg⟩
   ·obtain⟨fn,h1,h2,h3⟩:=Wh (T:=l) h;exact⟨fn,by simp[h1],h2,h3⟩
  ·split at h
   ·obtain⟨fn,h1,h2,h3⟩:=Wh (T:=l) h;exact⟨fn,by simp[h1],h2,h3⟩
   ·rename_i z hz;split at hz
    ·rename_i h0;exact absurd h0 hg
    ·cases hz
theorem Wj:∀{T:List au} {f:FuncId} {M:List Dv->Option (List Dv×List C)},aQ.lZ (cM T).vs f=some M->∃fn∈T,fn.id=f/\M=fn.MV/\fn.mu.fx=2
 |[],f,M,h=>by simp[cM,aQ.lZ] at h
 |g::l,f,M,h=>by
  simp only[cM,List.filterMap_cons] at h;by_cases hg:g.mu.fx=2
  ·simp only[hg,aQ.lZ] at h;split at h
   ·rename_i e;injection h with h;exact⟨g,by simp,e.symm,h.symm,hg⟩
   ·obtain⟨fn,h1,h2,h3⟩:=Wj (T:=l) h;exact⟨fn,by simp[h1],h2,h3⟩
  ·split at h
   ·obtain⟨fn,h1,h2,h3⟩:=Wj (T:=l) h;exact⟨fn,by simp[h1],h2,h3⟩
   ·rename_i z hz;split at hz
    ·rename_i h0;exact absurd h0 hg
    ·cases hz
theorem Wk:∀{T:List au} {f:FuncId} {sig:aK} {M:List Dv->Option (Nat×Nat)},aQ.tB (cM T).ws f=some (sig,M)->∃fn∈T,fn.id=f/\sig=fn.mu.tl/\M=fn.MW/\fn.mu.fx=3
 |[],f,sig,M,h=>by simp[cM,aQ.tB] at h
 |g::l,f,sig,M,h=>by
  simp only[cM,List.filterMap_cons] at h;by_cases hg:g.mu.fx=3
  ·simp only[hg,aQ.tB] at h;split at h
   ·rename_i e;injection h with h;injection h with ha hb;exact⟨g,by simp,e.symm,ha.symm,hb.symm,hg⟩
   ·obtain⟨fn,h1,h2,h3⟩:=Wk (T:=l) h;exact⟨fn,by simp[h1],h2,h3⟩
  ·split at h
   ·obtain⟨fn,h1,h2,h3⟩:=Wk (T:=l) h;exact⟨fn,by simp[h1],h2,h3⟩
   ·rename_i z hz;split at hz
    ·rename_i h0;exact absurd h0 hg
    ·cases hz
theorem Wl:∀{T:List au} {f:FuncId} {sig:Nat} {M:List Dv->Option (List Dv×List C)},aQ.tC (cM T).xs f=some (sig,M)->∃fn∈T,fn.id=f/\sig=fn.mu.pF/\M=fn.MX/\fn.mu.fx=4
 |[],f,sig,M,h=>by simp[cM,aQ.tC] at h
 |g::l,f,sig,M,h=>by
  simp only[cM,List.filterMap_cons] at h;by_cases hg:g.mu.fx=4
  ·simp only[hg,aQ.tC] at h;split at h
   ·rename_i e;injection h with h;injection h with ha hb;exact⟨g,by simp,e.symm,ha.symm,hb.symm,hg⟩
   ·obtain⟨fn,h1,h2,h3⟩:=Wl (T:=l) h;exact⟨fn,by simp[h1],h2,h3⟩
  ·split at h
   ·obtain⟨fn,h1,h2,h3⟩:=Wl (T:=l) h;exact⟨fn,by simp[h1],h2,h3⟩
   ·rename_i z hz;split at hz
    ·rename_i h0;exact absurd h0 hg
    ·cases hz
theorem aG.tok {P:Program} {T:List au} (hT:aG P T):jT P (cM T):=by
 refine⟨fun g M hM=>?_,fun g sig M hM=>?_,fun g M hM=>?_,⟨fun g sig M hM=>?_,fun g sig M hM=>?_⟩,fun g M hM=>?_,fun g M hM=>?_⟩
 ·obtain⟨qH,h1,h2,h3,h4⟩:=NX hM;subst h2 h3;exact(hT qH h1).1 h4
 ·obtain⟨qH,h1,h2,h3,h4,h5⟩:=Wh hM;subst h2 h3 h4;exact(hT qH h1).2.1 h5
 ·obtain⟨qH,h1,h2,h3,h4⟩:=Wj hM;subst h2 h3;exact(hT qH h1).2.2.1 h4
 ·obtain⟨qH,h1,h2,h3,h4,h5⟩:=Wk hM;subst h2 h3 h4;exact(hT qH h1).2.2.2.1 h5
 ·obtain⟨qH,h1,h2,h3,h4,h5⟩:=Wl hM;subst h2 h3 h4;exact(hT qH h1).2.2.2.2.1 h5
 ·obtain⟨qH,h1,h2,h3,h4⟩:=Wi hM;subst h2 h3;exact(hT qH h1).2.2.2.2.2.1 h4
 ·obtain⟨qH,h1,h2,h3,h4⟩:=NX hM;subst h2;exact(hT qH h1).2.2.2.2.2.2
def cI (P:Program) (f:FuncId) (mc:jS) (ms:List br) (n:Nat):Bool:=
 match P.funcs[f]? with
 |some fn=>match fn.body with
  |some c=>iR P fn.ntmps c mc&&mF P fn.results.toList ms&&decide (n<=fn.ntmps)&&(fn.name != "runtime.NumGoroutine")
  |none=>false
 |none=>false
theorem Gb {P:Program} {f:FuncId} {mc:jS} {ms:List br} {n:Nat} (h:cI P f mc ms n=true):bS P f=true:=by
 unfold cI at h;unfold bS;split at h
 ·rename_i fn hf;split at h
  ·rename_i c hb;simp only[Bool.and_eq_true] at h;simp[hf,hb,h.2]
  ·cases h
 ·cases h
theorem dK {P:Program} {T:List au} (hT:aG P T) (hm:P.follows .mixedOrders=true) {f:FuncId} {sc:bx} {ms:List br} {args ax:ak} (hc:cI P f sc.er ms args.length=true)
  (F:aY args.aX->Option (aY ax.aX)) (hF:∀x y,F x=some y->dH aP T sc ms args ax x=some y):dh P f (au.M ⟨f,args,[],ax,F⟩)/\bS P f=true:=by
 refine⟨?_,Gb hc⟩;unfold cI at hc;split at hc
 ·rename_i fn hf;split at hc
  ·rename_i c hb;simp only[Bool.and_eq_true,decide_eq_true_eq] at hc;refine ar8 (T:=cM T) hT.tok hm hf hb hc.1.1.1 hc.1.1.2 fun ds rs hM=>?_;obtain⟨x,y,h1,h2,h3⟩:=au.FL hM;subst h1 h3;exact⟨by rw[Aw];exact hc.1.2,asK (hF x y h2)⟩
  ·cases hc
 ·cases hc
theorem BD {P:Program} {T:List au} (hT:aG P T) (hm:P.follows .mixedOrders=true) {f:FuncId} {sc:bx} {ms:List br} {args:ak} {mu:aK} {ax:ak} (hc:cI P f sc.er ms args.length=true)
  (F:aY args.aX->Option (aY ax.aX)) (hF:∀x y,F x=some y->xK aP T sc ms args mu ax x=some y):rQ P f mu (au.MM ⟨f,args,mu,ax,F⟩)/\bS P f=true:=by
 refine⟨?_,Gb hc⟩;unfold cI at hc;split at hc
 ·rename_i fn hf;split at hc
  ·rename_i c hb;simp only[Bool.and_eq_true,decide_eq_true_eq] at hc;refine api (T:=cM T) hT.tok hm hf hb hc.1.1.1 hc.1.1.2 fun ds rs d7 hM=>?_;unfold au.MM at hM;rw[Option.map_eq_some_iff] at hM;obtain⟨mw,h0,GJ⟩:=hM;obtain⟨x,y,h1,h2,h3⟩:=au.FL h0;subst h1 h3;refine⟨by rw[Aw];exact hc.1.2,?_⟩;rw[<-GJ];exact asI (hF x y h2)
  ·cases hc
 ·cases hc
theorem ag0 {P:Program} {T:List au} (hT:aG P T) (hm:P.follows .mixedOrders=true) {f:FuncId} {sc:bx} {ms:List br} {args ax:ak} (hc:cI P f sc.er ms args.length=true)
  (F:aY args.aX->Option (aY ax.aX)) (hF:∀x y,F x=some y->Na aP T sc ms args ax x=some y):Ad P f (au.MV ⟨f,args,[[some .aJ]],ax,F⟩)/\bS P f=true:=by
 refine⟨?_,Gb hc⟩;unfold cI at hc;split at hc
 ·rename_i fn hf;split at hc
  ·rename_i c hb;simp only[Bool.and_eq_true,decide_eq_true_eq] at hc;refine auc (T:=cM T) hT.tok hm hf hb hc.1.1.1 hc.1.1.2 fun ds rs out hM=>?_;unfold au.MV at hM;rw[Option.map_eq_some_iff] at hM;obtain⟨mw,h0,GJ⟩:=hM;obtain⟨x,y,h1,h2,h3⟩:=au.FL h0;subst h1 h3;refine⟨by rw[Aw];exact hc.1.2,?_⟩;rw[<-GJ];exact asL (hF x y h2)
  ·cases hc
 ·cases hc
theorem aug {P:Program} {T:List au} (hT:aG P T) (hm:P.follows .mixedOrders=true) {f:FuncId} {sc:bx} {ms:List br} {args:ak} {mu:aK} (hc:cI P f sc.er ms args.length=true)
  (LA:rA sc.er=true) (F:aY args.aX->Option (aY (ak.aX zT))) (hF:∀x y,F x=some y->Nc aP T sc ms args mu x=some y):CU P f mu (au.MW ⟨f,args,[some .aJ,some .aJ]::mu,zT,F⟩)/\bS P f=true:=by
 refine⟨?_,Gb hc⟩;unfold cI at hc;split at hc
 ·rename_i fn hf;split at hc
  ·rename_i c hb;simp only[Bool.and_eq_true,decide_eq_true_eq] at hc;refine auf (T:=cM T) hT.tok hm hf hb hc.1.1.1 hc.1.1.2 LA fun ds lo len hM=>?_;unfold au.MW at hM;rw[Option.bind_eq_some_iff] at hM;obtain⟨mw,h0,GJ⟩:=hM;obtain⟨x,y,h1,h2,h3⟩:=au.FL h0;subst h1 h3;obtain⟨sJ,qd,k1,k2⟩:=asM (hF x y h2);have:(sJ,qd)=(lo,len):=by
    have:=k2.symm.trans GJ;injection this
   injection this with g1 g2;subst g1 g2;exact⟨by rw[Aw];exact hc.1.2,k1⟩
  ·cases hc
 ·cases hc
theorem aqa {P:Program} {T:List au} (hT:aG P T) (hm:P.follows .mixedOrders=true) {f:FuncId} {sc:bx} {ms:List br} {args:ak} {mu:aK} {ax:ak} (hc:cI P f sc.er ms args.length=true)
  (F:aY args.aX->Option (aY ax.aX)) (hF:∀x y,F x=some y->Vm aP T sc ms args ax x=some y):v9 P f (au.M ⟨f,args,mu,ax,F⟩)/\bS P f=true:=by
 refine⟨?_,Gb hc⟩;unfold cI at hc;split at hc
 ·rename_i fn hf;split at hc
  ·rename_i c hb;simp only[Bool.and_eq_true,decide_eq_true_eq] at hc;refine ap9 (T:=cM T) hT.tok hm hf hb hc.1.1.1 hc.1.1.2 fun ds rs hM=>?_;obtain⟨x,y,h1,h2,h3⟩:=au.FL hM;subst h1 h3;exact⟨by rw[Aw];exact hc.1.2,asJ (hF x y h2)⟩
  ·cases hc
 ·cases hc
theorem ar9 {P:Program} {f:FuncId} {args:ak} {mu:aK} {ax:ak} {F:aY args.aX->Option (aY ax.aX)} (h:v9 P f (au.M ⟨f,args,mu,ax,F⟩)/\bS P f=true):dh P f (au.M ⟨f,args,[],ax,F⟩)/\bS P f=true:=
 ⟨v9.pure h.1,h.2⟩
theorem abt {X Y:Type} {f:X->Option (X⊕Y)} {r:Y} (P:Nat->X->Prop) (step:∀n x,P n x->f x=some (.inr r)\/∃m x',m<n/\f x=some (.inl x')/\P m x'):
  ∀n x,P n x->∀N,n<N->cq N f x=some r:=by
 intro n;induction n using Nat.strongRecOn with
 |ind n ih=>
  intro x hP N hN;cases N with
  |zero=>omega
  |succ N=>
   rcases step n x hP with h|⟨m,x',hm,h,hP'⟩
   ·simp only[cq,h]
   ·simp only[cq,h];exact ih m hm x' hP' N (by omega)
theorem dn {α:Type} (xs:List α) (i:Nat):dm xs (i:Int)=xs[i]? :=by simp[dm]
theorem Oi {n:Int} (h1: -9223372036854775808<=n) (h2:n<=9223372036854775807):IntKind.wrap .i64 n=n:=by rw[IntKind.wrap_i64];omega
theorem fe {a b:Int} (h1: -9223372036854775808<=a+b) (h2:a+b<=9223372036854775807):cR .i64 a b=a+b:=Oi h1 h2
theorem s7 {a b:Int} (h1: -9223372036854775808<=a - b) (h2:a - b<=9223372036854775807):kf .i64 a b=a - b:=Oi h1 h2
theorem bk {α β:Type} (x:α) (f:α->Option β):(some x).ae f=f x:=rfl
theorem mO {X ρ:Type} (x:X) (k:X->Option ρ):bT (some (.inl x)) k=k x:=rfl
theorem L5 {X ρ:Type} (x:ρ) (k:X->Option ρ):bT (some (.inr x):Option (X⊕ρ)) k=some x:=rfl
theorem ba {α:Type} {b:Bool} (h:b=true) (x y:α):aw b x y=x:=by rw[h];rfl
theorem be {α:Type} {b:Bool} (h:b=false) (x y:α):aw b x y=y:=by rw[h];rfl
theorem nl {α:Type} (l:List α):aA (aa l)=(l.length:Int):=rfl
theorem d6 {a b:Int} (h:a<b):bG a b=true:=decide_eq_true h
theorem eO {a b:Int} (h:b<=a):bG a b=false:=decide_eq_false (Int.not_lt.2 h)
theorem sI {a b:Int} (h:a<=b):jr a b=true:=decide_eq_true h
theorem Bx {a b:Int} (h:b<a):jr a b=false:=decide_eq_false (Int.not_le.2 h)
theorem r6 {a b:Int} (h:a=b):dJ a b=true:=by simp[dJ,h]
theorem r5 {a b:Int} (h:a≠b):dJ a b=false:=by simp[dJ,h]
theorem rr {a b:Int} (h:a≠b):fL a b=true:=by simp[fL,h]
theorem ov {a b:Int} (h:a=b):fL a b=false:=by simp[fL,h]
theorem HX {p:Prop} [Decidable p] (h:¬p):cZ (decide p)=true:=by simp[cZ,h]
theorem BF {p:Prop} [Decidable p] (h:p):cZ (decide p)=false:=by simp[cZ,h]
theorem bM (n:Nat):bn 0 n n=some ():=by simp[bn]
theorem iy {α:Type} (xs:List α):dN xs (aa xs)=some xs:=by simp[dN,aa]
theorem lP {α:Type} (xs:List α):cr xs 0 (aa xs)=some xs:=by simp[cr,aa]
theorem qh {n by_:Nat} (h:n*by_<=dX):lc (aA n) (aA n) by_=some n:=by simp[lc,aA,h]
theorem lU {i n:Nat} (h:i<n):eY (i:Int) n=some i:=by simp[eY];omega
theorem ew {n:Nat} (h:n<18446744073709551616):n<aP:=h
theorem drop_cons {α:Type} {xs:List α} {i:Nat} {x:α} (h:xs[i]? =some x):xs.drop i=x::xs.drop (i+1):=by
 obtain⟨h1,h2⟩:=List.getElem?_eq_some_iff.1 h;rw[List.drop_eq_getElem_cons h1,h2]
theorem abr {X Y:Type} {f:X->Option (X⊕Y)} (st:Nat->X) {r:Y}:∀(n i:Nat),(∀j,i<=j->j<i+n->f (st j)=some (.inl (st (j+1))))->f (st (i+n))=some (.inr r)->∀N,n<N->cq N f (st i)=some r
 |0,i,_,h2,N+1,_=>by
  have h2:f (st i)=some (.inr r):=h2;simp only[cq,h2]
 |n+1,i,h1,h2,N+1,hN=>by
  simp only[cq,h1 i (Nat.le_refl i) (by omega)];exact abr st n (i+1) (fun j h3 h4=>h1 j (by omega) (by omega)) (by rw[show i+1+n=i+(n+1) by omega];exact h2) N (by omega)
 |_,_,_,_,0,h=>by omega
theorem fF {X Y:Type} {f:X->Option (X⊕Y)} (st:Nat->X) {r:Y} (n:Nat) (h1:∀j,j<n->f (st j)=some (.inl (st (j+1)))) (h2:f (st n)=some (.inr r)) {x0:X} (h0:x0=st 0) {N:Nat} (hN:n<N):cq N f x0=some r:=by
 subst h0;exact abr st n 0 (fun j _ h=>h1 j (by omega)) (by rw[Nat.zero_add];exact h2) N hN
theorem Ep {X Y α:Type} {f:X->Option (X⊕Y)} (es:List α) (mk:Nat->X) (p:α->Bool) (tr eG:Y)
  (h1:∀i a,es[i]? =some a->p a=true->f (mk i)=some (.inl (mk (i+1)))) (h2:∀i a,es[i]? =some a->p a=false->f (mk i)=some (.inr tr)) (h3:f (mk es.length)=some (.inr eG)) {x0:X} (h0:x0=mk 0) {N:Nat} (hN:es.length<N):
  cq N f x0=some (if es.all p=true then eG else tr):=by
 subst h0;have cW:∀(k:Nat) (i:Nat),i+k=es.length->∀N,k<N->cq N f (mk i)=some (if(es.drop i).all p=true then eG else tr):=by
  intro k;induction k with
  |zero=>
   intro i hi N hN;obtain⟨N,rfl⟩:∃M,N=M+1:=⟨N - 1,by omega⟩;have:i=es.length:=by omega
   subst this;simp only[cq,h3,List.drop_length,List.all_nil,if_true]
  |succ k ih=>
   intro i hi N hN;obtain⟨N,rfl⟩:∃M,N=M+1:=⟨N - 1,by omega⟩;obtain⟨a,ha⟩:∃a,es[i]? =some a:=⟨_,List.getElem?_eq_getElem (by omega)⟩;rw[drop_cons ha];cases hp:p a with
   |true=>
    simp only[cq,h1 i a ha hp,List.all_cons,hp,Bool.true_and];exact ih (i+1) (by omega) N (by omega)
   |false=>simp only[cq,h2 i a ha hp,List.all_cons,hp,Bool.false_and,Bool.false_eq_true,if_false]
 exact cW es.length 0 (by omega) N hN
def nd {S α:Type} (step:Nat->S->α->Option S):Nat->S->List α->Option S
 |_,s,[]=>some s
 |i,s,a::as=>match step i s a with
  |some s'=>nd step (i+1) s' as
  |none=>none
theorem Td {X Y α S:Type} {f:X->Option (X⊕Y)} (es:List α) (mk:S->Nat->X) (I:Nat->S->Prop) (step:Nat->S->α->Option S) (tr:Y) (eG:S->Y)
  (h1:∀i s a s',es[i]? =some a->I i s->step i s a=some s'->f (mk s i)=some (.inl (mk s' (i+1)))/\I (i+1) s')
  (h2:∀i s a,es[i]? =some a->I i s->step i s a=none->f (mk s i)=some (.inr tr))
  (h3:∀s,I es.length s->f (mk s es.length)=some (.inr (eG s))) {s:S} (h0:I 0 s) {x0:X} (hx:x0=mk s 0) {N:Nat} (hN:es.length<N):
  cq N f x0=some (match nd step 0 s es with|some s'=>eG s'|none=>tr):=by
 subst hx;have cW:∀(k:Nat) (i:Nat) (s:S),I i s->i+k=es.length->∀N,k<N->cq N f (mk s i)=some (match nd step i s (es.drop i) with|some s'=>eG s'|none=>tr):=by
  intro k;induction k with
  |zero=>
   intro i s hs hi N hN;obtain⟨N,rfl⟩:∃M,N=M+1:=⟨N - 1,by omega⟩;have:i=es.length:=by omega
   subst this;simp only[cq,h3 s hs,List.drop_length,nd]
  |succ k ih=>
   intro i s hs hi N hN;obtain⟨N,rfl⟩:∃M,N=M+1:=⟨N - 1,by omega⟩;obtain⟨a,ha⟩:∃a,es[i]? =some a:=⟨_,List.getElem?_eq_getElem (by omega)⟩;rw[drop_cons ha];cases hp:step i s a with
   |some s'=>
    obtain⟨h4,h5⟩:=h1 i s a s' ha hs hp;simp only[cq,h4,nd,hp];exact ih (i+1) s' h5 (by omega) N (by omega)
   |none=>simp only[cq,h2 i s a ha hs hp,nd,hp]
 exact cW es.length 0 s h0 (by omega) N hN
def uS {S α:Type} (step:Nat->S->α->S):Nat->S->List α->S
 |_,s,[]=>s
 |i,s,a::as=>uS step (i+1) (step i s a) as
theorem anZ {X Y α S:Type} {f:X->Option (X⊕Y)} (es:List α) (mk:S->Nat->X) (I:Nat->S->Prop) (step:Nat->S->α->S) (eG:S->Y)
  (h1:∀i s a,es[i]? =some a->I i s->f (mk s i)=some (.inl (mk (step i s a) (i+1)))/\I (i+1) (step i s a))
  (h3:∀s,I es.length s->f (mk s es.length)=some (.inr (eG s))) {s:S} (h0:I 0 s) {x0:X} (hx:x0=mk s 0) {N:Nat} (hN:es.length<N):
  cq N f x0=some (eG (uS step 0 s es)):=by
 subst hx;have cW:∀(k:Nat) (i:Nat) (s:S),I i s->i+k=es.length->∀N,k<N->cq N f (mk s i)=some (eG (uS step i s (es.drop i))):=by
  intro k;induction k with
  |zero=>
   intro i s hs hi N hN;obtain⟨N,rfl⟩:∃M,N=M+1:=⟨N - 1,by omega⟩;have:i=es.length:=by omega
   subst this;simp only[cq,h3 s hs,List.drop_length,uS]
  |succ k ih=>
   intro i s hs hi N hN;obtain⟨N,rfl⟩:∃M,N=M+1:=⟨N - 1,by omega⟩;obtain⟨a,ha⟩:∃a,es[i]? =some a:=⟨_,List.getElem?_eq_getElem (by omega)⟩;rw[drop_cons ha];obtain⟨h4,h5⟩:=h1 i s a ha hs;simp only[cq,h4,uS];exact ih (i+1) _ h5 (by omega) N (by omega)
 exact cW es.length 0 s h0 (by omega) N hN
theorem kB {α:Type} {es:List α} {i:Nat} {a:α} (h:es[i]? =some a):bG (i:Int) (aA (aa es))=true:=by
 have:=(List.getElem?_eq_some_iff.1 h).1;exact d6 (by have:=nl es;omega)
theorem g9 {α:Type} (es:List α):bG ((es.length:Nat):Int) (aA (aa es))=false:=eO (by have:=nl es;omega)
theorem nC {α:Type} {es:List α} {i:Nat} {a:α} (h:es[i]? =some a) (hl:es.length<=9223372036854775807):cR .i64 (i:Int) 1=((i+1:Nat):Int):=by
 have:=(List.getElem?_eq_some_iff.1 h).1;rw[fe (by omega) (by omega)];omega
theorem Es {α:Type} {es:List α} {i:Nat} {a:α} (h:es[i]? =some a):i<es.length:=(List.getElem?_eq_some_iff.1 h).1
theorem auu (n:Int) (auL:0<=n) (auM:n<2^63):IntKind.i64.wrap n=n:=by rw[IntKind.wrap_i64];omega
theorem atk {k:Nat} (hk:k<63):zI .i64 1 (k:Int)=some ((2^k:Nat):Int):=by
 unfold zI;rw[if_neg (by omega)];congr 1;rw[Int.toNat_natCast,show min k (IntKind.bits .i64)=k from Nat.min_eq_left (by simp[IntKind.bits];omega),Int.one_mul]
 have:(2:Int)^k=((2^k:Nat):Int):=by norm_cast
 rw[this];refine auu _ (Int.natCast_nonneg _) ?_;have:=Nat.pow_lt_pow_right (a:=2) (by decide) hk
 exact_mod_cast this
theorem rp {z:Int} (h:0<=z):∃n:Nat,z=(n:Int):=⟨z.toNat,by omega⟩
theorem zn {α:Type} (l:List α) (k:Nat) (x:α):aa (cg l k x)=aa l:=by simp[aa,cg]
theorem qf {α:Type} (n:Nat) (x:α):aa (dG n x)=n:=by simp[aa,dG]
theorem lA {n k:Nat} (h:n*k<=dX):ku n k=some ():=if_pos h
theorem gd (k:Nat):aI 0 k=k:=by simp[aI]
theorem Db {α:Type} {l:List α} {i:Nat} {a:α} (h:l[i]? =some a):eY (i:Int) (aa l)=some i:=lU (Es h)
theorem an7 (a b:Int):Et a b=min a b:=by unfold Et;split<;>omega
theorem MC (a b:Int):fL a b= !decide (a=b):=by by_cases h:a=b<;>simp[fL,h]
theorem S4 {n:Nat}:∀{l:List Nat},n∈l->n<=l.sum
 |[],h=>by cases h
 |a::l,h=>by
  rw[List.sum_cons];rcases List.mem_cons.1 h with rfl|h
  ·omega
  ·have:=S4 h;omega
def gB (s:Nat) (k:Int):Int:=if(s:Int)<=k then k - s else -1
theorem NW {s:Nat} {k:Int} (h:(s:Int)<=k):gB s k=k - s:=if_pos h
theorem Cb {s:Nat} {k:Int} (h:¬(s:Int)<=k):gB s k= -1:=if_neg h
def vu (k:Int):Prop:=0<=k/\k<=1048576
instance (k:Int):Decidable (vu k):=inferInstanceAs (Decidable (0<=k/\k<=1048576))
theorem Fj {o:Option Int} {s:Nat} {k:Int} {f:Int->Option Int} (ho:o=some (gB s k)):o.ae (fun i=>aw (bG i 0) (some (-1)) (f i))=if(s:Int)<=k then f (k - s) else some (-1):=by
 rw[ho,bk];unfold gB;by_cases h:(s:Int)<=k
 ·rw[if_pos h,if_pos h,be (eO (by omega))]
 ·rw[if_neg h,if_neg h,ba (d6 (by omega))]
theorem agD {α:Type} (sz:α->Nat):∀(l:List α) (i:Nat) (k:Int),0<=k->(match nd (fun _ (k:Int) e=>if(sz e:Int)<=k then some (k - sz e) else none) i k l with|some k'=>k'|none=> -1)=gB (l.map sz).sum k
 |[],i,k,hk=>by simp[nd,gB,hk]
 |e::l,i,k,hk=>by
  rw[nd];by_cases h:(sz e:Int)<=k
  ·rw[if_pos h];simp only
   rw[agD sz l (i+1) (k - sz e) (by omega)];simp only[gB,List.map_cons,List.sum_cons];by_cases h2:((l.map sz).sum:Int)<=k - sz e
   ·rw[if_pos h2,if_pos (by omega)];omega
   ·rw[if_neg h2,if_neg (by omega)]
  ·rw[if_neg h];simp only[gB,List.map_cons,List.sum_cons];rw[if_neg (by omega)]
theorem agE {α:Type} (F:α×Int->Option Int) (sz:α->Nat) (l:List α) (hl:l.length<=9223372036854775807) (hF:∀e∈l,∀k,vu k->F (e,k)=some (gB (sz e) k)) (k:Int) (hk:vu k):
  aw (bG (kf .i64 k (aA (aa l))) 0) (some (-1)) (bT (cq aP (fun(s:List α×Int×Int)=>aw (bG s.2.2 (aA (aa s.1))) ((dm s.1 s.2.2).ae fun e=>(F (e,s.2.1)).ae fun i=>aw (bG i 0) (some (.inr (.inr (-1)))) (some (.inl (s.1,i,cR .i64 s.2.2 1)))) (some (.inr (.inl s.2.1)))) (l,kf .i64 k (aA (aa l)),0)) (fun i=>some i))=some (gB (l.length+(l.map sz).sum) k):=by
 obtain⟨k0,k1⟩:=hk;have hn:=nl l;rw[s7 (by omega) (by omega)];by_cases h:k<l.length
 ·rw[ba (d6 (by omega)),gB,if_neg (by omega)]
 rw[be (eO (by omega))];rw[Td l (fun(r:Int) i=>(l,r,(i:Int))) (fun _ r=>vu r) (fun _ (k:Int) e=>if(sz e:Int)<=k then some (k - sz e) else none) (Sum.inr (-1)) (fun r=>Sum.inl r) ?_ ?_ ?_ (s:=k - aA (aa l)) ⟨by omega,by omega⟩ ?_ (ew (by omega))]
 ·have:=agD sz l 0 (k - aA (aa l)) (by omega);have e:gB (l.length+(l.map sz).sum) k=gB (l.map sz).sum (k - aA (aa l)):=by
   simp only[gB];by_cases h2:((l.map sz).sum:Int)<=k - aA (aa l)
   ·rw[if_pos h2,if_pos (by omega)];omega
   ·rw[if_neg h2,if_neg (by omega)]
  rw[e,<-this];cases nd (fun _ (k:Int) e=>if(sz e:Int)<=k then some (k - sz e) else none) 0 (k - aA (aa l)) l<;>rfl
 ·intro i r e r' ha hr hs;split at hs
  ·rename_i gG;injection hs with hs;subst hs;simp only
   rw[ba (kB ha),dn,ha,bk,hF e (List.mem_of_getElem? ha) r hr,bk,gB,if_pos gG,be (eO (by omega)),nC ha (by omega)];exact⟨rfl,by have:=hr.1;have:=hr.2;constructor<;>omega⟩
  ·cases hs
 ·intro i r e ha hr hs;split at hs
  ·cases hs
  ·rename_i gG;simp only
   rw[ba (kB ha),dn,ha,bk,hF e (List.mem_of_getElem? ha) r hr,bk,gB,if_neg gG,ba (d6 (by omega))]
 ·intro r _;simp only
  rw[be (g9 l)]
 ·rfl
def wE {α:Type} (z:α) (l:List α) (i:Nat):List α:=l.take i++List.replicate (l.length - i) z
theorem QJ {α Y:Type} {f:(List α×Int)×List α->Option (((List α×Int)×List α)⊕Y)} (l:List α) (z:α) {r:Y}
  (h1:∀(i:Nat) e ys,l[i]? =some e->ys.length=l.length->ys[i]? =some z->f ((l,(i:Int)),ys)=some (.inl ((l,((i+1:Nat):Int)),ys.set i e)))
  (h2:f ((l,(l.length:Int)),l)=some (.inr r)) (hl:l.length<18446744073709551616):cq aP f ((l,0),dG (aa l) z)=some r:=by
 refine fF (fun i=>((l,(i:Int)),wE z l i)) l.length ?_ ?_ ?_ (ew hl)
 ·intro j hj;obtain⟨e,he⟩:∃e,l[j]? =some e:=⟨_,List.getElem?_eq_getElem hj⟩;rw[h1 j e _ he (by simp[wE];omega)]
  ·have:(wE z l j).set j e=wE z l (j+1):=by
    unfold wE;rw[List.set_append_right _ _ (by simp;omega),List.take_add_one,he,show l.length - j=(l.length - (j+1))+1 by omega,List.replicate_succ];simp only[List.length_take,show j - min j l.length=0 by omega,List.set_cons_zero,Option.toList_some,List.append_assoc,List.cons_append,List.nil_append]
   rw[this]
  ·unfold wE;rw[List.getElem?_append_right (by simp;omega)];simp only[List.length_take,show j - min j l.length=0 by omega];rw[List.getElem?_replicate,if_pos (by omega)]
 ·have:wE z l l.length=l:=by simp[wE]
  rw[this];exact h2
 ·simp[wE,dG,aa]
theorem Qy {α:Type} [DecidableEq α] (E:α×α->Option Bool) (l r:List α) (hE:∀a∈l,∀b,E (a,b)=some (decide (a=b))) (hl:l.length<=4611686018427387904):
  aw (fL (aA (aa l)) (aA (aa r))) (some false) (bT (cq aP (fun s:List α×List α×Int=>aw (bG s.2.2 (aA (aa s.1))) ((dm s.1 s.2.2).ae fun a=>(dm s.2.1 s.2.2).ae fun b=>(E (a,b)).ae fun c=>aw (cZ c) (some (.inr (.inr false))) (some (.inl (s.1,s.2.1,cR .i64 s.2.2 1)))) (some (.inr (.inl ())))) (l,r,0)) fun _=>some true)=some (decide (l=r)):=by
 by_cases Lu:l.length=r.length
 ·rw[be (ov (by have:=nl l;have:=nl r;omega))];have hz:(l.zip r).length=l.length:=by simp;omega
  rw[Ep (l.zip r) (fun i=>(l,r,(i:Int))) (fun p=>decide (p.1=p.2)) (Sum.inr false) (Sum.inl ()) ?_ ?_ ?_ ?_ (ew (by omega))]
  ·have:((l.zip r).all fun p=>decide (p.1=p.2))=decide (l=r):=by
    clear hE hl hz;induction l generalizing r with
    |nil=>cases r with
     |nil=>rfl
     |cons b r=>cases Lu
    |cons a l ih=>cases r with
     |nil=>cases Lu
     |cons b r=>
      simp only[List.zip_cons_cons,List.all_cons];rw[ih r (by simpa using Lu)];simp only[List.cons.injEq,Bool.decide_and]
   rw[this];by_cases h:l=r<;>simp[h,bT]
  ·rintro i ⟨a,b⟩ ha hp;obtain⟨h1,h2⟩:=List.getElem?_zip_eq_some.1 ha;simp only at h1 h2 hp⊢;rw[ba (kB h1),dn,h1,bk,dn,h2,bk,hE a (List.mem_of_getElem? h1),bk,be (by rw[hp];rfl),nC h1 (by omega)]
  ·rintro i ⟨a,b⟩ ha hp;obtain⟨h1,h2⟩:=List.getElem?_zip_eq_some.1 ha;simp only at h1 h2 hp⊢;rw[ba (kB h1),dn,h1,bk,dn,h2,bk,hE a (List.mem_of_getElem? h1),bk,ba (by rw[hp];rfl)]
  ·simp only
   rw[hz,be (g9 l)]
  ·rfl
 ·rw[ba (rr (by have:=nl l;have:=nl r;omega)),decide_eq_false (fun h=>Lu (by rw[h]))]
theorem aiG (l r:J) (hl:l.length<=4611686018427387904):
  aw (fL (aA (aa l)) (aA (aa r))) (some false) (bT (cq aP (fun s:J×J×Int=>aw (bG s.2.2 (aA (aa s.1))) ((dm s.1 s.2.2).ae fun a=>(dm s.2.1 s.2.2).ae fun b=>aw (fL a b) (some (.inr (.inr false))) (some (.inl (s.1,s.2.1,cR .i64 s.2.2 1)))) (some (.inr (.inl ())))) (l,r,0)) fun _=>some true)=some (decide (l=r)):=by
 have:=Qy (fun p:Int×Int=>some (decide (p.1=p.2))) l r (fun _ _ _=>rfl) hl;refine Eq.trans ?_ this;congr 3
def hH {α:Type} (cF:α->Nat) (mk:α->Int->α):List α->Int->List α
 |[],_=>[]
 |e::l,k=>mk e k::hH cF mk l (k+cF e)
def iS {α:Type} (cF:α->Nat) (l:List α):Nat:=(l.map cF).sum
theorem aia {α:Type} (cF:α->Nat):iS cF []=0:=rfl
theorem KD {α:Type} (cF:α->Nat) (e:α) (l:List α):iS cF (e::l)=cF e+iS cF l:=by simp[iS]
theorem ah9 {α:Type} (cF:α->Nat) (l r:List α):iS cF (l++r)=iS cF l+iS cF r:=by simp[iS]
theorem Ev {α:Type} (cF:α->Nat) (mk:α->Int->α):∀(l:List α) (k:Int),(hH cF mk l k).length=l.length
 |[],_=>rfl
 |e::l,k=>by simp[hH,Ev cF mk l]
theorem abD {α:Type} (cF:α->Nat) (mk:α->Int->α):∀(l r:List α) (k:Int),hH cF mk (l++r) k=hH cF mk l k++hH cF mk r (k+iS cF l)
 |[],r,k=>by simp[hH,iS]
 |e::l,r,k=>by
  simp only[List.cons_append,hH,abD cF mk l r,KD];rw[show k+(cF e:Int)+(iS cF l:Nat)=k+((cF e+iS cF l:Nat):Int) by omega]
theorem V9 {α:Type} (cF:α->Nat) (mk:α->Int->α) (f:α->Nat) (hf:∀e k,f (mk e k)=f e):∀(l:List α) (k:Int),((hH cF mk l k).map f).sum=(l.map f).sum
 |[],_=>rfl
 |e::l,k=>by simp[hH,hf,V9 cF mk f hf l]
theorem abE {α:Type} (cF:α->Nat) (mk:α->Int->α) (hc:∀e k,cF (mk e k)=cF e) (hm:∀e k,mk (mk e k) k=mk e k):∀(l:List α) (k:Int),hH cF mk (hH cF mk l k) k=hH cF mk l k
 |[],_=>rfl
 |e::l,k=>by simp only[hH,hm,hc,abE cF mk hc hm l]
theorem Ge {α:Type} (cF sz:α->Nat) (hc:∀e,cF e<=4*(1+sz e)):∀l:List α,iS cF l<=4*(l.length+(l.map sz).sum)
 |[]=>by simp[iS]
 |e::l=>by
  have:=Ge cF sz hc l;have:=hc e;simp only[KD,List.length_cons,List.map_cons,List.sum_cons];omega
theorem Tj {α Y:Type} {f:(Int×Int)×List α->Option (((Int×Int)×List α)⊕Y)} (l:List α) (cF sz:α->Nat) (mk:α->Int->α) (k:Int) {r:Y} (hc:∀e,cF e<=4*(1+sz e))
  (hk:0<=k) (hb:k+4*(l.length+(l.map sz).sum:Nat)<=1099511627776)
  (h1:∀(i:Nat) e ys (k':Int),l[i]? =some e->ys.length=l.length->ys[i]? =some e->0<=k'->k'+4*(1+sz e:Nat)<=1099511627776->f ((k',(i:Int)),ys)=some (.inl ((k'+cF e,((i+1:Nat):Int)),ys.set i (mk e k'))))
  (h2:f ((k+iS cF l,(l.length:Int)),hH cF mk l k)=some (.inr r)):cq aP f ((k,0),l)=some r:=by
 refine fF (fun i=>((k+(iS cF (l.take i):Nat),(i:Int)),hH cF mk (l.take i) k++l.drop i)) l.length ?_ ?_ ?_ (ew (by omega))
 ·intro j hj;obtain⟨e,he⟩:∃e,l[j]? =some e:=⟨_,List.getElem?_eq_getElem hj⟩;have hlen:(hH cF mk (l.take j) k).length=j:=by rw[Ev,List.length_take];omega
  have auJ:(l.map sz).sum=((l.take j).map sz).sum+(sz e+((l.drop (j+1)).map sz).sum):=by
   conv=>lhs;rw[<-List.take_append_drop j l,drop_cons he]
   rw[List.map_append,List.sum_append,List.map_cons,List.sum_cons]
  have hct:=Ge cF sz hc (l.take j);rw[List.length_take] at hct;rw[h1 j e _ _ he (by rw[List.length_append,hlen,List.length_drop];omega) (by rw[List.getElem?_append_right (by omega),hlen,Nat.sub_self,List.getElem?_drop];simpa using he) (by omega) (by omega)];have e1:l.take (j+1)=l.take j++[e]:=by rw[List.take_add_one,he];rfl
  have e2:(hH cF mk (l.take j) k++l.drop j).set j (mk e (k+(iS cF (l.take j):Nat)))=hH cF mk (l.take (j+1)) k++l.drop (j+1):=by
   rw[e1,abD,drop_cons he,List.set_append_right _ _ (by omega),hlen,Nat.sub_self,List.set_cons_zero,List.append_assoc];rfl
  rw[e2,e1,ah9,KD,aia,show k+(iS cF (l.take j):Nat)+(cF e:Nat)=k+((iS cF (l.take j)+(cF e+0):Nat):Int) by omega]
 ·simp only[List.take_length,List.drop_length,List.append_nil];exact h2
 ·simp[iS,hH]
theorem aao {α:Type} [DecidableEq α] (cF:α->Nat) (mk:α->Int->α):∀(l:List α) (i:Nat) (k:Int),
  nd (fun _ (k:Int) e=>if e=mk e k then some (k+(cF e:Int)) else none) i k l=if l=hH cF mk l k then some (k+(iS cF l:Int)) else none
 |[],i,k=>by simp[nd,hH,iS]
 |e::l,i,k=>by
  simp only[nd,hH,KD];by_cases h:e=mk e k
  ·rw[if_pos h];simp only
   rw[aao cF mk l];by_cases h2:l=hH cF mk l (k+cF e)
   ·rw[if_pos h2,if_pos (by rw[<-h,<-h2])];congr 1;omega
   ·rw[if_neg h2,if_neg (fun h3=>h2 (List.cons.inj h3).2)]
  ·rw[if_neg h,if_neg (fun h3=>h (List.cons.inj h3).1)]
theorem ak5 {α:Type} [DecidableEq α] {f:List α×Int×Int->Option ((List α×Int×Int)⊕(Int⊕Int))} (l:List α) (cF sz:α->Nat) (mk:α->Int->α) (k:Int) (hc:∀e,cF e<=4*(1+sz e))
  (hk:0<=k) (hb:k+4*(l.length+(l.map sz).sum:Nat)<=1099511627776)
  (h1:∀(i:Nat) e (k':Int),l[i]? =some e->0<=k'->k'+4*(1+sz e:Nat)<=1099511627776->f (l,k',(i:Int))=if e=mk e k' then some (.inl (l,k'+(cF e:Int),((i+1:Nat):Int))) else some (.inr (.inr (-1))))
  (h2:∀k',f (l,k',(l.length:Int))=some (.inr (.inl k'))):cq aP f (l,k,0)=some (if l=hH cF mk l k then .inl (k+(iS cF l:Int)) else .inr (-1)):=by
 rw[Td l (fun(k:Int) i=>(l,k,(i:Int))) (fun i k'=>0<=k'/\k'+4*((l.drop i).length+((l.drop i).map sz).sum:Nat)<=1099511627776) (fun _ (k:Int) e=>if e=mk e k then some (k+(cF e:Int)) else none) (Sum.inr (-1)) (fun k=>Sum.inl k) ?_ ?_ ?_ (s:=k) ⟨hk,by simpa using hb⟩ ?_ (ew (by omega))]
 ·rw[aao];by_cases h:l=hH cF mk l k
  ·rw[if_pos h,if_pos h]
  ·rw[if_neg h,if_neg h]
 ·intro i k' e s' he hI hs;rw[drop_cons he] at hI;simp only[List.length_cons,List.map_cons,List.sum_cons] at hI;split at hs
  ·rename_i hm;injection hs with hs;subst hs;have hce:=hc e;exact⟨by rw[h1 i e k' he hI.1 (by omega),if_pos hm],by omega,by omega⟩
  ·cases hs
 ·intro i k' e he hI hs;rw[drop_cons he] at hI;simp only[List.length_cons,List.map_cons,List.sum_cons] at hI;split at hs
  ·cases hs
  ·rename_i hm;rw[h1 i e k' he hI.1 (by omega),if_neg hm]
 ·intro k' _;exact h2 k'
 ·rfl
theorem Ru {o:Option Int} {p:Prop} [Decidable p] {k:Int} {Y:Type} {f:Int->Option Y} {y:Option Y} (hk:0<=k) (ho:o=some (if p then k else -1)):
  o.ae (fun i=>aw (bG i 0) y (f i))=if p then f k else y:=by
 rw[ho,bk];by_cases h:p
 ·rw[if_pos h,if_pos h,be (eO hk)]
 ·rw[if_neg h,if_neg h,ba (d6 (by omega))]
theorem agw {α:Type}:∀l:List α,(l.map fun _=>0).sum=0
 |[]=>rfl
 |_::l=>by simp[agw l]
theorem Wc {o:Option Int} {s:Nat} {k:Int} {f:Int->Option Bool} (ho:o=some (gB s k)):o.ae (fun i=>aw (bG i 0) (some true) (f i))=if(s:Int)<=k then f (k - s) else some true:=by
 rw[ho,bk];unfold gB;by_cases h:(s:Int)<=k
 ·rw[if_pos h,if_pos h,be (eO (by omega))]
 ·rw[if_neg h,if_neg h,ba (d6 (by omega))]
theorem aqz (b:Bool):HP b b=false:=by cases b<;>rfl
theorem aqA (a:Int):fL a a=false:=ov rfl
theorem ac5:cZ true=false:=rfl
theorem WC {α:Type} {xs:List α} {n:Nat} (h:xs.length=n):cr xs 0 n=some xs:=by subst h;exact lP xs
theorem xL {a b:Nat} (h:a=b):kE a b=some ():=if_pos h
theorem uU {n m:Nat} (h:n=m):bn 0 n m=some ():=by subst h;exact bM n
theorem akO {α:Type} {l:List α} {i:Nat} {a b:α} (h:l[i]? =some a):(l.set i b)[i]? =some b:=List.getElem?_set_self (Es h)
theorem Ld {α:Type} {l:List α} {i:Nat} {a b:α} (h:l[i]? =some a):cK (cg l i b) i=some b:=akO h
theorem VE {α:Type} (l:List α) (i:Nat) (a b:α):cg (cg l i a) i b=cg l i b:=by simp[cg,List.set_set]
def cU (l:J):Nat:=l.length
def nF (l:J):Bool:=decide (l.length<=9223372036854775807)
def pH:J×Int->Option Int:=fun((x,k):J×Int)=>if vu k/\nF x=true then some (gB (cU x) k) else none
def rN:J->Option J:=fun(x:J)=>if cU x<=1048576 then some x else none
def rM:J×J->Option Bool:=fun((x,y):J×J)=>if cU x<=1048576 then some (decide (x=y)) else none
def pz (l:List J):Nat:=l.length+(l.map cU).sum
def Fw (l:List J):Bool:=decide (l.length<=9223372036854775807)&&l.all nF
def CD:(List J)×Int->Option Int:=fun((x,k):(List J)×Int)=>if vu k/\Fw x=true then some (gB (pz x) k) else none
def CF:(List J)->Option (List J):=fun(x:List J)=>if pz x<=1048576 then some x else none
def Cv:(List J)×(List J)->Option Bool:=fun((x,y):(List J)×(List J))=>if pz x<=1048576 then some (decide (x=y)) else none
def f9 (x:J×J×J):Nat:=match x with|(a0,a1,a2)=>cU a0+cU a1+cU a2
def Fx (x:J×J×J):Bool:=match x with|(a0,a1,a2)=>nF a0&&nF a1&&nF a2
def x7:(J×J×J)×Int->Option Int:=fun((x,k):(J×J×J)×Int)=>if vu k/\Fx x=true then some (gB (f9 x) k) else none
def rO:(J×J×J)->Option (J×J×J):=fun(x:J×J×J)=>if f9 x<=1048576 then some x else none
def pG:(J×J×J)×(J×J×J)->Option Bool:=fun((x,y):(J×J×J)×(J×J×J))=>if f9 x<=1048576 then some (decide (x=y)) else none
def lg (x:Int×(List J)):Nat:=match x with|(a0,a1)=>pz a1
def IW (x:Int×(List J)):Bool:=match x with|(a0,a1)=>Fw a1
def CC:(Int×(List J))×Int->Option Int:=fun((x,k):(Int×(List J))×Int)=>if vu k/\IW x=true then some (gB (lg x) k) else none
def uq:(Int×(List J))->Option (Int×(List J)):=fun(x:Int×(List J))=>if lg x<=1048576 then some x else none
def x5:(Int×(List J))×(Int×(List J))->Option Bool:=fun((x,y):(Int×(List J))×(Int×(List J)))=>if lg x<=1048576 then some (decide (x=y)) else none
def aW (l:J):Nat:=iS (fun _=>1) l
def cY (l:J) (k:Int):J:=hH (fun _=>1) (fun _ k=>k) l k
def lx:J×Int->Option (Int×J):=fun((x,k):J×Int)=>if 0<=k/\k+4*(cU x:Nat)<=1099511627776 then some (k+(aW x:Nat),cY x k) else none
def ul:J×Int->Option Int:=fun((x,k):J×Int)=>if 0<=k/\k+4*(cU x:Nat)<=1099511627776 then some (if x=cY x k then k+(aW x:Nat) else -1) else none
def uM (l:List J):Nat:=iS aW l
def vG (l:List J) (k:Int):List J:=hH aW cY l k
def Cy:(List J)×Int->Option (Int×(List J)):=fun((x,k):(List J)×Int)=>if 0<=k/\k+4*(pz x:Nat)<=1099511627776 then some (k+(uM x:Nat),vG x k) else none
def Mr (x:J×J×J) (k:Int):J×J×J:=match x with|(a0,a1,a2)=>(cY a0 (k),cY a1 (k+(aW a0:Nat)),cY a2 (k+(aW a0:Nat)+(aW a1:Nat)))
def x6:(J×J×J)×Int->Option (Int×J×J×J):=fun(((a0,a1,a2),k):(J×J×J)×Int)=>if 0<=k/\k+4*(f9 (a0,a1,a2):Nat)<=1099511627776 then some (k+(aW a0:Nat)+(aW a1:Nat)+(aW a2:Nat),cY a0 (k),cY a1 (k+(aW a0:Nat)),cY a2 (k+(aW a0:Nat)+(aW a1:Nat))) else none
def vZ:(J×J×J)×Int->Option Int:=fun(((a0,a1,a2),k):(J×J×J)×Int)=>if 0<=k/\k+4*(f9 (a0,a1,a2):Nat)<=1099511627776 then some (if a0=cY a0 (k)/\a1=cY a1 (k+(aW a0:Nat))/\a2=cY a2 (k+(aW a0:Nat)+(aW a1:Nat)) then k+(aW a0:Nat)+(aW a1:Nat)+(aW a2:Nat) else -1) else none
def Cx:(Int×(List J))×Int->Option (Int×(List J)):=fun(((a0,a1),k):(Int×(List J))×Int)=>if 0<=k/\k+4*(lg (a0,a1):Nat)<=1099511627776 then some (k+(uM a1:Nat),vG a1 (k)) else none
def JJ:ak:=[(.one,[.list [.int .i64]]),(.one,[.int .i64])]
def UN:ak:=[(.one,[.int .i64])]
def aoL:aK:=[]
def JP:ak:=[(.one,[.list [.int .i64]])]
def UT:ak:=[(.one,[.list [.int .i64]])]
def aoR:aK:=[]
def Jw:ak:=[(.one,[.list [.int .i64]]),(.one,[.list [.int .i64]])]
def UA:ak:=[(.one,[.bool])]
def aoD:aK:=[]
def JK:ak:=[(.one,[.list [.list [.int .i64]]]),(.one,[.int .i64])]
def UO:ak:=[(.one,[.int .i64])]
def aoM:aK:=[]
def JQ:ak:=[(.one,[.list [.list [.int .i64]]])]
def UU:ak:=[(.one,[.list [.list [.int .i64]]])]
def aoS:aK:=[]
def Jx:ak:=[(.one,[.list [.list [.int .i64]]]),(.one,[.list [.list [.int .i64]]])]
def UB:ak:=[(.one,[.bool])]
def aoE:aK:=[]
def JL:ak:=[(.agg,[.list [.int .i64],.list [.int .i64],.list [.int .i64]]),(.one,[.int .i64])]
def UP:ak:=[(.one,[.int .i64])]
def aoN:aK:=[]
def JS:ak:=[(.agg,[.list [.int .i64],.list [.int .i64],.list [.int .i64]])]
def UX:ak:=[(.agg,[.list [.int .i64],.list [.int .i64],.list [.int .i64]])]
def aoU:aK:=[]
def Jy:ak:=[(.agg,[.list [.int .i64],.list [.int .i64],.list [.int .i64]]),(.agg,[.list [.int .i64],.list [.int .i64],.list [.int .i64]])]
def UC:ak:=[(.one,[.bool])]
def aoF:aK:=[]
def JI:ak:=[(.agg,[.int .i64,.list [.list [.int .i64]]]),(.one,[.int .i64])]
def UM:ak:=[(.one,[.int .i64])]
def aoK:aK:=[]
def JO:ak:=[(.agg,[.int .i64,.list [.list [.int .i64]]])]
def US:ak:=[(.agg,[.int .i64,.list [.list [.int .i64]]])]
def aoQ:aK:=[]
def Jv:ak:=[(.agg,[.int .i64,.list [.list [.int .i64]]]),(.agg,[.int .i64,.list [.list [.int .i64]]])]
def Uz:ak:=[(.one,[.bool])]
def aoC:aK:=[]
def JD:ak:=[(.one,[.list [.int .i64]]),(.one,[.int .i64])]
def UH:ak:=[(.one,[.int .i64]),(.one,[.list [.int .i64]])]
def Mx:aK:=[[some .aN]]
def JE:ak:=[(.one,[.list [.list [.int .i64]]]),(.one,[.int .i64])]
def UI:ak:=[(.one,[.int .i64]),(.one,[.list [.list [.int .i64]]])]
def My:aK:=[[some .live]]
def JF:ak:=[(.agg,[.list [.int .i64],.list [.int .i64],.list [.int .i64]]),(.one,[.int .i64])]
def UJ:ak:=[(.one,[.int .i64]),(.one,[.list [.int .i64]]),(.one,[.list [.int .i64]]),(.one,[.list [.int .i64]])]
def Mz:aK:=[[some .aN,some .aN,some .aN]]
def JC:ak:=[(.agg,[.int .i64,.list [.list [.int .i64]]]),(.one,[.int .i64])]
def UG:ak:=[(.one,[.int .i64]),(.one,[.list [.list [.int .i64]]])]
def Mw:aK:=[[none,some .live]]
def Jz:ak:=[(.one,[.list [.int .i64]]),(.one,[.int .i64])]
def UD:ak:=[(.one,[.int .i64])]
def aoG:aK:=[]
def JA:ak:=[(.agg,[.list [.int .i64],.list [.int .i64],.list [.int .i64]]),(.one,[.int .i64])]
def UE:ak:=[(.one,[.int .i64])]
def aoH:aK:=[]
def O3 (NN:Nat):(J×Int)->(Option Int):=
 (fun((l0,i1):(J×Int))=>
 aw (bG (kf .i64 i1 (aA (aa l0))) (0:Int))
 (some ((-1:Int)))
 (some (kf .i64 i1 (aA (aa l0)))))
def O8 (NN:Nat):J->(Option J):=
 (fun(l0:J)=>
 (lc (aA (aa l0)) (aA (aa l0)) 8).ae (fun k1=>
 bT ((bn 0 k1 (aa (dG k1 (0:Int)))).ae (fun _=>
 cq NN (fun(((l2,i3),l4):((J×Int)×J))=>
 aw (bG i3 (aA (aa l2)))
 ((dm l2 i3).ae (fun i5=>
 (eY i3 (aa l4)).ae (fun k6=>
 (cK l4 (aI 0 k6)).ae (fun i7=>
 (bn 0 (aa l4) (aa (cg l4 (aI 0 k6) i5))).ae (fun _=>
 some (Sum.inl ((l2,cR .i64 i3 1),cg l4 (aI 0 k6) i5)))))))
 ((ar l4 (
 some (Sum.inl l4))).ae (fun l8=>
 some (Sum.inr l8))))
 ((l0,(0:Int)),dG k1 (0:Int))))
 (fun l9=>
 (dN l9 (aa l9)).ae (fun e7=>
 some e7))))
def WQ (NN:Nat):(J×J)->(Option Bool):=
 (fun((l0,l1):(J×J))=>
 aw (fL (aA (aa l0)) (aA (aa l1)))
 (some false)
 (bT (cq NN (fun((l2,l3,i4):(J×(J×Int)))=>
 aw (bG i4 (aA (aa l2)))
 ((dm l2 i4).ae (fun i5=>
 (dm l3 i4).ae (fun i6=>
 aw (fL i5 i6)
 (some (Sum.inr (Sum.inr false)))
 (some (Sum.inl (l2,l3,cR .i64 i4 1))))))
 (some (Sum.inr (Sum.inl ()))))
 (l0,l1,(0:Int)))
 (fun _=>
 some true)))
def WT (NN:Nat):((List J)×Int)->(Option Int):=
 (fun((l0,i1):((List J)×Int))=>
 aw (bG (kf .i64 i1 (aA (aa l0))) (0:Int))
 (some ((-1:Int)))
 (bT (cq NN (fun((l2,i3,i4):((List J)×(Int×Int)))=>
 aw (bG i4 (aA (aa l2)))
 ((dm l2 i4).ae (fun l5=>
 (pH (l5,i3)).ae (fun i6=>
 aw (bG i6 (0:Int))
 (some (Sum.inr (Sum.inr ((-1:Int)))))
 (some (Sum.inl (l2,i6,cR .i64 i4 1))))))
 (some (Sum.inr (Sum.inl i3))))
 (l0,kf .i64 i1 (aA (aa l0)),(0:Int)))
 (fun i7=>
 some i7)))
def O9 (NN:Nat):(List J)->(Option (List J)):=
 (fun(l0:(List J))=>
 (lc (aA (aa l0)) (aA (aa l0)) 24).ae (fun k1=>
 bT ((bn 0 k1 (aa (dG k1 (([]:J))))).ae (fun _=>
 cq NN (fun(((l2,i3),l4):(((List J)×Int)×(List J)))=>
 aw (bG i3 (aA (aa l2)))
 ((dm l2 i3).ae (fun l5=>
 (rN l5).ae (fun l6=>
 (eY i3 (aa l4)).ae (fun k7=>
 (cK l4 (aI 0 k7)).ae (fun l8=>
 (dN l6 (aa l6)).ae (fun l9=>
 (bn 0 (aa l4) (aa (cg l4 (aI 0 k7) l9))).ae (fun _=>
 some (Sum.inl ((l2,cR .i64 i3 1),cg l4 (aI 0 k7) l9)))))))))
 ((ar l4 (
 some (Sum.inl l4))).ae (fun e7=>
 some (Sum.inr e7))))
 ((l0,(0:Int)),dG k1 (([]:J)))))
 (fun fQ=>
 (dN fQ (aa fQ)).ae (fun eR=>
 some eR))))
def WR (NN:Nat):((List J)×(List J))->(Option Bool):=
 (fun((l0,l1):((List J)×(List J)))=>
 aw (fL (aA (aa l0)) (aA (aa l1)))
 (some false)
 (bT (cq NN (fun((l2,l3,i4):((List J)×((List J)×Int)))=>
 aw (bG i4 (aA (aa l2)))
 ((dm l2 i4).ae (fun l5=>
 (dm l3 i4).ae (fun l6=>
 (rM (l5,l6)).ae (fun b7=>
 aw (cZ b7)
 (some (Sum.inr (Sum.inr false)))
 (some (Sum.inl (l2,l3,cR .i64 i4 1)))))))
 (some (Sum.inr (Sum.inl ()))))
 (l0,l1,(0:Int)))
 (fun _=>
 some true)))
def O4 (NN:Nat):((J×(J×J))×Int)->(Option Int):=
 (fun(((l0,l1,l2),i3):((J×(J×J))×Int))=>
 (pH (l0,i3)).ae (fun i4=>
 aw (bG i4 (0:Int))
 (some ((-1:Int)))
 ((pH (l1,i4)).ae (fun i5=>
 aw (bG i5 (0:Int))
 (some ((-1:Int)))
 ((pH (l2,i5)).ae (fun i6=>
 aw (bG i6 (0:Int))
 (some ((-1:Int)))
 (some i6)))))))
def Pa (NN:Nat):(J×(J×J))->(Option (J×(J×J))):=
 (fun((l0,l1,l2):(J×(J×J)))=>
 (rN l0).ae (fun l3=>
 (rN l1).ae (fun l4=>
 (rN l2).ae (fun l5=>
 (dN l3 (aa l3)).ae (fun l6=>
 (dN l4 (aa l4)).ae (fun l7=>
 (dN l5 (aa l5)).ae (fun l8=>
 some (l6,l7,l8))))))))
def OT (NN:Nat):((J×(J×J))×(J×(J×J)))->(Option Bool):=
 (fun(((l0,l1,l2),l3,l4,l5):((J×(J×J))×(J×(J×J))))=>
 (rM (l0,l3)).ae (fun b6=>
 aw (cZ b6)
 (some false)
 ((rM (l1,l4)).ae (fun b7=>
 aw (cZ b7)
 (some false)
 ((rM (l2,l5)).ae (fun b8=>
 aw (cZ b8)
 (some false)
 (some true)))))))
def O2 (NN:Nat):((Int×(List J))×Int)->(Option Int):=
 (fun(((i0,l1),i2):((Int×(List J))×Int))=>
 (CD (l1,i2)).ae (fun i3=>
 aw (bG i3 (0:Int))
 (some ((-1:Int)))
 (some i3)))
def O7 (NN:Nat):(Int×(List J))->(Option (Int×(List J))):=
 (fun((i0,l1):(Int×(List J)))=>
 (CF l1).ae (fun l2=>
 (dN l2 (aa l2)).ae (fun l3=>
 some (i0,l3))))
def OS (NN:Nat):((Int×(List J))×(Int×(List J)))->(Option Bool):=
 (fun(((i0,l1),i2,l3):((Int×(List J))×(Int×(List J))))=>
 aw (fL i0 i2)
 (some false)
 ((Cv (l1,l3)).ae (fun b4=>
 aw (cZ b4)
 (some false)
 (some true))))
def OY (NN:Nat):(J×Int)->(Option (Int×J)):=
 (fun((l0,i1):(J×Int))=>
 bT (ar l0 (
 cq NN (fun(((i2,i3),l4):((Int×Int)×J))=>
 aw (bG i3 (aA (aa l4)))
 ((eY i3 (aa l4)).ae (fun k5=>
 (cK l4 (aI 0 k5)).ae (fun i6=>
 (bn 0 (aa l4) (aa (cg l4 (aI 0 k5) i2))).ae (fun _=>
 some (Sum.inl ((cR .i64 i2 1,cR .i64 i3 1),cg l4 (aI 0 k5) i2))))))
 (some (Sum.inr (Sum.inl (i2,l4)))))
 ((i1,(0:Int)),l0)))
 (fun(i7,l8)=>
 (kE (aa l8) (aa l0)).ae (fun _=>
 some (i7,l8))))
def OZ (NN:Nat):((List J)×Int)->(Option (Int×(List J))):=
 (fun((l0,i1):((List J)×Int))=>
 bT (ar l0 (
 cq NN (fun(((i2,i3),l4):((Int×Int)×(List J)))=>
 aw (bG i3 (aA (aa l4)))
 ((eY i3 (aa l4)).ae (fun k5=>
 (cK l4 (aI 0 k5)).ae (fun l6=>
 (cK l4 (aI 0 k5)).ae (fun l7=>
 (lx (l7,i2)).ae (fun(i8,l9)=>
 (cK l4 (aI 0 k5)).ae (fun e7=>
 (bn 0 (aa l4) (aa (cg l4 (aI 0 k5) l9))).ae (fun _=>
 some (Sum.inl ((i8,cR .i64 i3 1),cg l4 (aI 0 k5) l9)))))))))
 (some (Sum.inr (Sum.inl (i2,l4)))))
 ((i1,(0:Int)),l0)))
 (fun(j3,eR)=>
 (kE (aa eR) (aa l0)).ae (fun _=>
 some (j3,eR))))
def O0 (NN:Nat):((J×(J×J))×Int)->(Option (Int×(J×(J×J)))):=
 (fun(((l0,l1,l2),i3):((J×(J×J))×Int))=>
 ar l0 (
 (lx (l0,i3)).ae (fun(i4,l5)=>
 ar l1 (
 (lx (l1,i4)).ae (fun(i6,l7)=>
 ar l2 (
 (lx (l2,i6)).ae (fun(i8,l9)=>
 (kE (aa l5) (aa l0)).ae (fun _=>
 (kE (aa l7) (aa l1)).ae (fun _=>
 (kE (aa l9) (aa l2)).ae (fun _=>
 some (i8,l5,l7,l9)))))))))))
def OX (NN:Nat):((Int×(List J))×Int)->(Option (Int×(List J))):=
 (fun(((i0,l1),i2):((Int×(List J))×Int))=>
 ar l1 (
 (Cy (l1,i2)).ae (fun(i3,l4)=>
 (kE (aa l4) (aa l1)).ae (fun _=>
 some (i3,l4)))))
def OU (NN:Nat):(J×Int)->(Option Int):=
 (fun((l0,i1):(J×Int))=>
 bT (cq NN (fun((l2,i3,i4):(J×(Int×Int)))=>
 aw (bG i4 (aA (aa l2)))
 ((dm l2 i4).ae (fun i5=>
 aw (fL i5 i3)
 (some (Sum.inr (Sum.inr ((-1:Int)))))
 (some (Sum.inl (l2,cR .i64 i3 1,cR .i64 i4 1)))))
 (some (Sum.inr (Sum.inl i3))))
 (l0,i1,(0:Int)))
 (fun i6=>
 some i6))
def OV (NN:Nat):((J×(J×J))×Int)->(Option Int):=
 (fun(((l0,l1,l2),i3):((J×(J×J))×Int))=>
 (ul (l0,i3)).ae (fun i4=>
 aw (bG i4 (0:Int))
 (some ((-1:Int)))
 ((ul (l1,i4)).ae (fun i5=>
 aw (bG i5 (0:Int))
 (some ((-1:Int)))
 ((ul (l2,i5)).ae (fun i6=>
 aw (bG i6 (0:Int))
 (some ((-1:Int)))
 (some i6)))))))
theorem aj8 (x:J×Int) (y:Int) (h:pH x=some y):O3 aP x=some y:=by
 obtain⟨l,k⟩:=x;simp only[pH] at h;split at h
 ·rename_i hc;obtain⟨⟨k0,k1⟩,hw⟩:=hc;have hw:=of_decide_eq_true hw;rw[<-h];have hn:=nl l;simp only[O3];rw[s7 (by omega) (by omega)];show _=some (gB l.length k);by_cases hs:(l.length:Int)<=k
  ·rw[NW hs,be (eO (by omega))];rfl
  ·rw[Cb hs,ba (d6 (by omega))]
 ·cases h
theorem ake (x y:J) (h:rN x=some y):O8 aP x=some y:=by
 simp only[rN] at h;split at h
 ·rename_i hl;injection h with h;subst h;have hl:x.length<=1048576:=hl;simp only[O8,qh (n:=aa x) (by_:=8) (by simp only[aa,dX];omega),bk,qf,bM,ar];rw[QJ x 0 (r:=Sum.inl x) ?_ ?_ (by omega)]
  ·simp only[mO,iy,bk]
  ·intro i e ys he hy hi;simp only
   rw[ba (kB he),dn,he,bk];simp only[Db hi,bk,gd,cK,hi,zn,bM,nC he (by omega)];rfl
  ·simp only
   rw[be (g9 x)]
 ·cases h
theorem ajV (x:J×J) (y:Bool) (h:rM x=some y):WQ aP x=some y:=by
 obtain⟨a,b⟩:=x;simp only[rM] at h;split at h
 ·rename_i hl;rw[<-h];have hl:a.length<=1048576:=hl;exact aiG a b (by omega)
 ·cases h
theorem aj9 (x:(List J)×Int) (y:Int) (h:CD x=some y):WT aP x=some y:=by
 obtain⟨l,k⟩:=x;simp only[CD] at h;split at h
 ·rename_i hc;obtain⟨hk,hw⟩:=hc;unfold Fw at hw;rw[Bool.and_eq_true,decide_eq_true_eq,List.all_eq_true] at hw;rw[<-h];exact agE pH cU l hw.1 (fun e he k hk=>if_pos ⟨hk,hw.2 e he⟩) k hk
 ·cases h
theorem Wg {l:List J} (h:pz l<=1048576):l.length<=1048576/\∀e∈l,cU e<=1048576:=by
 unfold pz at h;refine⟨by omega,fun e he=>?_⟩;have:=S4 (List.mem_map_of_mem (f:=cU) he);omega
theorem akf (x y:List J) (h:CF x=some y):O9 aP x=some y:=by
 simp only[CF] at h;split at h
 ·rename_i hl;injection h with h;subst h;obtain⟨hl,hm⟩:=Wg hl;simp only[O9,qh (n:=aa x) (by_:=24) (by simp only[aa,dX];omega),bk,qf,bM,ar];rw[QJ x [] (r:=Sum.inl x) ?_ ?_ (by omega)]
  ·simp only[mO,iy,bk]
  ·rintro i e0 ys he hy hi;simp only
   rw[ba (kB he),dn,he,bk];simp only[rN,if_pos (hm _ (List.mem_of_getElem? he)),Db hi,bk,gd,cK,hi,iy,zn,bM,nC he (by omega)];rfl
  ·simp only
   rw[be (g9 x)]
 ·cases h
theorem ajW (x:(List J)×(List J)) (y:Bool) (h:Cv x=some y):WR aP x=some y:=by
 obtain⟨a,b⟩:=x;simp only[Cv] at h;split at h
 ·rename_i hl;rw[<-h];obtain⟨hl,hm⟩:=Wg hl;exact Qy rM a b (fun e he b=>show(if cU e<=1048576 then some (decide (e=b)) else none)=_ from if_pos (hm e he)) (by omega)
 ·cases h
theorem aka (x:(J×J×J)×Int) (y:Int) (h:x7 x=some y):O4 aP x=some y:=by
 obtain⟨⟨a0,a1,a2⟩,k⟩:=x;simp only[x7] at h;split at h
 ·rename_i hc;obtain⟨⟨k0,k1⟩,hw⟩:=hc;simp only[Fx,Bool.and_eq_true] at hw;rw[<-h];simp only[O4];rw[Fj (o:=pH (a0,k)) (s:=cU a0) (if_pos ⟨by constructor<;>omega,hw.1.1⟩)]
  by_cases c0:((cU a0:Nat):Int)<=k
  ·rw[if_pos c0];rw[Fj (o:=pH (a1,k - cU a0)) (s:=cU a1) (if_pos ⟨by constructor<;>omega,hw.1.2⟩)]
   by_cases c1:((cU a1:Nat):Int)<=k - cU a0
   ·rw[if_pos c1];rw[Fj (o:=pH (a2,k - cU a0 - cU a1)) (s:=cU a2) (if_pos ⟨by constructor<;>omega,hw.2⟩)]
    by_cases c2:((cU a2:Nat):Int)<=k - cU a0 - cU a1
    ·rw[if_pos c2];show _=some (gB (cU a0+cU a1+cU a2) k);rw[NW (by omega)];exact congrArg some (by omega)
    ·rw[if_neg c2];show _=some (gB (cU a0+cU a1+cU a2) k);rw[Cb (by omega)]
   ·rw[if_neg c1];show _=some (gB (cU a0+cU a1+cU a2) k);rw[Cb (by omega)]
  ·rw[if_neg c0];show _=some (gB (cU a0+cU a1+cU a2) k);rw[Cb (by omega)]
 ·cases h
theorem akh (x y:J×J×J) (h:rO x=some y):Pa aP x=some y:=by
 obtain⟨a0,a1,a2⟩:=x;simp only[rO] at h;split at h
 ·rename_i hl;rw[<-h];simp only[f9] at hl;simp only[Pa,rN,if_pos (show cU a0<=1048576 by omega),if_pos (show cU a1<=1048576 by omega),if_pos (show cU a2<=1048576 by omega),bk,iy]
 ·cases h
theorem ajX (x:(J×J×J)×(J×J×J)) (y:Bool) (h:pG x=some y):OT aP x=some y:=by
 obtain⟨⟨a0,a1,a2⟩,b0,b1,b2⟩:=x;simp only[pG] at h;split at h
 ·rename_i hl;rw[<-h];simp only[f9] at hl;simp only[OT,rM,if_pos (show cU a0<=1048576 by omega),if_pos (show cU a1<=1048576 by omega),if_pos (show cU a2<=1048576 by omega),bk];by_cases e0:a0=b0<;>by_cases e1:a1=b1<;>by_cases e2:a2=b2<;>simp[MC,cZ,aw, *]
 ·cases h
theorem aj7 (x:(Int×(List J))×Int) (y:Int) (h:CC x=some y):O2 aP x=some y:=by
 obtain⟨⟨a0,a1⟩,k⟩:=x;simp only[CC] at h;split at h
 ·rename_i hc;obtain⟨⟨k0,k1⟩,hw⟩:=hc;simp only[IW] at hw;rw[<-h];simp only[O2];rw[Fj (o:=CD (a1,k)) (s:=pz a1) (if_pos ⟨by constructor<;>omega,hw⟩)]
  by_cases c0:((pz a1:Nat):Int)<=k
  ·rw[if_pos c0];show _=some (gB (pz a1) k);rw[NW (by omega)]
  ·rw[if_neg c0];show _=some (gB (pz a1) k);rw[Cb (by omega)]
 ·cases h
theorem akd (x y:Int×(List J)) (h:uq x=some y):O7 aP x=some y:=by
 obtain⟨a0,a1⟩:=x;simp only[uq] at h;split at h
 ·rename_i hl;rw[<-h];simp only[lg] at hl;simp only[O7,CF,if_pos (show pz a1<=1048576 by omega),bk,iy]
 ·cases h
theorem ajU (x:(Int×(List J))×(Int×(List J))) (y:Bool) (h:x5 x=some y):OS aP x=some y:=by
 obtain⟨⟨a0,a1⟩,b0,b1⟩:=x;simp only[x5] at h;split at h
 ·rename_i hl;rw[<-h];simp only[lg] at hl;simp only[OS,Cv,if_pos (show pz a1<=1048576 by omega),bk];by_cases e0:a0=b0<;>by_cases e1:a1=b1<;>simp[MC,cZ,aw, *]
 ·cases h
theorem Yn (x:J×J×J) (h:f9 x<=1048576):pG (x,x)=some true:=by
 have:=show pG (x,x)=if f9 x<=1048576 then some (decide (x=x)) else none from rfl
 rw[this,if_pos h,decide_eq_true rfl]
theorem at5 (x:J×J×J) (h:f9 x<=1048576):rO x=some x:=if_pos h
theorem aiI (x:Int×(List J)) (h:lg x<=1048576):x5 (x,x)=some true:=by
 have:=show x5 (x,x)=if lg x<=1048576 then some (decide (x=x)) else none from rfl
 rw[this,if_pos h,decide_eq_true rfl]
theorem at4 (x:Int×(List J)) (h:lg x<=1048576):uq x=some x:=if_pos h
theorem IG (l:J):cU l=l.length+(l.map (fun _=>0)).sum:=by
 simp[cU,agw]
theorem jV (l:J):aW l<=4*cU l:=by
 rw[IG];exact Ge (fun _=>1) (fun _=>0) (fun e=>by omega) l
theorem atr (l:J) (k:Int):cU (cY l k)=cU l:=by
 rw[IG,IG,cY,Ev,V9 (fun _=>1) (fun _ k=>k) (fun _=>0) (fun _ _=>rfl)]
theorem ah8 (l:J) (k:Int):aW (cY l k)=aW l:=V9 (fun _=>1) (fun _ k=>k) (fun _=>1) (fun _ _=>rfl) l k
theorem aob (l:J) (k:Int):cY (cY l k) k=cY l k:=abE (fun _=>1) (fun _ k=>k) (fun _ _=>rfl) (fun _ _=>rfl) l k
theorem zo (l:J) (k:Int):(cY l k).length=l.length:=Ev _ _ _ _
theorem aj2 (x:J×Int) (y:Int×J) (h:lx x=some y):OY aP x=some y:=by
 obtain⟨l,k⟩:=x;simp only[lx] at h;split at h
 ·rename_i hc;obtain⟨hk,hb⟩:=hc;rw[IG] at hb;rw[<-h];simp only[OY,bM,bk,ar];rw[Tj l (fun _=>1) (fun _=>0) (fun _ k=>k) k (r:=Sum.inl (k+(aW l:Nat),cY l k)) (fun e=>by omega) hk hb ?_ ?_]
  ·rw[mO];simp only
   rw[xL (show aa (cY l k)=aa l from zo l k),bk]
  ·intro i e ys k' he hy hi h0 hM;have GW:cK ys i=some e:=hi;simp only
   rw[ba (kB hi),nC hi (by omega)];simp only[Db hi,bk,gd,GW,zn,bM];have e1:cR .i64 k' 1=k'+1:=fe (by omega) (by omega);simp only[e1];rfl
  ·simp only
   rw[be (eO (by have:=zo l k;have h2:=nl (cY l k);unfold cY at this h2;omega))];rfl
 ·cases h
theorem ajY (x:J×Int) (y:Int) (h:ul x=some y):OU aP x=some y:=by
 obtain⟨l,k⟩:=x;simp only[ul] at h;split at h
 ·rename_i hc;obtain⟨hk,hb⟩:=hc;rw[IG] at hb;rw[<-h];simp only[OU];rw[ak5 l (fun _=>1) (fun _=>0) (fun _ k=>k) k (fun e=>by omega) hk hb ?_ ?_]
  ·unfold cY aW;by_cases hq:l=hH (fun _=>1) (fun _ k=>k) l k
   ·rw[if_pos hq,if_pos hq,mO]
   ·rw[if_neg hq,if_neg hq,L5]
  ·intro i e k' he h0 hM;simp only
   rw[ba (kB he),dn,he,bk];have e1:cR .i64 k' 1=k'+1:=fe (by omega) (by omega);rw[e1,nC he (by omega)];by_cases hq:e=k'
   ·rw[be (ov hq),if_pos hq];rfl
   ·rw[ba (rr hq),if_neg hq]
  ·intro k';simp only
   rw[be (g9 l)]
 ·cases h
theorem agC (l:List J):pz l=l.length+(l.map cU).sum:=by
 rfl
theorem Xv (l:List J):uM l<=4*pz l:=by
 rw[agC];exact Ge aW cU (fun e=>by have:=jV e;omega) l
theorem Tb (l:List J) (k:Int):(vG l k).length=l.length:=Ev _ _ _ _
theorem aj3 (x:(List J)×Int) (y:Int×(List J)) (h:Cy x=some y):OZ aP x=some y:=by
 obtain⟨l,k⟩:=x;simp only[Cy] at h;split at h
 ·rename_i hc;obtain⟨hk,hb⟩:=hc;rw[agC] at hb;rw[<-h];simp only[OZ,bM,bk,ar];rw[Tj l aW cU cY k (r:=Sum.inl (k+(uM l:Nat),vG l k)) (fun e=>by have:=jV e;omega) hk hb ?_ ?_]
  ·rw[mO];simp only
   rw[xL (show aa (vG l k)=aa l from Tb l k),bk]
  ·rintro i e0 ys k' he hy hi h0 hM;have GW:cK ys i=some e0:=hi;simp only
   rw[ba (kB hi),nC hi (by omega)];simp only[Db hi,bk,gd,GW,zn,bM];have auB:=jV e0;have E0:lx (e0,k')=some (k'+(aW e0:Nat),cY e0 (k')):=if_pos ⟨by omega,by omega⟩;simp only[E0,bk,Ld hi,VE,zn,bM];refine congrArg some (congrArg Sum.inl (Prod.ext (Prod.ext ?_ rfl) rfl));simp only[aW]
  ·simp only
   rw[be (eO (by have:=Tb l k;have h2:=nl (vG l k);unfold vG at this h2;omega))];rfl
 ·cases h
theorem ats (x:J×J×J) (k:Int):f9 (Mr x k)=f9 x:=by
 obtain⟨a0,a1,a2⟩:=x;simp only[Mr,f9,atr]
theorem aj4 (x:(J×J×J)×Int) (y:Int×J×J×J) (h:x6 x=some y):O0 aP x=some y:=by
 obtain⟨⟨a0,a1,a2⟩,k⟩:=x;simp only[x6] at h;split at h
 ·rename_i hc;obtain⟨hk,hb⟩:=hc;simp only[f9] at hb;have Xw:=jV a0;have P5:=jV a1;have Xx:=jV a2;rw[<-h];have e0:lx (a0,k)=some (k+(aW a0:Nat),cY a0 (k)):=if_pos ⟨by omega,by omega⟩;have e1:lx (a1,k+(aW a0:Nat))=some (k+(aW a0:Nat)+(aW a1:Nat),cY a1 (k+(aW a0:Nat))):=if_pos ⟨by omega,by omega⟩;have e2:lx (a2,k+(aW a0:Nat)+(aW a1:Nat))=some (k+(aW a0:Nat)+(aW a1:Nat)+(aW a2:Nat),cY a2 (k+(aW a0:Nat)+(aW a1:Nat))):=if_pos ⟨by omega,by omega⟩;simp only[O0,bM,bk,e0,e1,e2,xL (show aa (cY a0 (k))=aa a0 from zo a0 (k)),xL (show aa (cY a1 (k+(aW a0:Nat)))=aa a1 from zo a1 (k+(aW a0:Nat))),xL (show aa (cY a2 (k+(aW a0:Nat)+(aW a1:Nat)))=aa a2 from zo a2 (k+(aW a0:Nat)+(aW a1:Nat))),ar]
 ·cases h
theorem ajZ (x:(J×J×J)×Int) (y:Int) (h:vZ x=some y):OV aP x=some y:=by
 obtain⟨⟨a0,a1,a2⟩,k⟩:=x;simp only[vZ] at h;split at h
 ·rename_i hc;obtain⟨hk,hb⟩:=hc;simp only[f9] at hb;have Xw:=jV a0;have P5:=jV a1;have Xx:=jV a2;rw[<-h];have e0:ul (a0,k)=some (if a0=cY a0 (k) then k+(aW a0:Nat) else -1):=if_pos ⟨by omega,by omega⟩
  have e1:ul (a1,k+(aW a0:Nat))=some (if a1=cY a1 (k+(aW a0:Nat)) then k+(aW a0:Nat)+(aW a1:Nat) else -1):=if_pos ⟨by omega,by omega⟩
  have e2:ul (a2,k+(aW a0:Nat)+(aW a1:Nat))=some (if a2=cY a2 (k+(aW a0:Nat)+(aW a1:Nat)) then k+(aW a0:Nat)+(aW a1:Nat)+(aW a2:Nat) else -1):=if_pos ⟨by omega,by omega⟩
  simp only[OV];rw[Ru (by omega) e0];by_cases q0:a0=cY a0 (k)
  case neg=>rw[if_neg q0,if_neg (fun h=>q0 h.1)]
  rw[if_pos q0];rw[Ru (by omega) e1];by_cases q1:a1=cY a1 (k+(aW a0:Nat))
  case neg=>rw[if_neg q1,if_neg (fun h=>q1 h.2.1)]
  rw[if_pos q1];rw[Ru (by omega) e2];by_cases q2:a2=cY a2 (k+(aW a0:Nat)+(aW a1:Nat))
  case neg=>rw[if_neg q2,if_neg (fun h=>q2 h.2.2)]
  rw[if_pos q2];rw[if_pos ⟨q0,q1,q2⟩]
 ·cases h
theorem aj1 (x:(Int×(List J))×Int) (y:Int×(List J)) (h:Cx x=some y):OX aP x=some y:=by
 obtain⟨⟨a0,a1⟩,k⟩:=x;simp only[Cx] at h;split at h
 ·rename_i hc;obtain⟨hk,hb⟩:=hc;simp only[lg] at hb;have P5:=Xv a1;rw[<-h];have e0:Cy (a1,k)=some (k+(uM a1:Nat),vG a1 (k)):=if_pos ⟨by omega,by omega⟩;simp only[OX,bM,bk,e0,xL (show aa (vG a1 (k))=aa a1 from Tb a1 (k)),ar]
 ·cases h
theorem ak3 (x:J×J×J) (k:Int) (h:0<=k/\k+4*(f9 x:Nat)<=1099511627776):vZ (Mr x k,k)=some (match x with|(a0,a1,a2)=>k+(aW a0:Nat)+(aW a1:Nat)+(aW a2:Nat)):=by
 obtain⟨a0,a1,a2⟩:=x;have:=show vZ ((cY a0 (k),cY a1 (k+(aW a0:Nat)),cY a2 (k+(aW a0:Nat)+(aW a1:Nat))),k)=if 0<=k/\k+4*(f9 (Mr (a0,a1,a2) k):Nat)<=1099511627776 then some (if cY a0 (k)=cY (cY a0 (k)) (k)/\cY a1 (k+(aW a0:Nat))=cY (cY a1 (k+(aW a0:Nat))) (k+(aW (cY a0 (k)):Nat))/\cY a2 (k+(aW a0:Nat)+(aW a1:Nat))=cY (cY a2 (k+(aW a0:Nat)+(aW a1:Nat))) (k+(aW (cY a0 (k)):Nat)+(aW (cY a1 (k+(aW a0:Nat))):Nat)) then k+(aW (cY a0 (k)):Nat)+(aW (cY a1 (k+(aW a0:Nat))):Nat)+(aW (cY a2 (k+(aW a0:Nat)+(aW a1:Nat))):Nat) else -1) else none from rfl
 refine this.trans ?_;rw[ats,if_pos h];simp only[aob,ah8,and_self,if_true]
def aab (r c:Nat) (M:Nat->Nat->Int):J:=(List.range (r*c)).map fun n=>M (n/c) (n%c)
def ofD (c:Nat) (l:J):Nat->Nat->Int:=fun i j=>l.getD (i*c+j) 0
theorem ass {a p:Int} (ha:0<=a) (hp:0<p):rz a p=some (a%p):=by
 unfold rz;rw[if_neg (by omega),Int.tmod_eq_emod_of_nonneg ha]
theorem an4 {i n:Nat} (h:i<n):bG (i:Int) (n:Int)=true:=d6 (by omega)
theorem Er {i n:Nat} (h:n<=i):bG (i:Int) (n:Int)=false:=eO (by omega)
theorem CW {i:Nat} (h:i<=1048577):cR .i64 (i:Int) 1=((i+1:Nat):Int):=by rw[fe (by omega) (by omega)];omega
def pj (p:Int):Prop:=2<=p/\p<=1000003
instance (p:Int):Decidable (pj p):=inferInstanceAs (Decidable (2<=p/\p<=1000003))
def qY (p x:Int):Prop:=0<=x/\x<p
instance (p x:Int):Decidable (qY p x):=inferInstanceAs (Decidable (0<=x/\x<p))
theorem Qx {p:Int} (hp:pj p) (a:Int):qY p (a%p):=⟨Int.emod_nonneg _ (by have:=hp.1;omega),Int.emod_lt_of_pos _ (by have:=hp.1;omega)⟩
theorem qY.le {p x:Int} (h:qY p x):0<=x/\x<=p:=⟨h.1,Int.le_of_lt h.2⟩
theorem qY.s {p x:Int} (hp:pj p) (h:qY p x):0<=x/\x<=1000003000000:=⟨h.1,by have:=h.2;have:=hp.2;omega⟩
def qX (p:Int) (r c:Nat) (M:Nat->Nat->Int):Prop:=∀i,i<r->∀j,j<c->qY p (M i j)
def qA (p:Int) (l:J):Prop:=∀x∈l,qY p x
instance (p:Int) (l:J):Decidable (qA p l):=inferInstanceAs (Decidable (∀x∈l,qY p x))
def BA (x:Int×Int×J):Prop:=(0<=x.1/\x.1<=4096)/\(0<=x.2.1/\x.2.1<=4096)/\(x.2.2.length:Int)=x.1*x.2.1/\x.2.2.length<=1048576
instance (x:Int×Int×J):Decidable (BA x):=by unfold BA;infer_instance
def kG:Int×Int×Int->Option Bool:=fun((a,b,c):Int×Int×Int)=>some (decide (b<=a/\a<=c))
def JZ:ak:=[(.one,[.int .i64]),(.one,[.int .i64]),(.one,[.int .i64])]
def U4:ak:=[(.one,[.bool])]
def ao1:aK:=[]
def Pk (NN:Nat):(Int×(Int×Int))->(Option Bool):=
 (fun((i0,i1,i2):(Int×(Int×Int)))=>
 aw (jr i1 i0)
 (some (jr i0 i2))
 (some false))
theorem ako (x:Int×Int×Int) (y:Bool) (h:kG x=some y):Pk aP x=some y:=by
 obtain⟨a,b,c⟩:=x;rw[<-h];simp only[kG,Pk,jr];by_cases hc:b<=a<;>simp[hc,aw]
def rW (n:Int) (i:Nat):Bool:=decide ((i:Int)*i<=n)&&decide (n%(i:Int)=0)
def gZ (n:Int):Bool:=decide (2<=n/\n<=1000003)&& !((List.range' 2 999).any (rW n))
def x9:Int->Option Bool:=fun(n:Int)=>some (gZ n)
def xX:Int->Option Bool:=fun(n:Int)=>some (gZ n)
def y9 (m:Int) (v:Int):Bool:=decide (0<=v/\v<m)
def rB (m:Int) (l:J):Bool:=l.all (y9 m)
def z5:Int×J->Option Bool:=fun((m,l):Int×J)=>if l.length<=1048576 then some (rB m l) else none
def JU:ak:=[(.one,[.int .i64])]
def UZ:ak:=[(.one,[.bool])]
def aoW:aK:=[]
def I6:ak:=[(.one,[.int .i64])]
def T9:ak:=[(.one,[.bool])]
def aoe:aK:=[]
def Jh:ak:=[(.one,[.int .i64]),(.one,[.list [.int .i64]])]
def Uk:ak:=[(.one,[.bool])]
def aop:aK:=[]
def Pc (NN:Nat):Int->(Option Bool):=
 (fun(i0:Int)=>
 bT (cq NN (fun((i1,i2):(Int×Int))=>
 aw (jr (kC .i64 i2 i2) i1)
 (aw (jr i1 (1000003:Int))
 ((rz i1 i2).ae (fun i3=>
 aw (dJ i3 (0:Int))
 (some (Sum.inr (Sum.inr false)))
 (some (Sum.inl (i1,cR .i64 i2 1)))))
 (some (Sum.inr (Sum.inl i1))))
 (some (Sum.inr (Sum.inl i1))))
 (i0,(2:Int)))
 (fun i4=>
 (kG (i4,(2:Int),(1000003:Int))).ae (fun b5=>
 some b5)))
def Ot (NN:Nat):Int->(Option Bool):=
 (fun(i0:Int)=>
 aw (bG i0 (2:Int))
 (some false)
 (aw (bG (1000003:Int) i0)
 (some false)
 (bT (cq NN (fun((i1,i2):(Int×Int))=>
 aw (jr (kC .i64 i2 i2) i1)
 ((rz i1 i2).ae (fun i3=>
 aw (dJ i3 (0:Int))
 (some (Sum.inr (Sum.inr false)))
 (some (Sum.inl (i1,cR .i64 i2 1)))))
 (some (Sum.inr (Sum.inl ()))))
 (i0,(2:Int)))
 (fun _=>
 some true))))
def OE (NN:Nat):(Int×J)->(Option Bool):=
 (fun((i0,l1):(Int×J))=>
 bT (cq NN (fun((i2,l3,i4,i5):(Int×(J×(Int×Int))))=>
 aw (bG i5 i4)
 ((dm l3 i5).ae (fun i6=>
 aw (bG i6 (0:Int))
 (some (Sum.inr (Sum.inr false)))
 (aw (jr i2 i6)
 (some (Sum.inr (Sum.inr false)))
 (some (Sum.inl (i2,l3,i4,cR .i64 i5 1))))))
 (some (Sum.inr (Sum.inl ()))))
 (i0,l1,aA (aa l1),(0:Int)))
 (fun _=>
 some true))
theorem pi {a b:Int} (h1: -9223372036854775808<=a*b) (h2:a*b<=9223372036854775807):kC .i64 a b=a*b:=Oi h1 h2
theorem M1 {n:Int} {i:Nat} (hn:0<=n) (hi:0<i):rz n (i:Int)=some (n%(i:Int)):=by
 unfold rz;rw[if_neg (by omega),Int.tmod_eq_emod_of_nonneg hn]
theorem VS {i j:Nat} (h:i<=j):(i:Int)*i<=(j:Int)*j:=by
 have:=Nat.mul_le_mul h h
 exact_mod_cast this
theorem Yb {X Y:Type} {f:X->Option (X⊕(Y⊕Bool))} (n:Int) (mk:Nat->X) (r:Y) (hn:n<=1000003)
  (h1:∀i:Nat,2<=i->i<=1001->(i:Int)*i<=n->n%(i:Int)=0->f (mk i)=some (.inr (.inr false)))
  (h2:∀i:Nat,2<=i->i<=1001->(i:Int)*i<=n->n%(i:Int)≠0->f (mk i)=some (.inl (mk (i+1))))
  (h3:∀i:Nat,2<=i->i<=1001->¬(i:Int)*i<=n->f (mk i)=some (.inr (.inl r))) {x0:X} (hx:x0=mk 2):
  cq aP f x0=some (if(List.range' 2 999).any (rW n)=true then .inr false else .inl r):=by
 subst hx;have cW:∀(d i:Nat),2<=i->i+d=1001->∀N,d<N->cq N f (mk i)=some (if(List.range' i d).any (rW n)=true then .inr false else .inl r):=by
  intro d;induction d with
  |zero=>
   intro i hi hd N hN;obtain⟨N,rfl⟩:∃M,N=M+1:=⟨N - 1,by omega⟩;have:i=1001:=by omega
   subst this;rw[cq,h3 1001 (by omega) (by omega) (by omega)];rfl
  |succ d ih=>
   intro i hi hd N hN;obtain⟨N,rfl⟩:∃M,N=M+1:=⟨N - 1,by omega⟩;rw[List.range'_succ,List.any_cons];by_cases gG:(i:Int)*i<=n
   ·by_cases hm:n%(i:Int)=0
    ·rw[cq,h1 i hi (by omega) gG hm];simp[rW,gG,hm]
    ·rw[cq,h2 i hi (by omega) gG hm];simp only
     rw[ih (i+1) (by omega) (by omega) N (by omega),show rW n i=false by simp[rW,hm],Bool.false_or]
   ·rw[cq,h3 i hi (by omega) gG];have:(List.range' (i+1) d).any (rW n)=false:=by
     rw[List.any_eq_false];intro j hj;have:=(List.mem_range'_1.1 hj).1;have:=VS (show i<=j by omega);simp only[rW,Bool.and_eq_true,decide_eq_true_eq,not_and];intro h;omega
    simp only
    rw[this];simp[rW,gG]
 exact cW 999 2 (by omega) (by omega) aP (ew (by omega))
theorem Fc {i:Nat} (h:i<=1001):0<=(i:Int)*i/\(i:Int)*i<=1002001:=by
 have h1:=VS h;have h0:=VS (Nat.zero_le i);omega
theorem akj (x:Int) (y:Bool) (h:x9 x=some y):Pc aP x=some y:=by
 rw[<-h];simp only[x9,Pc];by_cases hx:x<=1000003
 ·rw[Yb x (fun i=>(x,(i:Int))) x hx ?_ ?_ ?_ ?_]
  ·by_cases hd:(List.range' 2 999).any (rW x)=true
   ·rw[if_pos hd,L5,gZ,hd];simp
   ·rw[if_neg hd,mO,gZ];simp only[kG,bk];simp[hd]
  all_goals try simp only
  ·intro i h2 hi gG hm;have hs:=Fc hi;rw[pi (by omega) (by omega),ba (sI gG),ba (sI hx),M1 (by omega) (by omega),bk,ba (r6 hm)]
  ·intro i h2 hi gG hm;have hs:=Fc hi;rw[pi (by omega) (by omega),ba (sI gG),ba (sI hx),M1 (by omega) (by omega),bk,be (r5 hm),fe (by omega) (by omega)];rfl
  ·intro i h2 hi gG;have hs:=Fc hi;rw[pi (by omega) (by omega),be (Bx (by omega))]
  ·rfl
 ·rw[fF (fun i=>(x,(i:Int)+2)) (r:=Sum.inl x) 0 (fun j hj=>by omega) ?_ ?_ (ew (by omega))]
  ·rw[mO,gZ];simp only[kG,bk];have:¬(2<=x/\x<=1000003):=by omega
   simp[this]
  ·simp only
   rw[ba (sI (by rw[pi (by omega) (by omega)];omega)),be (Bx (by omega))]
  ·rfl
theorem ajx (x:Int) (y:Bool) (h:xX x=some y):Ot aP x=some y:=by
 rw[<-h];simp only[xX,Ot];by_cases h2:x<2
 ·rw[ba (d6 h2),gZ,decide_eq_false (by omega)];rfl
 rw[be (eO (by omega))];by_cases hx:1000003<x
 ·rw[ba (d6 hx),gZ,decide_eq_false (by omega)];rfl
 rw[be (eO (by omega))];rw[Yb x (fun i=>(x,(i:Int))) () (by omega) ?_ ?_ ?_ ?_]
 ·have hr:(2<=x/\x<=1000003):=by omega
  by_cases hd:(List.range' 2 999).any (rW x)=true
  ·rw[if_pos hd,L5,gZ,hd];simp
  ·rw[if_neg hd,mO,gZ];simp[hd,hr]
 all_goals try simp only
 ·intro i h2 hi gG hm;have hs:=Fc hi;rw[pi (by omega) (by omega),ba (sI gG),M1 (by omega) (by omega),bk,ba (r6 hm)]
 ·intro i h2 hi gG hm;have hs:=Fc hi;rw[pi (by omega) (by omega),ba (sI gG),M1 (by omega) (by omega),bk,be (r5 hm),fe (by omega) (by omega)];rfl
 ·intro i h2 hi gG;have hs:=Fc hi;rw[pi (by omega) (by omega),be (Bx (by omega))]
 ·rfl
theorem ajI (x:Int×J) (y:Bool) (h:z5 x=some y):OE aP x=some y:=by
 obtain⟨m,l⟩:=x;simp only[z5] at h;split at h
 ·rename_i hl;rw[<-h];simp only[OE];rw[Ep (mk:=fun i=>(m,l,aA (aa l),(i:Int))) l (y9 m) (Sum.inr false) (Sum.inl ()) ?_ ?_ ?_ ?_ (ew (by omega))]
  ·unfold rB;cases l.all (y9 m)<;>rfl
  all_goals try simp only
  ·intro i a ha hp;have hp:=of_decide_eq_true hp;rw[ba (kB ha),dn,ha,bk,be (eO (by omega)),be (Bx (by omega)),nC ha (by omega)]
  ·intro i a ha hp;have hp:=of_decide_eq_false hp;rw[ba (kB ha),dn,ha,bk];by_cases h0:a<0
   ·rw[ba (d6 h0)]
   ·rw[be (eO (by omega)),ba (sI (by omega))]
  ·rw[be (g9 l)]
  ·rfl
 ·cases h
theorem q8 {m:Int} (h:gZ m=true):2<=m/\m<=1000003:=by
 simp only[gZ,Bool.and_eq_true,decide_eq_true_eq] at h;exact h.1
end Go.Am
