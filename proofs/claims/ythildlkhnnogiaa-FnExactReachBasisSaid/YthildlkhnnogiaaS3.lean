/- S3: typed functions, and one operation of the typed evaluator. No condition. -/
import Derived.Test.YthildlkhnnogiaaS2
set_option linter.unusedVariables false
set_option linter.unusedSimpArgs false
namespace Go.Am
def aZ:List (List Ty)->Type
 |[]=>Unit
 |ts::l=>match l with
  |[]=>Ty.DL ts
  |us::l'=>Ty.DL ts×aZ (us::l')
abbrev aq:=List (K×List Ty)
abbrev aq.aY (s:aq):List (List Ty):=s.map (·.2)
def cF:(as:aq)->aZ as.aY->List Dv
 |[],_=>[]
 |[a],x=>[(a.1,Ty.aw a.2 x)]
 |a::b::as,x=>(a.1,Ty.aw a.2 x.1)::cF (b::as) x.2
def fW:(as:aq)->aZ as.aY->List bz
 |[],_=>[]
 |[a],x=>[(a.1,Ty.fG a.2 x)]
 |a::b::as,x=>(a.1,Ty.fG a.2 x.1)::fW (b::as) x.2
theorem rK:∀(as:aq) (x:aZ as.aY),(fW as x).map bz.er=cF as x
 |[],_=>rfl
 |[a],x=>congrArg (fun l=>[((a.1,l):Dv)]) (Ty.n5 a.2 x)
 |a::b::as,x=>by
  have:=rK (b::as) x.2
  simp only[fW,cF,List.map_cons,bz.er,Ty.n5,this]
def K.beq:K->K->Bool
 |.one,.one=>true
 |.agg,.agg=>true
 |.ptr,.ptr=>true
 |_,_=>false
theorem K.beq_eq {a b:K} (h:K.beq a b=true):a=b:=by cases a<;>cases b<;>first|rfl|cases h
def Io (ts:List Ty):(l:List (List Ty))->Ty.DL ts->aZ l->aZ (ts::l)
 |[],x,_=>x
 |_::_,x,y=>(x,y)
theorem Wk (a:K×List Ty):∀(as:aq) (x:Ty.DL a.2) (y:aZ (aq.aY as)),cF (a::as) (Io a.2 (aq.aY as) x y)=(a.1,Ty.aw a.2 x)::cF as y
 |[],_,_=>rfl
 |_::_,_,_=>rfl
def lJ:(as:aq)->List bz->Option (aZ as.aY)
 |[],[]=>some ()
 |a::as,d::ds=>da (K.beq a.1 d.1) (match pP a.2 d.2,lJ as ds with
  |some x,some y=>some (Io a.2 (aq.aY as) x y)
  |_,_=>none)
 |_,_=>none
theorem pQ:∀{as:aq} {ds:List bz} {x:aZ as.aY},lJ as ds=some x->ds.map bz.er=cF as x
 |[],[],x,h=>rfl
 |a::as,d::ds,x,h=>by
  simp only[lJ] at h
  have h1:=(bw h).1;replace h2:=(bw h).2
  split at h2
  ·rename_i y z e1 e2
   injection h2 with h2
   subst h2
   rw[Wk,List.map_cons,pQ e2,bz.er,<-K.beq_eq h1,<-vP e1]
  ·cases h2
 |[],_::_,x,h=>by simp[lJ] at h
 |a::as,[],x,h=>by simp[lJ] at h
mutual
theorem Ty.Wo:∀(t:Ty) (x y:t.D),t.er x=t.er y->x=y
 |.int k,x,y,h=>by simp only[Ty.er] at h;injection h
 |.bool,x,y,h=>by simp only[Ty.er] at h;injection h
 |.list ts,x,y,h=>by simp only[Ty.er] at h;injection h with _ h;exact Ty.Wn ts x y h
theorem Ty.Wn:∀(ts:List Ty) (xs ys:List (Ty.DL ts)),List.map (Ty.aw ts) xs=List.map (Ty.aw ts) ys->xs=ys
 |ts,[],[],h=>rfl
 |ts,x::xs,y::ys,h=>by
  simp only[List.map_cons,List.cons.injEq] at h
  rw[Ty.Iy ts x y h.1,Ty.Wn ts xs ys h.2]
 |ts,[],_::_,h=>by simp at h
 |ts,_::_,[],h=>by simp at h
theorem Ty.Iy:∀(ts:List Ty) (x y:Ty.DL ts),Ty.aw ts x=Ty.aw ts y->x=y
 |[],x,y,h=>rfl
 |[t],x,y,h=>by simp only[Ty.aw,List.cons.injEq,and_true] at h;exact Ty.Wo t x y h
 |t::u::ts,x,y,h=>by
  simp only[Ty.aw,List.cons.injEq] at h
  exact Prod.ext (Ty.Wo t x.1 y.1 h.1) (Ty.Iy (u::ts) x.2 y.2 h.2)
end
theorem Wl:∀(as:aq) (x y:aZ as.aY),cF as x=cF as y->x=y
 |[],x,y,h=>rfl
 |[a],x,y,h=>by simp[cF] at h;exact Ty.Iy a.2 x y h
 |a::b::as,x,y,h=>by
  simp only[cF,List.cons.injEq,Prod.mk.injEq,true_and] at h
  exact Prod.ext (Ty.Iy a.2 x.1 y.1 h.1) (Wl (b::as) x.2 y.2 h.2)
structure ar where
 id:FuncId
 args:aq
 mu:aN
 aB:aq
 F:aZ args.aY->Option (aZ aB.aY)
open Classical in
noncomputable def ar.M (fn:ar) (ds:List Dv):Option (List Dv):=
 if h:∃x,cF fn.args x=ds then(fn.F h.choose).map (cF fn.aB) else none
theorem ar.sS (fn:ar) (x:aZ fn.args.aY):fn.M (cF fn.args x)=(fn.F x).map (cF fn.aB):=by
 have h:∃y,cF fn.args y=cF fn.args x:=⟨x,rfl⟩
 unfold ar.M
 rw[dif_pos h,Wl _ _ _ h.choose_spec]
theorem ar.LP {fn:ar} {ds rs:List Dv} (h:fn.M ds=some rs):∃x y,ds=cF fn.args x/\fn.F x=some y/\rs=cF fn.aB y:=by
 unfold ar.M at h
 split at h
 ·rename_i e
  rw[Option.map_eq_some_iff] at h
  obtain⟨y,h1,h2⟩:=h
  exact⟨_,y,e.choose_spec.symm,h1,h2.symm⟩
 ·cases h
def aN.bF:aN->Nat
 |[]=>0
 |s::l=>(s.filter Option.isSome).length+aN.bF l
def wh (k:Nat) (rs:List Dv):List Dv×List C:=(rs.take k,(rs.drop k).flatMap (·.2))
noncomputable def ar.MM (fn:ar) (ds:List Dv):Option (List Dv×List C):=(fn.M ds).map (wh (fn.aB.length - fn.mu.bF))
def aN.dX:aN->Nat
 |[]=>0
 |[[some .aG]]=>2
 |[some .aG,some .aG]::_=>3
 |[some .aG,some .aG,some .aG]::_=>4
 |[some .aG,some .aG,some .aG,some .aG]::_=>5
 |_=>1
def BM:aq->Bool
 |[]=>false
 |(.ptr,_)::_=>true
 |_::as=>BM as
def pT (as:aq):Nat:=match BM as with
 |true=>1
 |false=>0
noncomputable def ar.MV (fn:ar) (ds:List Dv):Option (List Dv×List C):=(fn.M ds).map (wh (fn.aB.length - pT fn.args))
def amL:List Dv->Option (Nat×Nat)
 |[(.one,[.int _ a]),(.one,[.int _ b])]=>some (a.toNat,(b - a).toNat)
 |_=>none
noncomputable def ar.MW (fn:ar) (ds:List Dv):Option (Nat×Nat):=(fn.M ds).bind amL
def aN.nP (s:aN):Nat:=s.length - 2
noncomputable def ar.MX (fn:ar) (ds:List Dv):Option (List Dv×List C):=(fn.M ds).map (wh (fn.aB.length - 1))
noncomputable def bT (T:List ar):aF:=
 ⟨T.filterMap fun fn=>match fn.mu.dX with|0=>some (fn.id,fn.M)|_=>none,T.filterMap fun fn=>match fn.mu.dX with|1=>some (fn.id,fn.mu,fn.MM)|_=>none,
  T.filterMap fun fn=>match fn.mu.dX with|2=>some (fn.id,fn.MV)|_=>none,T.filterMap fun fn=>match fn.mu.dX with|3=>some (fn.id,fn.mu.tl,fn.MW)|_=>none,
  T.filterMap fun fn=>match fn.mu.dX with|4=>some (fn.id,fn.mu.nP,fn.MX)|_=>none,T.filterMap fun fn=>match fn.mu.dX with|5=>some (fn.id,fn.M)|_=>none⟩
def ar.find:List ar->FuncId->Option ar
 |[],_=>none
 |fn::l,f=>match Nat.beq f fn.id with
  |true=>some fn
  |false=>ar.find l f
theorem ar.M7:∀{T:List ar} {f:FuncId} {fn:ar},ar.find T f=some fn->fn.mu.dX=0->aF.find (bT T).pure f=some fn.M
 |[],f,fn,h,_=>by simp[ar.find] at h
 |g::l,f,fn,h,hm=>by
  simp only[ar.find] at h
  split at h
  ·rename_i e
   injection h with h
   subst h
   simp only[bT,List.filterMap_cons,hm,aF.find]
   rw[if_pos (Nat.eq_of_beq_eq_true e)]
  ·rename_i e
   have ih:aF.find (bT l).pure f=some fn.M:=ar.M7 h hm
   simp only[bT,List.filterMap_cons] at ih⊢
   by_cases hg:g.mu.dX=0
   ·simp only[hg,aF.find]
    rw[if_neg (fun he=>by rw[he,Nat.beq_refl] at e;cases e)]
    exact ih
   ·split
    ·exact ih
    ·rename_i z hz
     split at hz
     ·rename_i h0;exact absurd h0 hg
     ·cases hz
theorem ar.M6:∀{T:List ar} {f:FuncId} {fn:ar},ar.find T f=some fn->fn.mu.dX=1->aF.me (bT T).tZ f=some (fn.mu,fn.MM)
 |[],f,fn,h,_=>by simp[ar.find] at h
 |g::l,f,fn,h,hm=>by
  simp only[ar.find] at h
  split at h
  ·rename_i e
   injection h with h
   subst h
   simp only[bT,List.filterMap_cons,hm,aF.me]
   rw[if_pos (Nat.eq_of_beq_eq_true e)]
  ·rename_i e
   have ih:aF.me (bT l).tZ f=some (fn.mu,fn.MM):=ar.M6 h hm
   simp only[bT,List.filterMap_cons] at ih⊢
   by_cases hg:g.mu.dX=1
   ·simp only[hg,aF.me]
    rw[if_neg (fun he=>by rw[he,Nat.beq_refl] at e;cases e)]
    exact ih
   ·split
    ·exact ih
    ·rename_i z hz
     split at hz
     ·rename_i h0;exact absurd h0 hg
     ·cases hz
theorem ar.WS:∀{T:List ar} {f:FuncId} {fn:ar},ar.find T f=some fn->fn.mu.dX=2->aF.jY (bT T).vs f=some fn.MV
 |[],f,fn,h,_=>by simp[ar.find] at h
 |g::l,f,fn,h,hm=>by
  simp only[ar.find] at h
  split at h
  ·rename_i e
   injection h with h
   subst h
   simp only[bT,List.filterMap_cons,hm,aF.jY]
   rw[if_pos (Nat.eq_of_beq_eq_true e)]
  ·rename_i e
   have ih:aF.jY (bT l).vs f=some fn.MV:=ar.WS h hm
   simp only[bT,List.filterMap_cons] at ih⊢
   by_cases hg:g.mu.dX=2
   ·simp only[hg,aF.jY]
    rw[if_neg (fun he=>by rw[he,Nat.beq_refl] at e;cases e)]
    exact ih
   ·split
    ·exact ih
    ·rename_i z hz
     split at hz
     ·rename_i h0;exact absurd h0 hg
     ·cases hz
def wg (m:Mode) (σ:aa):Nat->List TD->Option (List SC×Nat×aa)
 |nm,[]=>some ([],nm,σ)
 |nm,⟨t,x⟩::cs=>match t,x with
  |.list ts,xs=>match σ.ins nm (.row m.si m ts xs) with
   |some σ1=>match wg m σ1 (nm+1) cs with
    |some (l,fg,σ2)=>some (.sl nm ts.length 0 (J (α:=Ty.DL ts) xs)::l,fg,σ2)
    |none=>none
   |none=>none
  |.int k,x=>match wg m σ nm cs with
   |some (l,fg,σ2)=>some (.v (.int k) x::l,fg,σ2)
   |none=>none
  |.bool,x=>match wg m σ nm cs with
   |some (l,fg,σ2)=>some (.v .bool x::l,fg,σ2)
   |none=>none
theorem Ku (m:Mode):∀{cs:List TD} {σ σ1:aa} {nm fg:Nat} {l:List SC},wg m σ nm cs=some (l,fg,σ1)->
  σ.er.imp m nm (cg cs)=some (l.map SC.er,fg,σ1.er)
 |[],σ,σ1,nm,fg,l,h=>by
  simp only[wg] at h
  injection h with h
  injection h with h1 h2
  injection h2 with h2 h3
  subst h1 h2 h3
  rfl
 |⟨.list ts,xs⟩::cs,σ,σ2,nm,fg,l,h=>by
  simp only[wg] at h
  split at h
  ·rename_i σ1 e1
   split at h
   ·rename_i l' Ft fE e2
    injection h with h
    injection h with h1 h2
    injection h2 with h2 h3
    subst h1 h2 h3
    have i1:σ.er.ins nm (.row m.si m ts.length (List.map (Ty.aw ts) xs))=some σ1.er:=aa.m9 e1
    have i2:=Ku m e2
    simp only[cg] at i2
    simp only[cg,List.map_cons,Ty.er,St.imp,i1,i2,SC.er]
    exact congrArg (fun q=>some (ab.sl nm ts.length 0 q::List.map SC.er l',Ft,fE.er)) (List.length_map (Ty.aw ts))
   ·cases h
  ·cases h
 |⟨.int k,x⟩::cs,σ,σ2,nm,fg,l,h=>by
  simp only[wg] at h
  split at h
  ·rename_i l' Ft fE e2
   injection h with h
   injection h with h1 h2
   injection h2 with h2 h3
   subst h1 h2 h3
   have i2:=Ku m e2
   simp only[cg] at i2
   simp only[cg,List.map_cons,Ty.er,St.imp,i2,SC.er]
  ·cases h
 |⟨.bool,x⟩::cs,σ,σ2,nm,fg,l,h=>by
  simp only[wg] at h
  split at h
  ·rename_i l' Ft fE e2
   injection h with h
   injection h with h1 h2
   injection h2 with h2 h3
   subst h1 h2 h3
   have i2:=Ku m e2
   simp only[cg] at i2
   simp only[cg,List.map_cons,Ty.er,St.imp,i2,SC.er]
  ·cases h
def K.isAgg:K->Bool
 |.agg=>true
 |_=>false
def K.tO:K->Bool
 |.ptr=>true
 |_=>false
def yd (m:Mode) (σ:aa):Nat->List bz->Option (List (Bool×List SC)×aa)
 |_,[]=>some ([],σ)
 |nm,(k,cs)::ds=>match k.tO with
  |true=>none
  |false=>match wg m σ nm cs with
   |some (l,fg,σ1)=>match yd m σ1 fg ds with
    |some (ls,σ2)=>some ((k.isAgg,l)::ls,σ2)
    |none=>none
   |none=>none
theorem FW (m:Mode):∀{ds:List bz} {σ σ1:aa} {nm:Nat} {ls:List (Bool×List SC)},yd m σ nm ds=some (ls,σ1)->
  σ.er.iq m nm (ds.map bz.er)=some (ls.map (fun x=>(x.1,x.2.map SC.er)),σ1.er)
 |[],σ,σ1,nm,ls,h=>by
  simp only[yd] at h
  injection h with h
  injection h with h1 h2
  subst h1 h2
  rfl
 |(k,cs)::ds,σ,σ2,nm,ls,h=>by
  simp only[yd] at h
  split at h
  ·cases h
  ·rename_i hk
   split at h
   ·rename_i l fg σ1 e1
    split at h
    ·rename_i zZ fE e2
     injection h with h
     injection h with h1 h2
     subst h1 h2
     have i1:=Ku m e1
     have i2:=FW m e2
     have Yl:σ1.er.iq m fg (List.map bz.er ds)=some (zZ.map (fun x=>(x.1,x.2.map SC.er)),fE.er):=i2
     cases k with
     |ptr=>cases hk
     |one=>simp only[List.map_cons,bz.er,St.iq,i1,Yl];rfl
     |agg=>simp only[List.map_cons,bz.er,St.iq,i1,Yl];rfl
    ·cases h
   ·cases h
def yi:List (Bool×List SC)->SV
 |[(ag,cs)]=>Ao ag cs
 |l=>.bk l
theorem Ah (l:List (Bool×List SC)):(yi l).er=jS (l.map fun x=>(x.1,x.2.map SC.er)):=by
 match l with
 |[]=>rfl
 |[(ag,cs)]=>exact Db ag cs
 |_::_::_=>rfl
section
variable {ρ:Type}
def Kp (T:List ar) (m:Mode) (d:Option Nat) (f:FuncId) (as:List SV) (σ:aa) (k:aa->Option ρ):Option ρ:=
 match ar.find T f with
 |some fn=>match fn.mu.dX with
  |0=>Da σ.h as fun ds=>match lJ fn.args ds with
   |some x=>(fn.F x).U fun rs=>match yd m σ (iw d) (fW fn.aB rs) with
    |some (ls,σ1)=>k (σ1.put d (yi ls))
    |none=>none
   |none=>none
  |_=>none
 |none=>none
theorem aax {T:List ar} {m:Mode} {d:Option Nat} {f:FuncId} {as:List SV} {σ:aa} {k:aa->Option ρ} {r:ρ} (h:Kp T m d f as σ k=some r):
  ∃σ1:aa,rL (bT T) m d f (as.map SV.er) σ.er=some σ1.er/\k σ1=some r:=by
 unfold Kp at h
 split at h
 ·rename_i fn hf
  split at h
  ·rename_i gM
   obtain⟨ds,h1,h2⟩:=KP h
   split at h2
   ·rename_i x hx
    rw[cU] at h2
    obtain⟨rs,hF,h2⟩:=h2
    split at h2
    ·rename_i ls σ1 hs
     refine⟨_,?_,h2⟩
     have e:=FW m hs
     rw[rK] at e
     have hv:ji σ.er.h (as.map SV.er)=some (ds.map bz.er):=h1
     simp only[rL,hv,ar.M7 hf gM,pQ hx,ar.sS,hF,Option.map_some,e,aa.cL,Ah]
    ·cases h2
   ·cases h2
  ·cases h
 ·cases h
def Ab:List bz->Option (List (Bool×List SC))
 |[]=>some []
 |(k,cs)::ds=>match k.tO with
  |true=>none
  |false=>match Ab ds with
   |some ls=>some ((k.isAgg,cs.map fun x=>SC.v x.1 x.2)::ls)
   |none=>none
theorem Ko:∀{ds:List bz} {ls:List (Bool×List SC)},Ab ds=some ls->gu (ds.map bz.er)=some (ls.map fun x=>(x.1,x.2.map SC.er))
 |[],ls,h=>by simp only[Ab] at h;injection h with h;subst h;rfl
 |(k,cs)::ds,ls,h=>by
  simp only[Ab] at h
  split at h
  ·cases h
  ·rename_i hk
   split at h
   ·rename_i zZ e
    injection h with h
    subst h
    have i2:=Ko e
    have ec:(cg cs).map ab.c=(cs.map fun x=>SC.v x.1 x.2).map SC.er:=by simp[cg,SC.er]
    cases k with
    |ptr=>cases hk
    |one=>simp only[List.map_cons,bz.er,gu];rw[show gu (List.map bz.er ds)=_ from i2];simp only;rw[ec];rfl
    |agg=>simp only[List.map_cons,bz.er,gu];rw[show gu (List.map bz.er ds)=_ from i2];simp only;rw[ec];rfl
   ·cases h
def TJ (T:List ar) (d:Option Nat) (f:FuncId) (as:List SV) (σ:aa) (k:aa->Option ρ):Option ρ:=
 match ar.find T f with
 |some fn=>match fn.mu.dX with
  |0=>Da σ.h as fun ds=>match lJ fn.args ds with
   |some x=>(fn.F x).U fun rs=>match Ab (fW fn.aB rs) with
    |some ls=>k (σ.put d (yi ls))
    |none=>none
   |none=>none
  |_=>none
 |none=>none
theorem alF {T:List ar} {d:Option Nat} {f:FuncId} {as:List SV} {σ:aa} {k:aa->Option ρ} {r:ρ} (h:TJ T d f as σ k=some r):
  ∃v:SV,uF (bT T) f (as.map SV.er) σ.er.h=some v.er/\k (σ.put d v)=some r:=by
 unfold TJ at h
 split at h
 ·rename_i fn hf
  split at h
  ·rename_i gM
   obtain⟨ds,h1,h2⟩:=KP h
   split at h2
   ·rename_i x hx
    rw[cU] at h2
    obtain⟨rs,hF,h2⟩:=h2
    split at h2
    ·rename_i ls hs
     refine⟨_,?_,h2⟩
     have e:=Ko hs
     rw[rK] at e
     have hv:ji σ.er.h (as.map SV.er)=some (ds.map bz.er):=h1
     simp only[uF,hv,ar.M7 hf gM,pQ hx,ar.sS,hF,Option.map_some,e,Ah]
    ·cases h2
   ·cases h2
  ·cases h
 ·cases h
def Ty.td:Ty->Bool
 |.list ts=>Ty.eo ts
 |_=>true
def UE:Mode->List Ty->Bool
 |.af,ts=>Ty.eo ts
 |.live,ts=>ts.all Ty.td
 |.aG,_=>false
theorem sA (ts:List Ty) (xs:List (Ty.DL ts)) (h:Ty.eo ts=true):dd (List.map (Ty.aw ts) xs)=true:=by
 simp only[dd,List.all_eq_true,List.mem_map]
 rintro e ⟨x,_,rfl⟩
 rw[Ty.FM];exact h
theorem V8 (t:Ty) (x:t.D) (h:Ty.td t=true):C.td (t.er x)=true:=by
 cases t with
 |int k=>rfl
 |bool=>rfl
 |list ts=>exact sA ts x h
theorem V7:∀(ts:List Ty) (x:Ty.DL ts),ts.all Ty.td=true->(Ty.aw ts x).all C.td=true
 |[],_,_=>rfl
 |[t],x,h=>by
  simp only[List.all_cons,List.all_nil,Bool.and_true] at h
  simp only[Ty.aw,List.all_cons,List.all_nil,Bool.and_true]
  exact V8 t x h
 |t::u::ts,x,h=>by
  simp only[List.all_cons (a:=t),Bool.and_eq_true] at h
  simp only[Ty.aw,List.all_cons (a:=Ty.er t x.1),Bool.and_eq_true]
  exact⟨V8 t x.1 h.1,V7 (u::ts) x.2 h.2⟩
theorem WW (m:Mode) (ts:List Ty) (xs:List (Ty.DL ts)) (h:UE m ts=true):th m (List.map (Ty.aw ts) xs)=true:=by
 cases m with
 |aG=>cases h
 |af=>exact sA ts xs h
 |live=>
  simp only[th,List.all_eq_true,List.mem_map]
  rintro e ⟨x,_,rfl⟩
  have:=V7 ts x h
  simpa[List.all_eq_true] using this
def Mode.E8:Mode->Bool
 |.live=>true
 |_=>false
def Mode.YC:Mode->Bool
 |.af=>true
 |_=>false
def TZ (h:Nat->Option SB) (md:Mode) (c:SC) (k:cq->(t:Ty)->t.D->Option ρ):Option ρ:=
 match c with
 |.nil ts=>match ts with
  |[]=>none
  |t::us=>da md.own (k (.nil (us.length+1)) (.list (t::us)) ([]:List (Ty.DL (t::us))))
 |.sl n sz lo len=>match h n with
  |some (.row gr m ts xs)=>da (m.own&&((!md.E8||m.E8)&&(UE md ts&&(!m.E8|| !gr)))) (bH ts.length sz ((ai lo len (J xs)).U fun _=>k (.row n) (.list ts) xs))
  |_=>none
 |.bf n kk au off sz len=>match h n with
  |some (.row false .live ts xs)=>da md.YC (bH ts.length au ((dj xs kk).U fun e=>match(Ty.fG ts e)[off]? with
   |some ⟨.list us,ys⟩=>da (Ty.eo us) (k (.nest n kk off) (.list us) ys)
   |_=>none))
  |_=>none
 |_=>none
theorem alY {h:Nat->Option SB} {md:Mode} {c:SC} {k:cq->(t:Ty)->t.D->Option ρ} {r:ρ} (hx:TZ h md c k=some r):
  ∃(it:cq) (t:Ty) (x:t.D),sf (cf h) md c.er=some (it,t.er x)/\k it t x=some r:=by
 unfold TZ at hx
 split at hx
 ·split at hx
  ·cases hx
  ·rename_i t us
   have hm:=(bw hx).1;replace hx:=(bw hx).2
   refine⟨_,.list (t::us),[],?_,hx⟩
   have bm:md≠ .aG:=by rintro rfl;cases hm
   simp[SC.er,sf,Ty.er,bm]
 ·rename_i n sz lo len
  split at hx
  ·rename_i gr m ts xs hn
   have hm:=(bw hx).1;replace hx:=(bw hx).2
   have aQ:=(aH hx).1;replace hx:=(aH hx).2;subst aQ
   rw[cU] at hx
   obtain⟨_,hf,hx⟩:=hx
   have Oh:lo=0/\len=J xs:=by
    unfold ai at hf
    split at hf
    ·assumption
    ·cases hf
   obtain⟨rfl,rfl⟩:=Oh
   simp only[Bool.and_eq_true] at hm
   have bm:m≠ .aG:=by rintro rfl;cases hm.1
   have tt:md=.live->m=.live:=by
    rintro rfl
    have:=hm.2.1
    cases m<;>first|rfl|(simp[Mode.E8] at this)
   refine⟨_,.list ts,xs,?_,hx⟩
   simp only[SC.er,sf,cf,hn,Option.map_some,SB.er,Ty.er]
   rw[if_pos ⟨bm,tt,trivial,trivial,(List.length_map (Ty.aw ts)).symm,WW md ts xs hm.2.2.1,fun hl=>by
    have:=hm.2.2.2
    subst hl
    simpa[Mode.E8] using this⟩]
  ·cases hx
 ·rename_i n kk au off sz len
  split at hx
  ·rename_i ts xs hn
   have hm:=(bw hx).1;replace hx:=(bw hx).2
   have aQ:=(aH hx).1;replace hx:=(aH hx).2;subst aQ
   rw[cU] at hx
   obtain⟨e,he,hx⟩:=hx
   replace he:xs[kk]? =some e:=he
   split at hx
   ·rename_i us ys hd
    have hs:=(bw hx).1;replace hx:=(bw hx).2
    refine⟨_,.list us,ys,?_,hx⟩
    have Ja:md=.af:=by cases md<;>first|rfl|(simp[Mode.YC] at hm)
    have gK:=Is hd
    simp only[SC.er,sf,cf,hn,Option.map_some,SB.er,List.getElem?_map,he,Option.bind_some,gK,Ty.er,Ja,and_self,if_true]
    rw[if_pos (sA us ys hs)]
   ·cases hx
  ·cases hx
 ·cases hx
def SC.nm:SC->List Nat
 |.sl n _ _ _=>[n]
 |.bf n _ _ _ _ _=>[n]
 |_=>[]
theorem SC.ajQ (c:SC):c.er.dq.toList=c.nm:=by cases c<;>rfl
def Af:List (Option Mode)->List SC->List Nat
 |some _::fs,c::cs=>c.nm++Af fs cs
 |none::fs,_::cs=>Af fs cs
 |_,_=>[]
theorem Kz:∀(fs:List (Option Mode)) (cs:List SC),lL fs (cs.map SC.er)=Af fs cs
 |some m::fs,c::cs=>by simp only[List.map_cons,lL,Af,SC.ajQ,Kz fs cs]
 |none::fs,c::cs=>by simp only[List.map_cons,lL,Af,Kz fs cs]
 |[],cs=>by cases cs<;>rfl
 |some m::fs,[]=>rfl
 |none::fs,[]=>rfl
def yf:aN->List (Bool×List SC)->List Nat
 |s::sig,a::as=>Af s a.2++yf sig as
 |_,_=>[]
theorem Ky:∀(sig:aN) (as:List (Bool×List SC)),nD sig (as.map fun x=>(x.1,x.2.map SC.er))=yf sig as
 |s::sig,a::as=>by simp only[List.map_cons,nD,yf,Kz,Ky sig as]
 |[],as=>by cases as<;>rfl
 |s::sig,[]=>rfl
def CZ (h:Nat->Option SB) (ns:List Nat):Nat->Option SB:=fun n=>match ns.contains n with|true=>none|false=>h n
theorem Kt (h:Nat->Option SB) (ns:List Nat):cf (CZ h ns)=cB (cf h) ns:=by
 funext n
 simp only[cf,CZ,cB]
 cases hc:ns.contains n<;>simp[hc]
def ug (h h0:Nat->Option SB):List (Option Mode)->List SC->(List TD->List (cq×Mode)->Option ρ)->Option ρ
 |[],cs,k=>An h0 cs fun l=>k l []
 |none::fs,c::cs,k=>wk h0 c fun t x=>ug h h0 fs cs fun l its=>k (⟨t,x⟩::l) its
 |some md::fs,c::cs,k=>TZ h md c fun it t x=>ug h h0 fs cs fun l its=>k (⟨t,x⟩::l) ((it,md)::its)
 |_::_,[],_=>none
theorem Kx {h h0:Nat->Option SB}:∀{fs:List (Option Mode)} {cs:List SC} {k:List TD->List (cq×Mode)->Option ρ} {r:ρ},ug h h0 fs cs k=some r->
  ∃l its,iM (cf h) (cf h0) fs (cs.map SC.er)=some (cg l,its)/\k l its=some r
 |[],cs,k,r,hx=>by
  simp only[ug] at hx
  obtain⟨l,h1,h2⟩:=Ge hx
  exact⟨l,[],by simp only[iM,h1],h2⟩
 |none::fs,c::cs,k,r,hx=>by
  simp only[ug] at hx
  obtain⟨t,x,h1,h2⟩:=Al hx
  obtain⟨l,its,h3,h4⟩:=Kx h2
  exact⟨⟨t,x⟩::l,its,by simp only[List.map_cons,iM,h1,h3,cg],h4⟩
 |some md::fs,c::cs,k,r,hx=>by
  simp only[ug] at hx
  obtain⟨it,t,x,h1,h2⟩:=alY hx
  obtain⟨l,its,h3,h4⟩:=Kx h2
  exact⟨⟨t,x⟩::l,(it,md)::its,by simp only[List.map_cons,iM,h1,h3,cg],h4⟩
 |none::fs,[],k,r,hx=>by simp[ug] at hx
 |some md::fs,[],k,r,hx=>by simp[ug] at hx
def Cm:Bool->K
 |true=>.agg
 |false=>.one
def C1 (h h0:Nat->Option SB):aN->List (Bool×List SC)->(List bz->List (cq×Mode)->Option ρ)->Option ρ
 |_,[],k=>k [] []
 |sig,(ag,cs)::as,k=>ug h h0 sig.hd cs fun l its=>C1 h h0 sig.tl as fun ds oz=>k ((Cm ag,l)::ds) (its++oz)
theorem KA {h h0:Nat->Option SB}:∀{as:List (Bool×List SC)} {sig:aN} {k:List bz->List (cq×Mode)->Option ρ} {r:ρ},C1 h h0 sig as k=some r->
  ∃ds its,kH (cf h) (cf h0) sig (as.map fun x=>(x.1,x.2.map SC.er))=some (ds.map bz.er,its)/\k ds its=some r
 |[],sig,k,r,hx=>⟨[],[],by simp only[List.map_nil,kH],hx⟩
 |(ag,cs)::as,sig,k,r,hx=>by
  simp only[C1] at hx
  obtain⟨l,its,h1,h2⟩:=Kx hx
  obtain⟨ds,oz,h3,h4⟩:=KA h2
  refine⟨_,_,?_,h4⟩
  simp only[List.map_cons,kH,h1,h3,bz.er]
  cases ag<;>rfl
def Ad:List SV->Option (List (Bool×List SC))
 |[]=>some []
 |v::vs=>match v.cells?,Ad vs with
  |some x,some xs=>some (x::xs)
  |_,_=>none
theorem Kw:∀{as:List SV} {bY:List (Bool×List SC)},Ad as=some bY->pM (as.map SV.er)=some (bY.map fun x=>(x.1,x.2.map SC.er))
 |[],bY,h=>by simp only[Ad] at h;injection h with h;subst h;rfl
 |v::vs,bY,h=>by
  simp only[Ad] at h
  split at h
  ·rename_i x xs e1 e2
   injection h with h
   subst h
   obtain⟨b,cs⟩:=x
   simp only[List.map_cons,pM,SV.jo e1,Kw e2]
  ·cases h
def FQ (ts:List Ty) (e:Ty.DL ts) (off:Nat) (x:TD):Option (Ty.DL ts):=pP ts ((Ty.fG ts e).set off x)
theorem TQ {ts:List Ty} {e e':Ty.DL ts} {off:Nat} {x:TD} (h:FQ ts e off x=some e'):Ty.aw ts e'=(Ty.aw ts e).set off (x.1.er x.2):=by
 have:=vP h
 rw[this,cg,List.map_set,<-Ty.n5 ts e]
 rfl
def T5 (σ:aa) (it:cq) (x:TD) (k:aa->Option ρ):Option ρ:=
 match it with
 |.nil _=>k σ
 |.row n=>match x with
  |⟨.list ts,xs⟩=>match σ.h n with
   |some (.row gr m us _)=>bH us.length ts.length (k (σ.cW n (.row gr m ts xs)))
   |_=>none
  |_=>none
 |.nest n kk off=>match σ.h n with
  |some (.row gr m us xs)=>(dj xs kk).U fun e=>match FQ us e off x with
   |some e'=>k (σ.cW n (.row gr m us (cK xs kk e')))
   |none=>none
  |_=>none
theorem al7 {σ:aa} {it:cq} {x:TD} {k:aa->Option ρ} {r:ρ} (hx:T5 σ it x k=some r):∃σ1,σ.er.nG it (x.1.er x.2)=some σ1.er/\k σ1=some r:=by
 unfold T5 at hx
 split at hx
 ·exact⟨σ,rfl,hx⟩
 ·rename_i n
  split at hx
  ·rename_i ts xs
   split at hx
   ·rename_i gr m us ys hn
    have aQ:=(aH hx).1;replace hx:=(aH hx).2
    refine⟨_,?_,hx⟩
    have bh:σ.er.h n=some (.row gr m us.length (List.map (Ty.aw us) ys)):=by simp[aa.er,cf,hn,SB.er]
    simp only[St.nG,Ty.er,bh,aQ,if_true,aa.n6,SB.er]
   ·cases hx
  ·cases hx
 ·rename_i n kk off
  split at hx
  ·rename_i gr m us xs hn
   rw[cU] at hx
   obtain⟨e,he,hx⟩:=hx
   replace he:xs[kk]? =some e:=he
   split at hx
   ·rename_i e' hs
    refine⟨_,?_,hx⟩
    have bh:σ.er.h n=some (.row gr m us.length (List.map (Ty.aw us) xs)):=by simp[aa.er,cf,hn,SB.er]
    simp only[St.nG,bh,List.getElem?_map,he,Option.map_some,aa.n6,SB.er,cK,List.map_set,TQ hs]
   ·cases hx
  ·cases hx
def yh (σ:aa):List (cq×Mode)->List TD->(aa->Option ρ)->Option ρ
 |[],[],k=>k σ
 |it::its,x::xs,k=>T5 σ it.1 x fun σ1=>yh σ1 its xs k
 |_,_,_=>none
theorem KD:∀{its:List (cq×Mode)} {xs:List TD} {σ:aa} {k:aa->Option ρ} {r:ρ},yh σ its xs k=some r->∃σ1,σ.er.mL its (cg xs)=some σ1.er/\k σ1=some r
 |[],[],σ,k,r,hx=>⟨σ,rfl,hx⟩
 |it::its,x::xs,σ,k,r,hx=>by
  simp only[yh] at hx
  obtain⟨σ1,h1,h2⟩:=al7 hx
  obtain⟨σ2,h3,h4⟩:=KD h2
  refine⟨σ2,?_,h4⟩
  simp only[cg] at h3
  simp only[cg,List.map_cons,St.mL,h1,h3]
 |[],_::_,σ,k,r,hx=>by simp[yh] at hx
 |_::_,[],σ,k,r,hx=>by simp[yh] at hx
def Cx:List Nat->Bool
 |[]=>true
 |n::l=> !(l.contains n)&&Cx l
theorem JW:∀{l:List Nat},Cx l=true->l.Nodup
 |[],_=>List.nodup_nil
 |n::l,h=>by
  simp only[Cx,Bool.and_eq_true,Bool.not_eq_true'] at h
  rw[List.nodup_cons]
  refine⟨fun hm=>?_,JW h.2⟩
  have:l.contains n=true:=by simpa using hm
  rw[this] at h
  cases h.1
def TK (T:List ar) (m:Mode) (d:Option Nat) (f:FuncId) (as:List SV) (σ:aa) (k:aa->Option ρ):Option ρ:=
 match ar.find T f with
 |some fn=>match fn.mu.dX with
  |1=>match Ad as with
   |some bY=>da (Cx (yf fn.mu bY)) (C1 σ.h (CZ σ.h (yf fn.mu bY)) fn.mu bY fun ds its=>match lJ fn.args ds with
    |some x=>(fn.F x).U fun y=>yh σ its (((fW fn.aB y).drop (fn.aB.length - fn.mu.bF)).flatMap (·.2)) fun σ1=>match yd m σ1 (iw d) ((fW fn.aB y).take (fn.aB.length - fn.mu.bF)) with
     |some (ls,σ2)=>k (σ2.put d (yi ls))
     |none=>none
    |none=>none)
   |none=>none
  |_=>none
 |none=>none
def T2 (h:Nat->Option SB) (s:List (Option Mode)) (v:SV):Option (K×List SC):=
 match v with
 |.one (.ptr n k _ off)=>match h n with
  |some (.box cs)=>match Nat.beq k 0&&(Nat.beq off 0&&Ri s cs.length) with
   |true=>some (.ptr,cs)
   |false=>none
  |_=>none
 |v=>match v.cells? with
  |some (ag,cs)=>some (Cm ag,cs)
  |none=>none
theorem ajT {v:SV} (h:∀n k z off,v≠ .one (.ptr n k z off)):∀n k z off,v.er≠ .one (.ptr n k z off):=by
 intro n k z off e
 cases v with
 |one c=>
  cases c with
  |ptr n' k' z' jR=>exact h n' k' z' jR rfl
  |_=>simp[SV.er,SC.er] at e
 |agg cs=>simp[SV.er] at e
 |bk xs=>simp[SV.er] at e
theorem al3 {h:Nat->Option SB} {s:List (Option Mode)} {v:SV} {x:K×List SC} (hx:T2 h s v=some x):xR (cf h) s v.er=some (x.1,x.2.map SC.er):=by
 unfold T2 at hx
 split at hx
 ·rename_i n k z off
  split at hx
  ·rename_i cs hn
   split at hx
   ·rename_i hc
    injection hx with hx
    subst hx
    simp only[Bool.and_eq_true] at hc
    have h1:=Nat.eq_of_beq_eq_true hc.1
    have h2:=Nat.eq_of_beq_eq_true hc.2.1
    subst h1 h2
    simp only[SV.er,SC.er,xR,cf,hn,Option.map_some,SB.er,List.length_map]
    rw[if_pos ⟨trivial,trivial,hc.2.2⟩]
   ·cases hx
  ·cases hx
 ·rename_i v av
  split at hx
  ·rename_i ag cs hv
   injection hx with hx
   subst hx
   have eH:=SV.jo hv
   have bW:∀u:ah,(∀n k z off,u≠ .one (.ptr n k z off))->u.cells?=some (ag,cs.map SC.er)->xR (cf h) s u=some (Cm ag,cs.map SC.er):=by
    intro u hu hc
    unfold xR
    split
    ·rename_i n k z off
     exact absurd rfl (hu n k z off)
    ·rw[hc]
     cases ag<;>rfl
   exact bW _ (ajT fun n k z off e=>av n k z off e) eH
  ·cases hx
def F4 (h:Nat->Option SB):aN->List SV->Option (List (K×List SC))
 |_,[]=>some []
 |sig,v::vs=>match T2 h sig.hd v,F4 h sig.tl vs with
  |some x,some xs=>some (x::xs)
  |_,_=>none
theorem aaR {h:Nat->Option SB}:∀{as:List SV} {sig:aN} {bY:List (K×List SC)},F4 h sig as=some bY->xS (cf h) sig (as.map SV.er)=some (bY.map fun x=>(x.1,x.2.map SC.er))
 |[],sig,bY,hx=>by simp only[F4] at hx;injection hx with hx;subst hx;rfl
 |v::vs,sig,bY,hx=>by
  simp only[F4] at hx
  split at hx
  ·rename_i x xs e1 e2
   injection hx with hx
   subst hx
   simp only[List.map_cons,xS,al3 e1,aaR e2]
  ·cases hx
def F7:aN->List (K×List SC)->List Nat
 |s::sig,a::as=>Af s a.2++F7 sig as
 |_,_=>[]
theorem aaX:∀(sig:aN) (as:List (K×List SC)),xV sig (as.map fun x=>(x.1,x.2.map SC.er))=F7 sig as
 |s::sig,a::as=>by simp only[List.map_cons,xV,F7,Kz,aaX sig as]
 |[],as=>by cases as<;>rfl
 |s::sig,[]=>rfl
def KE (h h0:Nat->Option SB):aN->List (K×List SC)->(List bz->List (cq×Mode)->Option ρ)->Option ρ
 |_,[],k=>k [] []
 |sig,(kk,cs)::as,k=>ug h h0 sig.hd cs fun l its=>KE h h0 sig.tl as fun ds oz=>k ((kk,l)::ds) (its++oz)
theorem aa0 {h h0:Nat->Option SB}:∀{as:List (K×List SC)} {sig:aN} {k:List bz->List (cq×Mode)->Option ρ} {r:ρ},KE h h0 sig as k=some r->
  ∃ds its,rb (cf h) (cf h0) sig (as.map fun x=>(x.1,x.2.map SC.er))=some (ds.map bz.er,its)/\k ds its=some r
 |[],sig,k,r,hx=>⟨[],[],by simp only[List.map_nil,rb],hx⟩
 |(kk,cs)::as,sig,k,r,hx=>by
  simp only[KE] at hx
  obtain⟨l,its,h1,h2⟩:=Kx hx
  obtain⟨ds,oz,h3,h4⟩:=aa0 h2
  exact⟨_,_,by simp only[List.map_cons,rb,h1,h3,bz.er],h4⟩
def TM (T:List ar) (m:Mode) (d:Option Nat) (f:FuncId) (as:List SV) (σ:aa) (k:aa->Option ρ):Option ρ:=
 match ar.find T f with
 |some fn=>match fn.mu.dX with
  |1=>match F4 σ.h fn.mu as with
   |some bY=>da (Cx (F7 fn.mu bY)) (KE σ.h (CZ σ.h (F7 fn.mu bY)) fn.mu bY fun ds its=>match lJ fn.args ds with
    |some x=>(fn.F x).U fun y=>yh σ its (((fW fn.aB y).drop (fn.aB.length - fn.mu.bF)).flatMap (·.2)) fun σ1=>match yd m σ1 (iw d) ((fW fn.aB y).take (fn.aB.length - fn.mu.bF)) with
     |some (ls,σ2)=>k (σ2.put d (yi ls))
     |none=>none
    |none=>none)
   |none=>none
  |_=>none
 |none=>none
theorem Ag (k:Nat) (l:List bz):wh k (l.map bz.er)=((l.take k).map bz.er,cg ((l.drop k).flatMap (·.2))):=by
 simp only[wh,<-List.map_take,<-List.map_drop]
 congr 1
 induction l.drop k with
 |nil=>rfl
 |cons d l ih=>
  simp only[List.map_cons,List.flatMap_cons,ih,cg,List.map_append,bz.er]
theorem alG {T:List ar} {m:Mode} {d:Option Nat} {f:FuncId} {as:List SV} {σ:aa} {k:aa->Option ρ} {r:ρ} (h:TK T m d f as σ k=some r):
  ∃σ1:aa,qu (bT T) m d f (as.map SV.er) σ.er=some σ1.er/\k σ1=some r:=by
 unfold TK at h
 split at h
 ·rename_i fn hf
  split at h
  ·rename_i gM
   split at h
   ·rename_i bY hc
    have d7:=JW (bw h).1;replace h:=(bw h).2
    obtain⟨ds,its,h1,h2⟩:=KA h
    split at h2
    ·rename_i x hx
     rw[cU] at h2
     obtain⟨y,hF,h2⟩:=h2
     obtain⟨σ1,h3,h4⟩:=KD h2
     split at h4
     ·rename_i ls σ2 hs
      refine⟨_,?_,h4⟩
      have e:=FW m hs
      have hM:fn.MM (cF fn.args x)=some (((fW fn.aB y).take (fn.aB.length - fn.mu.bF)).map bz.er,cg (((fW fn.aB y).drop (fn.aB.length - fn.mu.bF)).flatMap (·.2))):=by
       unfold ar.MM
       rw[ar.sS,hF]
       simp only[Option.map_some]
       rw[<-rK,Ag]
      have hh:σ.er.h=cf σ.h:=rfl
      rw[Kt] at h1
      simp only[qu,ar.M6 hf gM,Kw hc,Ky,if_pos d7,hh,h1,pQ hx,hM,h3,e,aa.cL,Ah]
     ·cases h4
    ·cases h2
   ·cases h
  ·cases h
 ·cases h
theorem alI {T:List ar} {m:Mode} {d:Option Nat} {f:FuncId} {as:List SV} {σ:aa} {k:aa->Option ρ} {r:ρ} (h:TM T m d f as σ k=some r):
  ∃σ1:aa,uL (bT T) m d f (as.map SV.er) σ.er=some σ1.er/\k σ1=some r:=by
 unfold TM at h
 split at h
 ·rename_i fn hf
  split at h
  ·rename_i gM
   split at h
   ·rename_i bY hc
    have d7:=JW (bw h).1;replace h:=(bw h).2
    obtain⟨ds,its,h1,h2⟩:=aa0 h
    split at h2
    ·rename_i x hx
     rw[cU] at h2
     obtain⟨y,hF,h2⟩:=h2
     obtain⟨σ1,h3,h4⟩:=KD h2
     split at h4
     ·rename_i ls σ2 hs
      refine⟨_,?_,h4⟩
      have e:=FW m hs
      have hM:fn.MM (cF fn.args x)=some (((fW fn.aB y).take (fn.aB.length - fn.mu.bF)).map bz.er,cg (((fW fn.aB y).drop (fn.aB.length - fn.mu.bF)).flatMap (·.2))):=by
       unfold ar.MM
       rw[ar.sS,hF]
       simp only[Option.map_some]
       rw[<-rK,Ag]
      have hh:σ.er.h=cf σ.h:=rfl
      rw[Kt] at h1
      simp only[uL,ar.M6 hf gM,hh,aaR hc,aaX,if_pos d7,h1,pQ hx,hM,h3,e,aa.cL,Ah]
     ·cases h4
    ·cases h2
   ·cases h
  ·cases h
 ·cases h
def yb:List SC->Option (List TD)
 |[]=>some []
 |.v t x::cs=>match yb cs with
  |some l=>some (⟨t,x⟩::l)
  |none=>none
 |.nil (t::us)::cs=>match yb cs with
  |some l=>some (⟨.list (t::us),([]:List (Ty.DL (t::us)))⟩::l)
  |none=>none
 |_::_=>none
theorem FV:∀{cs:List SC} {l:List TD},yb cs=some l->jt (cs.map SC.er)=some (cg l)
 |[],l,h=>by simp only[yb] at h;injection h with h;subst h;rfl
 |c::cs,l,h=>by
  unfold yb at h
  split at h
  ·rename_i e;cases e
  ·rename_i t x cs' e
   injection e with e1 e2
   subst e1 e2
   split at h
   ·rename_i l' e
    injection h with h
    subst h
    simp only[List.map_cons,jt,SC.er,ox,FV e,cg]
   ·cases h
  ·rename_i t us cs' e
   injection e with e1 e2
   subst e1 e2
   split at h
   ·rename_i l' e
    injection h with h
    subst h
    simp[jt,SC.er,ox,FV e,cg,Ty.er]
   ·cases h
  ·cases h
def Kl (h:Nat->Option SB) (n kk off:Nat):Option (List TD):=
 match kk,off with
 |0,0=>match h n with
  |some (.box cs)=>yb cs
  |_=>none
 |_,_=>none
theorem aam {h:Nat->Option SB} {n kk sz off:Nat} {l:List TD} (e:Kl h n kk off=some l):kU (cf h) (SV.er (.one (.ptr n kk sz off)))=some (n,cg l):=by
 unfold Kl at e
 split at e
 ·split at e
  ·rename_i cs hn
   simp[SV.er,SC.er,kU,cf,hn,SB.er,FV e]
  ·cases e
 ·cases e
def SV.pU:SV->Option (Nat×Nat×Nat)
 |.one (.ptr n kk _ off)=>some (n,kk,off)
 |_=>none
theorem ZP {v:SV} (h:v.pU=none) (hh:Nat->Option aj):kU hh v.er=none:=by
 cases v with
 |one c=>cases c<;>first|rfl|(simp[SV.pU] at h)
 |agg cs=>rfl
 |bk xs=>rfl
theorem ZQ {v:SV} {n kk off:Nat} (h:v.pU=some (n,kk,off)):∃sz,v=.one (.ptr n kk sz off):=by
 cases v with
 |one c=>cases c<;>simp[SV.pU] at h;obtain⟨rfl,rfl,rfl⟩:=h;exact⟨_,rfl⟩
 |agg cs=>simp[SV.pU] at h
 |bk xs=>simp[SV.pU] at h
def FL (σ:aa):List SV->(List bz->List Nat->aa->Option ρ)->Option ρ
 |[],k=>k [] [] σ
 |v::vs,k=>match v.pU with
  |some (n,kk,off)=>match Kl σ.h n kk off with
   |some l=>FL σ vs fun ds ns σ1=>k ((.ptr,l)::ds) (n::ns) σ1
   |none=>none
  |none=>match v.cells? with
   |some (ag,cs)=>Aj σ cs fun l _ σ1=>FL σ1 vs fun ds ns σ2=>k ((Cm ag,l)::ds) ns σ2
   |none=>none
theorem SI:∀{vs:List SV} {σ:aa} {k:List bz->List Nat->aa->Option ρ} {r:ρ},FL σ vs k=some r->
  ∃ds ns σ1,σ.er.gH (vs.map SV.er)=some (ds.map bz.er,ns,σ1.er)/\k ds ns σ1=some r
 |[],σ,k,r,h=>⟨[],[],σ,rfl,h⟩
 |v::vs,σ,k,r,h=>by
  simp only[FL] at h
  split at h
  ·rename_i n kk off hv
   obtain⟨sz,rfl⟩:=ZQ hv
   split at h
   ·rename_i l hl
    obtain⟨ds,ns,σ1,h1,h2⟩:=SI h
    refine⟨_,_,σ1,?_,h2⟩
    have:=aam (sz:=sz) hl
    have hh:σ.er.h=cf σ.h:=rfl
    simp only[List.map_cons,St.gH,hh,this,h1,bz.er]
   ·cases h
  ·rename_i hv
   split at h
   ·rename_i ag cs hc
    obtain⟨l,o,σ1,h1,h2⟩:=Gc h
    obtain⟨ds,ns,σ2,h3,h4⟩:=SI h2
    refine⟨_,_,σ2,?_,h4⟩
    simp only[List.map_cons,St.gH,ZP hv,SV.jo hc,h1,h3,bz.er]
    cases ag<;>rfl
   ·cases h
def T4 (σ:aa) (ns:List Nat) (out:List TD) (k:aa->Option ρ):Option ρ:=
 match ns,out with
 |[],[]=>k σ
 |[n],out=>match σ.h n with
  |some (.box cs)=>bH cs.length out.length (k (σ.cW n (.box (out.map fun x=>.v x.1 x.2))))
  |_=>none
 |_,_=>none
theorem K5 (out:List TD):(out.map fun x=>SC.v x.1 x.2).map SC.er=(cg out).map .c:=by simp[cg,SC.er]
theorem al6 {σ:aa} {ns:List Nat} {out:List TD} {k:aa->Option ρ} {r:ρ} (h:T4 σ ns out k=some r):∃σ1,σ.er.q9 ns (cg out)=some σ1.er/\k σ1=some r:=by
 unfold T4 at h
 split at h
 ·exact⟨σ,rfl,h⟩
 ·rename_i n
  split at h
  ·rename_i cs hn
   have he:=(aH h).1;replace h:=(aH h).2
   refine⟨_,?_,h⟩
   have bh:σ.er.h n=some (.box (cs.map SC.er)):=by simp[aa.er,cf,hn,SB.er]
   simp only[St.q9,bh,List.length_map]
   rw[if_pos (by rw[he,cg,List.length_map]),aa.n6,SB.er,K5]
  ·cases h
 ·cases h
def bz.pU:List bz->Option (List TD)
 |[(.ptr,cs)]=>some cs
 |_=>none
theorem alM {rs:List bz} {cs:List TD} (h:bz.pU rs=some cs):rs=[(.ptr,cs)]:=by
 unfold bz.pU at h
 split at h
 ·injection h with h;rw[h]
 ·cases h
def SJ (σ:aa) (d:Option Nat) (rs:List bz) (k:aa->Option ρ):Option ρ:=
 match bz.pU rs with
 |some cs=>match d with
  |some q=>match σ.ins q (.box (cs.map fun x=>.v x.1 x.2)) with
   |some σ1=>k (σ1.put d (.one (.ptr q 0 0 0)))
   |none=>none
  |none=>none
 |none=>match Ab rs with
  |some ls=>k (σ.put d (yi ls))
  |none=>none
theorem alz {σ:aa} {d:Option Nat} {rs:List bz} {k:aa->Option ρ} {r:ρ} (h:SJ σ d rs k=some r):∃σ1,ql σ.er d (rs.map bz.er)=some σ1.er/\k σ1=some r:=by
 unfold SJ at h
 split at h
 ·rename_i cs hp
  have:=alM hp
  subst this
  split at h
  ·rename_i q
   split at h
   ·rename_i σ1 hi
    refine⟨_,?_,h⟩
    have e:=aa.m9 hi
    rw[SB.er,K5] at e
    simp only[List.map_cons,List.map_nil,bz.er,ql,e,aa.cL]
    rfl
   ·cases h
  ·cases h
 ·split at h
  ·rename_i ls hs
   refine⟨_,?_,h⟩
   have e:=Ko hs
   have hb:ql σ.er d (rs.map bz.er)=match gu (rs.map bz.er) with
     |some ls=>some (σ.er.put d (jS ls))
     |none=>none:=by
    unfold ql
    split
    ·rename_i cs he
     rw[he] at e
     simp[gu] at e
    ·rfl
   rw[hb,e,aa.cL,Ah]
  ·cases h
def TI (T:List ar) (d:Option Nat) (f:FuncId) (as:List SV) (σ:aa) (k:aa->Option ρ):Option ρ:=
 match ar.find T f with
 |some fn=>match fn.mu.dX with
  |2=>FL σ as fun ds ns σ1=>match lJ fn.args ds with
   |some x=>(fn.F x).U fun y=>T4 σ1 ns (((fW fn.aB y).drop (fn.aB.length - pT fn.args)).flatMap (·.2)) fun σ2=>SJ σ2 d ((fW fn.aB y).take (fn.aB.length - pT fn.args)) k
   |none=>none
  |_=>none
 |none=>none
theorem alE {T:List ar} {d:Option Nat} {f:FuncId} {as:List SV} {σ:aa} {k:aa->Option ρ} {r:ρ} (h:TI T d f as σ k=some r):
  ∃σ1:aa,qt (bT T) d f (as.map SV.er) σ.er=some σ1.er/\k σ1=some r:=by
 unfold TI at h
 split at h
 ·rename_i fn hf
  split at h
  ·rename_i gM
   obtain⟨ds,ns,σ1,h1,h2⟩:=SI h
   split at h2
   ·rename_i x hx
    rw[cU] at h2
    obtain⟨y,hF,h2⟩:=h2
    obtain⟨σ2,h3,h4⟩:=al6 h2
    obtain⟨fE,h5,h6⟩:=alz h4
    refine⟨fE,?_,h6⟩
    have hM:fn.MV (cF fn.args x)=some (((fW fn.aB y).take (fn.aB.length - pT fn.args)).map bz.er,cg (((fW fn.aB y).drop (fn.aB.length - pT fn.args)).flatMap (·.2))):=by
     unfold ar.MV
     rw[ar.sS,hF]
     simp only[Option.map_some]
     rw[<-rK,Ag]
    simp only[qt,h1,ar.WS hf gM,pQ hx,hM,h3,h5]
   ·cases h2
  ·cases h
 ·cases h
def ar.ld (k:Nat):List ar->FuncId->Option ar
 |[],_=>none
 |fn::l,f=>match Nat.beq f fn.id&&Nat.beq fn.mu.dX k with
  |true=>some fn
  |false=>ar.ld k l f
theorem ar.WO:∀{T:List ar} {f:FuncId} {fn:ar},ar.ld 2 T f=some fn->aF.jY (bT T).vs f=some fn.MV
 |[],f,fn,h=>by simp[ar.ld] at h
 |g::l,f,fn,h=>by
  simp only[ar.ld] at h
  split at h
  ·rename_i e
   injection h with h
   subst h
   rw[Bool.and_eq_true] at e
   have hm:=Nat.eq_of_beq_eq_true e.2
   simp only[bT,List.filterMap_cons,hm,aF.jY]
   rw[if_pos (Nat.eq_of_beq_eq_true e.1)]
  ·rename_i e
   have ih:aF.jY (bT l).vs f=some fn.MV:=ar.WO h
   simp only[bT,List.filterMap_cons] at ih⊢
   by_cases hg:g.mu.dX=2
   ·simp only[hg,aF.jY]
    rw[if_neg (fun he=>by rw[he,hg,Nat.beq_refl] at e;cases e)]
    exact ih
   ·split
    ·exact ih
    ·rename_i z hz
     split at hz
     ·rename_i h0;exact absurd h0 hg
     ·cases hz
theorem ar.WQ:∀{T:List ar} {f:FuncId} {fn:ar},ar.ld 3 T f=some fn->aF.rN (bT T).ws f=some (fn.mu.tl,fn.MW)
 |[],f,fn,h=>by simp[ar.ld] at h
 |g::l,f,fn,h=>by
  simp only[ar.ld] at h
  split at h
  ·rename_i e
   injection h with h
   subst h
   rw[Bool.and_eq_true] at e
   have hm:=Nat.eq_of_beq_eq_true e.2
   simp only[bT,List.filterMap_cons,hm,aF.rN]
   rw[if_pos (Nat.eq_of_beq_eq_true e.1)]
  ·rename_i e
   have ih:aF.rN (bT l).ws f=some (fn.mu.tl,fn.MW):=ar.WQ h
   simp only[bT,List.filterMap_cons] at ih⊢
   by_cases hg:g.mu.dX=3
   ·simp only[hg,aF.rN]
    rw[if_neg (fun he=>by rw[he,hg,Nat.beq_refl] at e;cases e)]
    exact ih
   ·split
    ·exact ih
    ·rename_i z hz
     split at hz
     ·rename_i h0;exact absurd h0 hg
     ·cases hz
theorem ar.WR:∀{T:List ar} {f:FuncId} {fn:ar},ar.ld 4 T f=some fn->aF.rO (bT T).xs f=some (fn.mu.nP,fn.MX)
 |[],f,fn,h=>by simp[ar.ld] at h
 |g::l,f,fn,h=>by
  simp only[ar.ld] at h
  split at h
  ·rename_i e
   injection h with h
   subst h
   rw[Bool.and_eq_true] at e
   have hm:=Nat.eq_of_beq_eq_true e.2
   simp only[bT,List.filterMap_cons,hm,aF.rO]
   rw[if_pos (Nat.eq_of_beq_eq_true e.1)]
  ·rename_i e
   have ih:aF.rO (bT l).xs f=some (fn.mu.nP,fn.MX):=ar.WR h
   simp only[bT,List.filterMap_cons] at ih⊢
   by_cases hg:g.mu.dX=4
   ·simp only[hg,aF.rO]
    rw[if_neg (fun he=>by rw[he,hg,Nat.beq_refl] at e;cases e)]
    exact ih
   ·split
    ·exact ih
    ·rename_i z hz
     split at hz
     ·rename_i h0;exact absurd h0 hg
     ·cases hz
theorem ar.WN:∀{T:List ar} {f:FuncId} {fn:ar},ar.ld 5 T f=some fn->aF.find (bT T).ns f=some fn.M
 |[],f,fn,h=>by simp[ar.ld] at h
 |g::l,f,fn,h=>by
  simp only[ar.ld] at h
  split at h
  ·rename_i e
   injection h with h
   subst h
   rw[Bool.and_eq_true] at e
   have hm:=Nat.eq_of_beq_eq_true e.2
   simp only[bT,List.filterMap_cons,hm,aF.find]
   rw[if_pos (Nat.eq_of_beq_eq_true e.1)]
  ·rename_i e
   have ih:aF.find (bT l).ns f=some fn.M:=ar.WN h
   simp only[bT,List.filterMap_cons] at ih⊢
   by_cases hg:g.mu.dX=5
   ·simp only[hg,aF.find]
    rw[if_neg (fun he=>by rw[he,hg,Nat.beq_refl] at e;cases e)]
    exact ih
   ·split
    ·exact ih
    ·rename_i z hz
     split at hz
     ·rename_i h0;exact absurd h0 hg
     ·cases hz
def Ur (T:List bz) (i:Nat):Bool:=match T[i]? with
 |some (.one,[⟨.list [.int .i64],_⟩])=>true
 |_=>false
theorem amm {ds:List bz} {i:Nat} (h:Ur ds i=true):∃ys,(ds.map bz.er)[i]? =some (.one,[.list 1 ys]):=by
 unfold Ur at h
 split at h
 ·rename_i x e
  exact⟨_,by rw[List.getElem?_map,e];rfl⟩
 ·cases h
def sdI (a:Int):bz:=(.one,[⟨.int .i64,a⟩])
def TP (T:List ar) (m:Mode) (d:Option Nat) (f:FuncId) (as:List SV) (σ:aa) (k:aa->Option ρ):Option ρ:=
 match ar.ld 4 T f with
 |some fn=>match as[fn.mu.nP]? with
  |some (.one (.sl n s lo len))=>match σ.h n with
   |some (.row _ _ ts xs)=>bH s 1 (bH ts.length 1 ((dj xs lo).U fun _=>(cO xs lo len).U fun _=>match Ad (as.set fn.mu.nP (.one (.sl n 1 0 (J xs)))) with
    |some bY=>da (Cx (yf (yt fn.mu.nP) bY)) (C1 σ.h (CZ σ.h (yf (yt fn.mu.nP) bY)) (yt fn.mu.nP) bY fun ds its=>da (Ur ds fn.mu.nP) (match lJ fn.args (sdI (ba lo)::sdI (ba (aV lo len))::ds) with
     |some x=>(fn.F x).U fun y=>yh σ its (((fW fn.aB y).drop (fn.aB.length - 1)).flatMap (·.2)) fun σ1=>match yd m σ1 (iw d) ((fW fn.aB y).take (fn.aB.length - 1)) with
      |some (ls,σ2)=>k (σ2.put d (yi ls))
      |none=>none
     |none=>none))
    |none=>none))
   |_=>none
  |_=>none
 |none=>none
theorem alL {T:List ar} {m:Mode} {d:Option Nat} {f:FuncId} {as:List SV} {σ:aa} {k:aa->Option ρ} {r:ρ} (h:TP T m d f as σ k=some r):
  ∃σ1:aa,uM (bT T) m d f (as.map SV.er) σ.er=some σ1.er/\k σ1=some r:=by
 unfold TP at h
 split at h
 ·rename_i fn hf
  split at h
  ·rename_i n s lo len ha
   split at h
   ·rename_i gr mo ts xs dR
    have hs1:=(aH h).1
    replace h:=(aH h).2
    have ht1:=(aH h).1
    replace h:=(aH h).2
    rw[cU] at h
    obtain⟨el,he,h⟩:=h
    rw[cU] at h
    obtain⟨wl,hw,h⟩:=h
    subst hs1
    have pt:lo<xs.length:=(List.getElem?_eq_some_iff.1 (show xs[lo]? =some el from he)).1
    have fb:lo+len<=xs.length:=by
     unfold cO at hw
     split at hw
     ·rename_i hc;exact hc
     ·cases hw
    split at h
    ·rename_i bY hc
     have d7:=JW (bw h).1;replace h:=(bw h).2
     obtain⟨ds,its,h1,h2⟩:=KA h
     have iC:=amm (bw h2).1;replace h2:=(bw h2).2
     obtain⟨ys,lC⟩:=iC
     split at h2
     ·rename_i x hx
      rw[cU] at h2
      obtain⟨y,hF,h2⟩:=h2
      obtain⟨σ1,h3,h4⟩:=KD h2
      split at h4
      ·rename_i ls σ2 hs
       refine⟨_,?_,h4⟩
       have e:=FW m hs
       have hM:fn.MX (cF fn.args x)=some (((fW fn.aB y).take (fn.aB.length - 1)).map bz.er,cg (((fW fn.aB y).drop (fn.aB.length - 1)).flatMap (·.2))):=by
        unfold ar.MX
        rw[ar.sS,hF]
        simp only[Option.map_some]
        rw[<-rK,Ag]
       have hh:σ.er.h=cf σ.h:=rfl
       have bh:σ.er.h n=some (.row gr mo ts.length (List.map (Ty.aw ts) xs)):=by simp[aa.er,cf,dR,SB.er]
       have dh:dI lo::dI (lo+len)::ds.map bz.er=cF fn.args x:=pQ hx
       have vu:xM fn.mu.nP lo (lo+len) fn.MX (ds.map bz.er)=some (((fW fn.aB y).take (fn.aB.length - 1)).map bz.er,cg (((fW fn.aB y).drop (fn.aB.length - 1)).flatMap (·.2))):=by
        unfold xM
        rw[lC]
        simp only
        rw[dh,hM]
       have hxr:Dk σ.er.h (.one (.sl n 1 lo len))=some (n,lo,len,xs.length):=by
        unfold Dk
        simp only[bh]
        rw[if_pos ⟨trivial,ht1,by rw[List.length_map];exact pt,by rw[List.length_map];exact fb⟩,List.length_map]
       have rQ:(as.map SV.er)[fn.mu.nP]? =some (.one (.sl n 1 lo len)):=by
        rw[List.getElem?_map,ha]
        rfl
       have tz:(as.map SV.er).set fn.mu.nP (.one (.sl n 1 0 xs.length))=(as.set fn.mu.nP (.one (.sl n 1 0 (J xs)))).map SV.er:=by
        rw[List.map_set]
        rfl
       rw[Kt] at h1
       unfold uM
       rw[ar.WR hf]
       simp only[rQ,hxr,tz]
       unfold qu
       simp only[aF.me,if_true,Kw hc,Ky,if_pos d7,hh,h1,vu,h3,e,aa.cL,Ah]
      ·cases h4
     ·cases h2
    ·cases h
   ·cases h
  ·cases h
 ·cases h
def F8:List SV->Option (List bz)
 |[]=>some []
 |v::vs=>match v.cells? with
  |some (ag,cs)=>match yb cs with
   |some l=>match F8 vs with
    |some ds=>some ((Cm ag,l)::ds)
    |none=>none
   |none=>none
  |none=>none
theorem aa1:∀{vs:List SV} {ds:List bz},F8 vs=some ds->z5 (vs.map SV.er)=some (ds.map bz.er)
 |[],ds,h=>by simp only[F8] at h;injection h with h;subst h;rfl
 |v::vs,ds,h=>by
  simp only[F8] at h
  split at h
  ·rename_i ag cs hc
   split at h
   ·rename_i l hl
    split at h
    ·rename_i tf hd
     injection h with h
     subst h
     simp only[List.map_cons,z5,SV.jo hc,FV hl,aa1 hd,bz.er]
     cases ag<;>rfl
    ·cases h
   ·cases h
  ·cases h
def TN (T:List ar) (d:Option Nat) (f:FuncId) (as:List SV) (σ:aa) (k:aa->Option ρ):Option ρ:=
 match ar.ld 2 T f with
 |some fn=>match F8 as with
  |some ds=>match lJ fn.args ds with
   |some x=>(fn.F x).U fun y=>match((fW fn.aB y).drop (fn.aB.length - pT fn.args)).flatMap (·.2) with
    |[]=>match Ab ((fW fn.aB y).take (fn.aB.length - pT fn.args)) with
     |some ls=>k (σ.put d (yi ls))
     |none=>none
    |_=>none
   |none=>none
  |none=>none
 |none=>none
theorem alJ {T:List ar} {d:Option Nat} {f:FuncId} {as:List SV} {σ:aa} {k:aa->Option ρ} {r:ρ} (h:TN T d f as σ k=some r):
  ∃v:SV,yX (bT T) f (as.map SV.er)=some v.er/\k (σ.put d v)=some r:=by
 unfold TN at h
 split at h
 ·rename_i fn hf
  split at h
  ·rename_i ds hd
   split at h
   ·rename_i x hx
    rw[cU] at h
    obtain⟨y,hF,h⟩:=h
    split at h
    ·rename_i ho
     split at h
     ·rename_i ls hs
      refine⟨_,?_,h⟩
      have hM:fn.MV (cF fn.args x)=some (((fW fn.aB y).take (fn.aB.length - pT fn.args)).map bz.er,[]):=by
       unfold ar.MV
       rw[ar.sS,hF]
       simp only[Option.map_some]
       rw[<-rK,Ag,ho]
       rfl
      simp only[yX,aa1 hd,ar.WO hf,pQ hx,hM,Ko hs,Ah]
     ·cases h
    ·cases h
   ·cases h
  ·cases h
 ·cases h
def TO (T:List ar) (d:Option Nat) (f:FuncId) (as:List SV) (σ:aa) (k:aa->Option ρ):Option ρ:=
 match ar.ld 3 T f with
 |some fn=>match fn.mu.dX with
  |3=>match Ad as with
   |some bY=>match yf fn.mu.tl bY with
    |[n]=>C1 σ.h (CZ σ.h [n]) fn.mu.tl bY fun ds its=>match its with
     |[(.row n',_)]=>bH n' n (match σ.h n with
      |some (.row _ _ ts xs)=>match lJ fn.args ds with
       |some x=>(fn.F x).U fun y=>match fW fn.aB y with
        |[(.one,[⟨.int _,a⟩]),(.one,[⟨.int _,b⟩])]=>(ye a b (J xs)).U fun p=>k (σ.put d (.one (.sl n ts.length p.1 p.2)))
        |_=>none
       |none=>none
      |_=>none)
     |_=>none
    |_=>none
   |none=>none
  |_=>none
 |none=>none
theorem alK {T:List ar} {d:Option Nat} {f:FuncId} {as:List SV} {σ:aa} {k:aa->Option ρ} {r:ρ} (h:TO T d f as σ k=some r):
  ∃v:SV,pb (bT T) f (as.map SV.er) σ.er.h=some v.er/\k (σ.put d v)=some r:=by
 unfold TO at h
 split at h
 ·rename_i fn hf
  split at h
  ·rename_i gM
   split at h
   ·rename_i bY hc
    split at h
    ·rename_i n hn
     obtain⟨ds,its,h1,h2⟩:=KA h
     split at h2
     ·rename_i n' md
      have he:=(aH h2).1;replace h2:=(aH h2).2
      subst he
      split at h2
      ·rename_i gr mo ts xs dR
       split at h2
       ·rename_i x hx
        rw[cU] at h2
        obtain⟨y,hF,h2⟩:=h2
        split at h2
        ·rename_i ka a kb b hy
         rw[cU] at h2
         obtain⟨p,hs,h2⟩:=h2
         refine⟨_,?_,h2⟩
         unfold ye at hs
         split at hs
         ·rename_i bR
          injection hs with hs
          subst hs
          have hM:fn.MW (cF fn.args x)=some (Int.toNat a,Int.toNat (@HSub.hSub Int Int Int instHSub b a)):=by
           unfold ar.MW
           rw[ar.sS,hF]
           simp only[Option.map_some,Option.bind_some]
           rw[<-rK,hy]
           rfl
          have hh:σ.er.h=cf σ.h:=rfl
          have bh:σ.er.h n'=some (.row gr mo ts.length (List.map (Ty.aw ts) xs)):=by simp[aa.er,cf,dR,SB.er]
          rw[Kt] at h1
          simp only[pb,ar.WQ hf,Kw hc,Ky,hn,hh,h1,pQ hx,hM]
          rw[hh] at bh
          simp only[bh,if_true]
          rfl
         ·cases hs
        ·cases h2
       ·cases h2
      ·cases h2
     ·cases h2
    ·cases h
   ·cases h
  ·cases h
 ·cases h
def TS (σ:aa) (p:SC) (k:aa->Option ρ):Option ρ:=
 match p with
 |.ptr n _ _ _=>match σ.h n with
  |some (.box cs)=>Aj σ cs fun l _ σ1=>k (σ1.cW n (.box (l.map fun x=>.v x.1 x.2)))
  |_=>none
 |_=>none
theorem alQ {σ:aa} {p:SC} {k:aa->Option ρ} {r:ρ} (h:TS σ p k=some r):∃σ1,σ.er.qB p.er=some σ1.er/\k σ1=some r:=by
 unfold TS at h
 split at h
 ·rename_i n kk sz off
  split at h
  ·rename_i cs hn
   obtain⟨l,o,σ1,h1,h2⟩:=Gc h
   refine⟨_,?_,h2⟩
   have bh:σ.er.h n=some (.box (cs.map SC.er)):=by simp[aa.er,cf,hn,SB.er]
   simp only[SC.er,St.qB,bh,h1]
   rw[aa.n6,SB.er,K5]
  ·cases h
 ·cases h
inductive cl where
 |mv (x:bV)
 |pick (c x y:bV)
 |alloc (zs:List SC)
 |box (sz:Nat) (x:bV)
 |build (zs:List SC) (parts:List (Nat×Nat×bV))
 |fF (ts:List Ty) (parts:List bV)
 |load (ag:Bool) (sz:Nat) (x:bV)
 |store (sz:Nat) (x v:bV)
 |oG (x:bV)
 |bin (op:BinOp) (x y:bV)
 |oZ (op:BinOp) (x y:bV)
 |un (op:UnOp) (x:bV)
 |conv (k:IntKind) (x:bV)
 |lK (m:Mode) (ts:List Ty) (by_:Nat) (z:Ty.DL ts) (l c:bV)
 |slice (sz:Nat) (x:bV) (lo hi:Option bV)
 |tail (sz:Nat) (x lo:bV)
 |oE (ag:Bool) (sz:Nat) (x:bV)
 |aC (off:Nat) (x:bV)
 |cH (sz:Nat) (x i:bV)
 |ext (i:Nat) (x:bV)
 |n8 (ag:Bool) (off sz:Nat) (x:bV)
 |nJ (f:FuncId) (bU:Bool) (x:bV)
 |len (x:bV)
 |append (fl:Bool) (ts:List Ty) (by_:Nat) (x y:bV)
 |mm (mx:Bool) (x y:bV)
 |call (m:Mode) (f:FuncId) (xs:List bV)
 |lT (f:FuncId) (xs:List bV)
 |copy (x y:bV)
 |kq (t:Ty) (z:t.D) (x:bV)
 |pR (f:FuncId) (xs:List bV)
 |lV (m:Mode) (x:bV) (xs:List bV)
 |fN (m:Mode) (f:FuncId) (xs:List bV)
 |iA (f:FuncId) (xs:List bV)
 |lW (f:FuncId) (xs:List bV)
 |lU (f:FuncId) (xs:List bV)
 |lY (m:Mode) (f:FuncId) (xs:List bV)
 |nX (m:Mode) (f:FuncId) (x:bV) (xs:List bV)
def cl.er:cl->aI
 |.mv x=>.mv x.er
 |.pick c x y=>.pick c.er x.er y.er
 |.alloc zs=>.alloc (zs.map SC.er)
 |.box sz x=>.box sz x.er
 |.build zs ps=>.build (zs.map SC.er) (ps.map fun p=>(p.1,p.2.1,p.2.2.er))
 |.fF ts ps=>.fF ts.length (ps.map bV.er)
 |.load ag sz x=>.load ag sz x.er
 |.oE ag sz x=>.oE ag sz x.er
 |.store sz x v=>.store sz x.er v.er
 |.oG x=>.oG x.er
 |.bin op x y=>.bin op x.er y.er
 |.oZ op x y=>.oZ op x.er y.er
 |.un op x=>.un op x.er
 |.conv k x=>.conv k x.er
 |.lK m ts by_ z l c=>.lK m ts.length by_ (Ty.aw ts z) l.er c.er
 |.slice sz x lo hi=>.slice sz x.er (lo.map bV.er) (hi.map bV.er)
 |.tail sz x lo=>.tail sz x.er lo.er
 |.aC off x=>.aC off x.er
 |.cH sz x i=>.cH sz x.er i.er
 |.ext i x=>.ext i x.er
 |.n8 ag off sz x=>.n8 ag off sz x.er
 |.nJ f bU x=>.nJ f bU x.er
 |.len x=>.len x.er
 |.append fl ts by_ x y=>.append fl ts.length by_ x.er y.er
 |.mm b x y=>.mm b x.er y.er
 |.call m f xs=>.call m f (xs.map bV.er)
 |.lT f xs=>.lT f (xs.map bV.er)
 |.copy x y=>.copy 1 x.er y.er
 |.kq t z x=>.kq (t.er z) x.er
 |.pR f xs=>.pR f (xs.map bV.er)
 |.lV m x xs=>.lV m x.er (xs.map bV.er)
 |.fN m f xs=>.fN m f (xs.map bV.er)
 |.iA f xs=>.iA f (xs.map bV.er)
 |.lW f xs=>.lW f (xs.map bV.er)
 |.lU f xs=>.lU f (xs.map bV.er)
 |.lY m f xs=>.lY m f (xs.map bV.er)
 |.nX m f x xs=>.nX m f x.er (xs.map bV.er)
theorem rM (σ:aa) (xs:List bV):(xs.map bV.er).map σ.er.ev=(xs.map σ.ev).map SV.er:=by
 simp[aa.cG]
def Gb (ev:bV->SV):List SC->List (Nat×Nat×bV)->Option (List SC)
 |zs,[]=>some zs
 |zs,(off,sz,x)::ps=>match(ev x).cells? with
  |some (_,cs)=>bH cs.length sz (da (Nat.ble (off+sz) zs.length) (Gb ev (ci zs off cs) ps))
  |none=>none
theorem abb {σ:aa}:∀{ps:List (Nat×Nat×bV)} {zs cs:List SC},Gb σ.ev zs ps=some cs->
  pZ σ.er.ev (zs.map SC.er) (ps.map fun p=>(p.1,p.2.1,p.2.2.er))=some (cs.map SC.er)
 |[],zs,cs,h=>by simp only[Gb] at h;injection h with h;subst h;rfl
 |(off,sz,x)::ps,zs,cs,h=>by
  simp only[Gb] at h
  split at h
  ·rename_i b V0 hc
   have aQ:=(aH h).1;replace h:=(aH h).2;subst aQ
   have hb:=(bw h).1;replace h:=(bw h).2
   have ih:=abb h
   rw[C5] at ih
   have fb:=Nat.le_of_ble_eq_true hb
   simp only[List.map_cons,pZ,aa.cG,SV.jo hc,List.length_map,fb,and_self,if_true,ih]
  ·cases h
def Km (l:List TD):Bool:=l.all fun x=>x.1.dL
theorem alA (l:List TD):eo (cg l)=Km l:=by
 simp[eo,cg,Km,List.all_map,Function.comp_def,Ty.v9]
def Ug (σ:aa) (n:Nat) (gr:Bool) (m:Mode) (ts:List Ty) (xs:List (Ty.DL ts)) (kk off:Nat) (e:Ty.DL ts) (vs:List SC) (k:aa->Option ρ):Option ρ:=
 match sub (Ty.fG ts e) off vs.length with
 |none=>none
 |some f8=>Aj σ vs fun cs o σ1=>match pP ts (ci (Ty.fG ts e) off cs) with
  |none=>none
  |some e'=>match m with
   |.live=>da (Km cs&&Km f8&&(σ1.h n).isSome&& !gr) (k (σ1.cW n (.row gr .live ts (cK xs kk e'))))
   |.af=>da (σ1.h n).isSome (k (σ1.cW n (.row gr (match o with|true=>.af|false=>.aG) ts (cK xs kk e'))))
   |.aG=>da (σ1.h n).isSome (k (σ1.cW n (.row gr .aG ts (cK xs kk e'))))
theorem Wm (h:Nat->Option SB) (n:Nat):(cf h n).isSome=(h n).isSome:=by
 unfold cf;cases h n<;>rfl
theorem amc {σ:aa} {n:Nat} {gr:Bool} {m:Mode} {ts:List Ty} {xs:List (Ty.DL ts)} {kk off:Nat} {e:Ty.DL ts} {vs:List SC} {k:aa->Option ρ} {r:ρ}
  (h:Ug σ n gr m ts xs kk off e vs k=some r):
  ∃σ1:aa,mQ σ.er n gr m ts.length (List.map (Ty.aw ts) xs) kk off (Ty.aw ts e) (vs.map SC.er)=some σ1.er/\k σ1=some r:=by
 unfold Ug at h
 split at h
 ·cases h
 ·rename_i f8 ho
  obtain⟨cs,o,σ1,h1,h2⟩:=Gc h
  have hold:sub (Ty.aw ts e) off (vs.map SC.er).length=some (cg f8):=by
   rw[<-Ty.n5]
   simp only[cg]
   rw[rp,List.length_map,ho]
   rfl
  split at h2
  ·cases h2
  ·rename_i e' he
   have vo:ci (Ty.aw ts e) off (cg cs)=Ty.aw ts e':=by
    rw[vP he,<-Ty.n5]
    simp only[cg]
    rw[<-C5]
   have tz:(List.map (Ty.aw ts) xs).set kk (Ty.aw ts e')=List.map (Ty.aw ts) (cK xs kk e'):=by
    show _=List.map (Ty.aw ts) (xs.set kk e')
    rw[List.map_set]
   have B3:σ1.er.h n=(σ1.h n).map SB.er:=rfl
   split at h2
   ·have hb:=(bw h2).1;replace h2:=(bw h2).2
    simp only[Bool.and_eq_true,Bool.not_eq_true'] at hb
    refine⟨_,?_,h2⟩
    simp only[mQ,hold,h1,if_true,alA,hb.1.1.1,hb.1.1.2,B3,Option.isSome_map,hb.1.2,hb.2,and_self,vo,tz,aa.n6,SB.er]
   ·have hb:=(bw h2).1;replace h2:=(bw h2).2
    refine⟨_,?_,h2⟩
    cases o<;>simp only[mQ,hold,h1,B3,Option.isSome_map,hb,vo,tz,aa.n6,SB.er,reduceCtorEq,if_false,if_true,Bool.false_eq_true,cond_true,cond_false,ite_self]
   ·have hb:=(bw h2).1;replace h2:=(bw h2).2
    refine⟨_,?_,h2⟩
    cases o<;>simp only[mQ,hold,h1,B3,Option.isSome_map,hb,vo,tz,aa.n6,SB.er,reduceCtorEq,if_false,if_true,Bool.false_eq_true,cond_true,cond_false,ite_self]
def wN (us ts:List Ty) (xs:List (Ty.DL us)):Option (List (Ty.DL ts)):=if h:Ty.rG us ts=true then some (Ty.rH h▸xs) else none
theorem Me {us ts:List Ty} {xs:List (Ty.DL us)} {ys:List (Ty.DL ts)} (h:wN us ts xs=some ys):us.length=ts.length/\List.map (Ty.aw us) xs=List.map (Ty.aw ts) ys/\xs.length=ys.length:=by
 unfold wN at h
 split at h
 ·rename_i he
  have:=Ty.rH he
  subst this
  injection h with h
  rw[<-h]
  exact⟨rfl,rfl,rfl⟩
 ·cases h
def SF (σ:aa) (ts:List Ty) (v:SV) (k:List (Ty.DL ts)->Mode->aa->Option ρ):Option ρ:=
 match v with
 |.one (.nil _)=>k [] .af σ
 |.one (.sl a s lo len)=>match σ.h a with
  |some (.row true m us xs)=>bH s ts.length (bH lo 0 (match wN us ts xs with
   |some ys=>(ai lo len (J ys)).U fun _=>k ys m (σ.del a)
   |none=>none))
  |_=>none
 |_=>none
theorem IK {lo len l:Nat} {u:Unit} (h:ai lo len l=some u):lo=0/\len=l:=by
 unfold ai at h
 split at h
 ·rename_i hc;exact hc
 ·cases h
theorem alw {σ:aa} {ts:List Ty} {v:SV} {k:List (Ty.DL ts)->Mode->aa->Option ρ} {r:ρ} (h:SF σ ts v k=some r):
  ∃(xs:List (Ty.DL ts)) (m:Mode) (σ1:aa),qi σ.er ts.length v.er=some (List.map (Ty.aw ts) xs,m,σ1.er)/\k xs m σ1=some r:=by
 unfold SF at h
 split at h
 ·exact⟨[],.af,σ,rfl,h⟩
 ·rename_i a s lo len
  split at h
  ·rename_i m us xs hn
   have aQ:=(aH h).1;replace h:=(aH h).2;subst aQ
   have aQ:=(aH h).1;replace h:=(aH h).2;subst aQ
   split at h
   ·rename_i ys hc
    obtain⟨c1,c2,c3⟩:=Me hc
    rw[cU] at h
    obtain⟨_,hf,h⟩:=h
    obtain⟨_,hlen⟩:=IK hf
    replace hlen:len=ys.length:=hlen
    refine⟨ys,m,σ.del a,?_,h⟩
    have bh:σ.er.h a=some (.row true m ts.length (List.map (Ty.aw ts) ys)):=by simp[aa.er,cf,hn,SB.er,c1,c2]
    subst hlen
    simp only[SV.er,SC.er,qi,bh,List.length_map,and_self,if_true,aa.y4]
   ·cases h
  ·cases h
 ·cases h
theorem aan (ts:List Ty) (xs:List (Ty.DL ts)) (h:Ty.eo ts=true):dd (List.map (Ty.aw ts) xs)=true:=by
 simp only[dd,List.all_eq_true,List.mem_map]
 rintro _ ⟨e,_,rfl⟩
 rw[Ty.FM]
 exact h
def SG (fl:Bool) (σ:aa) (ts:List Ty) (m:Mode) (v:SV) (k:List (Ty.DL ts)->Mode->aa->Option ρ):Option ρ:=
 match v with
 |.one (.nil _)=>k [] m σ
 |.one (.v (.list us) ys)=>match wN us ts ys with
  |some zs=>match fl with
   |true=>da (Ty.eo ts) (k zs m σ)
   |false=>match m with
    |.live=>none
    |_=>k zs .aG σ
  |none=>none
 |.one (.sl b s lo len)=>match σ.h b with
  |some (.row gr m' us ys)=>bH s ts.length (match wN us ts ys with
   |some zs=>match fl with
    |true=>da (Ty.eo ts) ((cO zs lo len).U fun ws=>k ws m σ)
    |false=>(ai lo len (J zs)).U fun _=>match m,m' with
     |.af,.af=>k zs .af (σ.del b)
     |.live,.live=>da gr (k zs .live (σ.del b))
     |.aG,.aG=>k zs .aG (σ.del b)
     |.af,.aG=>k zs .aG (σ.del b)
     |.aG,.af=>k zs .aG (σ.del b)
     |_,_=>none
   |none=>none)
  |_=>none
 |_=>none
theorem alx {fl:Bool} {σ:aa} {ts:List Ty} {m:Mode} {v:SV} {k:List (Ty.DL ts)->Mode->aa->Option ρ} {r:ρ} (h:SG fl σ ts m v k=some r):
  ∃(ys:List (Ty.DL ts)) (m2:Mode) (σ1:aa),ko fl σ.er ts.length m v.er=some (List.map (Ty.aw ts) ys,m2,σ1.er)/\k ys m2 σ1=some r:=by
 unfold SG at h
 split at h
 ·exact⟨[],m,σ,rfl,h⟩
 ·rename_i us ys
  split at h
  ·rename_i zs hc
   obtain⟨e1,e2,e3⟩:=Me hc
   have lZ:Ty.er (.list us) ys=.list ts.length (List.map (Ty.aw ts) zs):=by rw[<-e1,<-e2];rfl
   split at h
   ·have hs:=(bw h).1;replace h:=(bw h).2
    refine⟨zs,m,σ,?_,h⟩
    simp only[SV.er,SC.er,lZ,ko,if_true,Bool.true_and,aan ts zs hs]
   ·split at h
    ·cases h
    ·rename_i hm
     refine⟨zs,.aG,σ,?_,h⟩
     have bm:m≠ .live:=fun e=>hm e
     simp only[SV.er,SC.er,lZ,ko,if_true,Bool.false_and,Bool.false_eq_true,if_false,if_neg bm]
  ·cases h
 ·rename_i b s lo len
  split at h
  ·rename_i gr m' us ys hn
   have aQ:=(aH h).1;replace h:=(aH h).2;subst aQ
   split at h
   ·rename_i zs hc
    obtain⟨e1,e2,e3⟩:=Me hc
    have bh:σ.er.h b=some (.row gr m' ts.length (List.map (Ty.aw ts) zs)):=by simp[aa.er,cf,hn,SB.er,e1,e2]
    split at h
    ·have hs:=(bw h).1;replace h:=(bw h).2
     rw[cU] at h
     obtain⟨ws,hw,h⟩:=h
     obtain⟨w1,w2⟩:=abT hw
     refine⟨ws,m,σ,?_,h⟩
     simp only[SV.er,SC.er,ko,bh,List.length_map,w1,w2,and_self,if_true,Bool.true_and,aan ts ws hs]
    ·rw[cU] at h
     obtain⟨_,hf,h⟩:=h
     obtain⟨rfl,hlen⟩:=IK hf
     replace hlen:len=zs.length:=hlen
     subst hlen
     have kz:List.take zs.length (List.map (Ty.aw ts) zs)=List.map (Ty.aw ts) zs:=by
      rw[List.take_of_length_le];simp
     cases m<;>cases m'<;>first
      |(cases h;done)
      |exact⟨zs,_,σ.del b,by simp[SV.er,SC.er,ko,bh,aa.y4],h⟩
      |exact⟨zs,_,σ.del b,by have hg:=(bw h).1;subst hg;simp[SV.er,SC.er,ko,bh,aa.y4],(bw h).2⟩
   ·cases h
  ·cases h
 ·cases h
def SC.W5:SC->Bool
 |.fn _ _=>false
 |.aX=>false
 |_=>true
def Ae:List SV->Option (List SC)
 |[]=>some []
 |.one c::vs=>match c.W5,Ae vs with
  |true,some cs=>some (c::cs)
  |_,_=>none
 |_::_=>none
theorem aaM:∀{vs:List SV} {cs:List SC},Ae vs=some cs->
  (vs.map SV.er).mapM (fun v=>match v with|.one c=>if c.fR=true then none else some c|_=>none)=some (cs.map SC.er)/\(cs.map SC.er).all ab.Fy=true
 |[],cs,h=>by simp only[Ae] at h;injection h with h;subst h;exact⟨rfl,rfl⟩
 |.one c::vs,cs,h=>by
  simp only[Ae] at h
  split at h
  ·rename_i cs' e1 e2
   injection h with h
   subst h
   obtain⟨i1,i2⟩:=aaM e2
   have hc:c.er.fR=false/\c.er.Fy=true:=by cases c<;>first|exact⟨rfl,rfl⟩|(simp[SC.W5] at e1)
   refine⟨?_,by simp[hc.2];simpa using i2⟩
   simp only[List.map_cons,List.mapM_cons,SV.er,hc.1]
   rw[i1]
   rfl
  ·cases h
 |.agg _::_,cs,h=>by simp[Ae] at h
 |.bk _::_,cs,h=>by simp[Ae] at h
end
end Go.Am
